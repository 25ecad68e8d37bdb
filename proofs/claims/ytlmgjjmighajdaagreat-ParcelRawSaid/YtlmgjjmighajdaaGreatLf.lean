/-
  A part of the walk and of the plain law of one given statement. No condition.
-/
import Derived.Test.YtlmgjjmighajdaaGreatQM
import Derived.Test.YtlmgjjmighajdaaGreatSk
import Derived.ProofKit
import Derived.OpenShut
import Derived.Stop.Joined
import Derived.Deep.Slices
set_option linter.unusedSimpArgs false
set_option linter.unusedVariables false
namespace Go.Proofs.YtlmgjjmighajdaaGreat
open Go.Sl Go.Sx
theorem getK_put {β:Type}:∀(D:List (Int×β)) (k:Int) (v:β) (j:Int),getK (putK D k v) j=if k=j then some v else getK D j
  | [],k,v,j=>by
    by_cases e:k=j
    · simp [putK,getK,e]
    · have:(k == j)=false:=by simpa using e
      simp [putK,getK,e,this]
  | p::D,k,v,j=>by
    have bk:∀a b:Int,(a == b)=decide (a=b):=fun a b=>rfl
    by_cases e:k=j
    · subst e
      by_cases h1:k<p.1
      · simp [putK,getK,h1]
      · by_cases h2:k=p.1
        · simp [putK,getK,h2]
        · have h3:¬ p.1=k:=fun x=>h2 x.symm
          have ih:=getK_put D k v k
          rw [if_pos rfl] at ih
          simp only [putK,bk,decide_eq_false h1,decide_eq_false h2,cond_false,getK,decide_eq_false h3,if_true]
          exact ih
    · have hj:(k == j)=false:=by simpa using e
      by_cases h1:k<p.1
      · simp [putK,getK,h1,hj,e]
      · by_cases h2:k=p.1
        · have h3:(p.1 == j)=false:=by rw [← h2]; exact hj
          subst h2
          simp [putK,getK,e,hj]
        · have ih:=getK_put D k v j
          rw [if_neg e] at ih
          simp only [putK,bk,decide_eq_false h1,decide_eq_false h2,cond_false,getK,if_neg e]
          rw [ih]
def inB (l:Int) (s:List (Int×Bool)):Bool:=lkK s l false
def Tr (s:List (Int×Bool)):Prop:=∀p∈s,p.2=true
def Tru (M:List (List (Int×Bool))):Prop:=∀u∈M,Tr u
def bl (l:Int) (M:List (List (Int×Bool))):List Bool:=M.map (inB l)
theorem inB_nil (l:Int):inB l []=false:=rfl
theorem inB_put {s:List (Int×Bool)} {k l:Int}:inB l (putK s k true)=(k == l || inB l s):=by
  unfold inB lkK
  rw [getK_put]
  by_cases e:k=l <;> simp [e]
theorem Tr.nil:Tr []:=fun p hp=>by cases hp
theorem Tr.put:∀ {s:List (Int×Bool)} {k:Int},Tr s→Tr (putK s k true)
  | [],k,_=>fun p hp=>by simp [putK] at hp; rw [hp]
  | q::s,k,h=>fun p hp=>by
    simp only [putK] at hp
    cases h1:decide (k<q.1) with
    | true =>
      rw [h1,cond_true] at hp
      rcases List.mem_cons.1 hp with e | hp
      · rw [e]
      · exact h p hp
    | false =>
      rw [h1,cond_false] at hp
      cases h2:k == q.1 with
      | true =>
        rw [h2,cond_true] at hp
        rcases List.mem_cons.1 hp with e | hp
        · rw [e]
        · exact h p (List.mem_cons_of_mem _ hp)
      | false =>
        rw [h2,cond_false] at hp
        rcases List.mem_cons.1 hp with e | hp
        · rw [e]; exact h q (by simp)
        · exact Tr.put (s:=s) (fun p hp=>h p (List.mem_cons_of_mem _ hp)) p hp
theorem Tr.any {l:Int}:∀ {s:List (Int×Bool)},Tr s→(s.any fun p=>p.1 == l)=inB l s
  | [],_=>rfl
  | q::s,h=>by
    have ih:=Tr.any (l:=l) (s:=s) fun p hp=>h p (List.mem_cons_of_mem _ hp)
    rw [List.any_cons,ih]
    unfold inB lkK
    cases e:q.1 == l with
    | true=>simp [getK,e,h q (by simp)]
    | false=>simp [getK,e]
theorem uni_any {l:Int}:∀ {s D:List (Int×Bool)},inB l (uniK D s)=(inB l D || s.any fun p=>p.1 == l)
  | [],D=>by simp [uniK]
  | q::s,D=>by
    show inB l (uniK (putK D q.1 true) s)=_
    rw [uni_any,inB_put,List.any_cons]
    cases inB l D <;> cases q.1 == l <;> simp
theorem uni_tr:∀ {s D:List (Int×Bool)},Tr D→Tr (uniK D s)
  | [],D,h=>h
  | q::s,D,h=>uni_tr (s:=s) (D:=putK D q.1 true) h.put
theorem uni2_tr {s u:List (Int×Bool)}:Tr (uniK (uniK [] s) u):=uni_tr (uni_tr Tr.nil)
theorem inB_uni {l:Int} {s u:List (Int×Bool)} (h:Tr s) (k:Tr u):inB l (uniK (uniK [] s) u)=(inB l s || inB l u):=by
  rw [uni_any,uni_any,k.any,h.any,inB_nil,Bool.false_or]
theorem inB_uni1 {l:Int} {u:List (Int×Bool)} (k:Tr u):inB l (uniK [] u)=inB l u:=by
  rw [uni_any,k.any,inB_nil,Bool.false_or]
theorem Tru.left {M:List (List (Int×Bool))} {s:List (Int×Bool)} (h:Tru (M ++ [s])):Tru M∧Tr s:=⟨fun u hu=>h u (by simp [hu]),h s (by simp)⟩
theorem Tru.append {M:List (List (Int×Bool))} {s:List (Int×Bool)} (h:Tru M) (k:Tr s):Tru (M ++ [s]):=fun u hu=>by
  rcases List.mem_append.1 hu with hu | hu
  · exact h u hu
  · rw [List.mem_singleton] at hu; rw [hu]; exact k
theorem bl_snoc (l:Int) (M:List (List (Int×Bool))) (s:List (Int×Bool)):bl l (M ++ [s])=bl l M ++ [inB l s]:=by simp [bl]
end Go.Proofs.YtlmgjjmighajdaaGreat
set_option linter.unusedSimpArgs false
set_option linter.unusedVariables false
namespace Go.Proofs.YtlmgjjmighajdaaGreat
open Go.Sl Go.Sx
def tk (h:List Part) (m:Int):List Part:=takenL h (dealH m h)
def lf (h:List Part) (m:Int):List Part:=leftL h (dealH m h)
structure Cut (ids:List Int) (h:List Part) (m:Int):Prop where
  inn:In ids h
  i8:ids.length≤40
  s:sumM h≤100000000
  m0:0≤m
  m1:m≤sumM h
variable {ids : List Int} {h : List Part} {m : Int}
theorem Cut.heap (c:Cut ids h m):HeapOk h:=c.inn.heap (by have:=c.i8; omega) c.s
theorem Cut.len (c:Cut ids h m):h.length≤40:=by have:=c.inn.len; have:=c.i8; omega
theorem Cut.fits (c:Cut ids h m):Fits h (dealH m h)∧(dealH m h).sum=m:=by
  obtain ⟨h1,h2⟩:=fits_heap c.heap c.m0 c.m1 c.len
  refine ⟨h1,h2.trans ?_⟩
  split
  · rename_i e; have:=c.m1; have:=c.m0; subst e; simp [sumM] at *; omega
  · rfl
theorem Cut.tk_sum (c:Cut ids h m):sumM (tk h m)=m:=(taken_sum c.fits.1).trans c.fits.2
theorem Cut.lf_sum (c:Cut ids h m):sumM (lf h m)=sumM h - m:=by have:=left_sum c.fits.1; rw [c.fits.2] at this; exact this
theorem Cut.tk_in (c:Cut ids h m):In ids (tk h m):=⟨taken_part c.fits.1 c.inn.ok,taken_rise c.inn.rise,fun q hq=>by obtain ⟨p,hp,e⟩:=taken_lots hq; rw [← e]; exact c.inn.ids p hp⟩
theorem Cut.lf_in (c:Cut ids h m):In ids (lf h m):=⟨left_part c.fits.1 c.inn.ok,left_rise c.inn.rise,fun q hq=>by obtain ⟨p,hp,e⟩:=left_lots hq; rw [← e]; exact c.inn.ids p hp⟩
theorem In.pos (k:In ids h) (hne:h≠[]):0<sumM h:=by
  obtain ⟨p,hp⟩:=List.exists_mem_of_ne_nil _ hne
  have h1:=sumM_ge (fun q hq=>(k.ok q hq).m0) p hp
  have:=(k.ok p hp).m0
  omega
theorem Cut.lf_nil (c:Cut ids h m) (e:m=sumM h):lf h m=[]:=by
  by_cases hne:lf h m=[]
  · exact hne
  · have:=c.lf_in.pos hne; have:=c.lf_sum; omega
theorem Cut.lf_ne (c:Cut ids h m) (e:m<sumM h):lf h m≠[]:=fun k=>by
  have:=c.lf_sum
  rw [k] at this
  simp [sumM] at this e
  omega
theorem Cut.F39 (c:Cut ids h m) {f:Nat} (hf:1001≤f):F39 f h m=some (tk h m,lf h m):=F39_eq c.heap c.m0 c.m1 c.len (by omega)
theorem Cut.F83 (c:Cut ids h m) {f:Nat} (hf:1001≤f):F83 f h m=some (tk h m,lf h m):=F83_eq c.heap c.m0 c.m1 c.len hf
def drawR:List (List Part)→List Part→Int→List (List Part)×List Part
  | [],out,_=>([],out)
  | p::r,out,m=>if m≤sumM p then ((if lf p m=[] then r else lf p m::r),mergeP out (tk p m)) else drawR r (mergeP out (tk p (sumM p))) (m - sumM p)
def drawB:List (List Part)→List Bool→Bool→Int→List Bool×Bool
  | p::r,b::B,s,m=>if m≤sumM p then ((if lf p m=[] then B else b::B),s || b) else drawB r B (s || b) (m - sumM p)
  | _,B,s,_=>(B,s)
structure Hold (ids:List Int) (r:List (List Part)):Prop where
  i8:ids.length≤40
  ins:∀p∈r,In ids p
  ne:∀p∈r,p≠[]
  len:r.length≤100
theorem Hold.sum_pos {r:List (List Part)} (k:Hold ids r):0≤sumH r:=by
  have:∀l:List (List Part),(∀p∈l,In ids p)→(∀p∈l,p≠[])→0≤sumH l:=by
    intro l
    induction l with
    | nil=>intro _ _; simp [sumH]
    | cons p l ih =>
      intro h1 h2
      have:=ih (fun q hq=>h1 q (by simp [hq])) fun q hq=>h2 q (by simp [hq])
      have:=(h1 p (by simp)).pos (h2 p (by simp))
      simp only [sumH,List.map_cons,List.sum_cons] at *
      omega
  exact this r k.ins k.ne
theorem Hold.tail {p:List Part} {r:List (List Part)} (k:Hold ids (p::r)):Hold ids r:=⟨k.i8,fun q hq=>k.ins q (by simp [hq]),fun q hq=>k.ne q (by simp [hq]),by have:=k.len; simp at this; omega⟩
theorem F96_l1_eq {f:Nat} (hf:1001≤f) (t:Nat):∀(r:List (List Part)) (n:Nat) (x:Pl) (M:List (List (Int×Bool))) (out:List Part) (s:List (Int×Bool)) (m:Int),r.length<n→Hold ids r→At9 x t r.reverse M→In ids out →
    0<m→m≤sumH r→sumM out + sumH r≤100000000 →
    ∃s' M',M'.length=(drawR r out m).1.length∧F96_l1 f (t:Int) n x out s m=some ((drawR r out m).2,s',x.put t (drawR r out m).1.reverse M') ∧
      (Tru M→Tr s→Tru M'∧Tr s'∧∀l,(bl l M').reverse=(drawB r (bl l M).reverse (inB l s) m).1∧inB l s'=(drawB r (bl l M).reverse (inB l s) m).2)
  | [],n,x,M,out,s,m,_,_,_,_,h0,h1,_=>by simp [sumH] at h1; omega
  | p::r,0,x,M,out,s,m,hn,_,_,_,_,_,_=>by simp at hn
  | p::r,n + 1,x,M,out,s,m,hn,hk,ha,ho,h0,h1,h2=>by
    have e:(p::r).reverse=r.reverse ++ [p]:=by simp
    rw [e] at ha
    have hlen:=ha.len
    obtain ⟨M',s1,rfl⟩:∃M' s1,M=M' ++ [s1]:=by
      rcases List.eq_nil_or_concat M with rfl | ⟨M',s1,rfl⟩
      · simp at hlen
      · exact ⟨M',s1,by simp⟩
    have hM:M'.length=r.reverse.length:=by simpa using hlen
    have hr:=hk.tail
    have hsr:=hr.sum_pos
    have hp:=hk.ins p (by simp)
    have hpp:=hp.pos (hk.ne p (by simp))
    have hsum:sumH (p::r)=sumM p + sumH r:=by simp [sumH]
    rw [hsum] at h1 h2
    have hoo:0≤sumM out:=by
      by_cases e:out=[]
      · subst e; simp [sumM]
      · have:=ho.pos e; omega
    have hpl:(((r.reverse ++ [p]).length:Nat):Int) > 0:=by simp
    have hph:=hp.heap (by have:=hk.i8; omega) (by omega)
    have hat:At9 (x.put t r.reverse M') t r.reverse M':=ha.put hM (by have:=hk.len; simp at this ⊢; omega)
    simp only [F96_l1,getI_opt,ha.h,Option.bind_some,decide_eq_true hpl,cond_true]
    rw [F112_last ha]
    simp only [Option.bind_some]
    rw [F113_last ha]
    simp only [Option.bind_some]
    rw [F38_eq hph (by omega)]
    simp only [Option.bind_some]
    by_cases hle:m≤sumM p
    · have hmin:(if sumM p<m then sumM p else m)=m:=if_neg (by omega)
      have c:Cut ids p m:=⟨hp,hk.i8,by omega,by omega,hle⟩
      have hw:w64 (m - m)=0:=by rw [Int.sub_self]; rfl
      have htk:=c.tk_sum
      simp only [hmin]
      rw [c.F39 hf]
      simp only [Option.bind_some]
      rw [F111_eq (ho.heap (by have:=hk.i8; omega) (by omega)) (c.tk_in.heap (by have:=hk.i8; omega) (by omega)) _ _ hf]
      simp only [Option.bind_some,hw,beq_self_eq_true,cond_true]
      simp only [drawR,if_pos hle]
      by_cases hl:lf p m=[]
      · rw [hl,F109_nil]
        refine ⟨uniK (uniK [] s) s1,M',by simpa using hM,by simp,fun ht ho=>?_⟩
        obtain ⟨t1,t2⟩:=ht.left
        exact ⟨t1,uni2_tr,fun l=>by simp [bl_snoc,drawB,hle,hl,inB_uni ho t2]⟩
      · rw [F109_put hat hl,Pl.put_put]
        refine ⟨uniK (uniK [] s) s1,M' ++ [s1],by simp [hl]; simpa using hM,by simp [hl],fun ht ho=>?_⟩
        obtain ⟨t1,t2⟩:=ht.left
        exact ⟨ht,uni2_tr,fun l=>by simp [bl_snoc,drawB,hle,hl,inB_uni ho t2]⟩
    · have hmin:(if sumM p<m then sumM p else m)=sumM p:=if_pos (by omega)
      have c:Cut ids p (sumM p):=⟨hp,hk.i8,by omega,by omega,Int.le_refl _⟩
      have hw:w64 (m - sumM p)=m - sumM p:=w64_id (by omega) (by omega)
      have htk:=c.tk_sum
      have hb:(m - sumM p == 0)=false:=by
        have:¬ m - sumM p=0:=by omega
        simpa using this
      simp only [hmin]
      rw [c.F39 hf]
      simp only [Option.bind_some]
      rw [F111_eq (ho.heap (by have:=hk.i8; omega) (by omega)) (c.tk_in.heap (by have:=hk.i8; omega) (by omega)) _ _ hf]
      simp only [Option.bind_some,hw,hb,cond_false]
      have hms:=merge_sum _ out (tk p (sumM p)) (Nat.le_refl _)
      obtain ⟨s',M2,hl,e2,hT⟩:=F96_l1_eq hf t r n (x.put t r.reverse M') M' (mergeP out (tk p (sumM p))) (uniK (uniK [] s) s1) (m - sumM p) (by simp at hn; omega) hr hat (ho.merge c.tk_in (by omega)) (by omega) (by omega) (by omega)
      rw [e2,Pl.put_put]
      simp only [drawR,if_neg hle]
      refine ⟨s',M2,hl,rfl,fun ht ho=>?_⟩
      obtain ⟨t1,t2⟩:=ht.left
      obtain ⟨q1,q2,q3⟩:=hT t1 uni2_tr
      exact ⟨q1,q2,fun l=>by have:=q3 l; rw [inB_uni ho t2] at this; simpa [bl_snoc,drawB,hle] using this⟩
end Go.Proofs.YtlmgjjmighajdaaGreat
set_option linter.unusedSimpArgs false
set_option linter.unusedVariables false
namespace Go.Proofs.YtlmgjjmighajdaaGreat
open Go.Sl Go.Sx
variable {ids : List Int} {h : List Part} {m : Int}
theorem F57_l1_eq {f:Nat} (hf:1001≤f):∀(r:List (List Part)) (n:Nat) (out:List Part) (m:Int),r.length + 1<n→Hold ids r→In ids out →
    0<m→m≤sumH r→sumM out + sumH r≤100000000 →
    F57_l1 f n r.reverse out m=some ((drawR r out m).1.reverse,(drawR r out m).2)
  | [],n,out,m,_,_,_,h0,h1,_=>by simp [sumH] at h1; omega
  | p::r,0,out,m,hn,_,_,_,_,_=>by simp at hn
  | p::r,n + 1,out,m,hn,hk,ho,h0,h1,h2=>by
    have e:(p::r).reverse=r.reverse ++ [p]:=by simp
    have hr:=hk.tail
    have hsr:=hr.sum_pos
    have hp:=hk.ins p (by simp)
    have hpp:=hp.pos (hk.ne p (by simp))
    have hsum:sumH (p::r)=sumM p + sumH r:=by simp [sumH]
    have hkl:=hk.len
    simp only [List.length_cons] at hkl hn
    rw [hsum] at h1 h2
    have hoo:0≤sumM out:=by
      by_cases e:out=[]
      · subst e; simp [sumM]
      · have:=ho.pos e; omega
    have hph:=hp.heap (by have:=hk.i8; omega) (by omega)
    have hlen:w64 (((r.reverse ++ [p]).length:Int) - 1)=(r.reverse.length:Int):=by
      have:((r.reverse ++ [p]).length:Int)=((r.reverse.length + 1:Nat):Int):=by simp
      rw [this,len_pred (by simp; omega)]
    have hget:getI (r.reverse ++ [p]) (r.reverse.length:Int)=some p:=by rw [getI_opt]; simp
    have hm0:decide (m > 0)=true:=decide_eq_true h0
    rw [e]
    simp only [F57_l1,hm0,cond_true,hlen,hget,Option.bind_some,sub_last]
    rw [F82_90,F38_eq hph (by omega)]
    simp only [Option.bind_some]
    by_cases hle:m≤sumM p
    · have hmin:(if sumM p<m then sumM p else m)=m:=if_neg (by omega)
      have c:Cut ids p m:=⟨hp,hk.i8,by omega,by omega,hle⟩
      have hw:w64 (m - m)=0:=by rw [Int.sub_self]; rfl
      have htk:=c.tk_sum
      obtain ⟨n',rfl⟩:∃n',n=n' + 1:=⟨n - 1,by omega⟩
      simp only [hmin]
      rw [c.F83 hf]
      simp only [Option.bind_some]
      rw [F59_eq (ho.heap (by have:=hk.i8; omega) (by omega)) (c.tk_in.heap (by have:=hk.i8; omega) (by omega)) (by omega)]
      simp only [Option.bind_some,drawR,if_pos hle]
      have hz:decide ((0:Int) > 0)=false:=rfl
      by_cases hl:lf p m=[]
      · have:decide (((lf p m).length:Int) > 0)=false:=by rw [hl]; rfl
        rw [this,cond_false,if_pos hl]
        simp only [F57_j1,hmin,hw,F57_l1,hz,cond_false]
      · have:decide (((lf p m).length:Int) > 0)=true:=decide_eq_true (by have:=List.length_pos_iff.2 hl; omega)
        rw [this,cond_true,if_neg hl,app_small (by simp; omega) (by simp)]
        simp only [Option.bind_some,F57_j1,hmin,hw,F57_l1,hz,cond_false]
        simp
    · have hmin:(if sumM p<m then sumM p else m)=sumM p:=if_pos (by omega)
      have c:Cut ids p (sumM p):=⟨hp,hk.i8,by omega,by omega,Int.le_refl _⟩
      have hw:w64 (m - sumM p)=m - sumM p:=w64_id (by omega) (by omega)
      have htk:=c.tk_sum
      have hl:=c.lf_nil rfl
      simp only [hmin]
      rw [c.F83 hf]
      simp only [Option.bind_some]
      rw [F59_eq (ho.heap (by have:=hk.i8; omega) (by omega)) (c.tk_in.heap (by have:=hk.i8; omega) (by omega)) (by omega)]
      have:decide (((lf p (sumM p)).length:Int) > 0)=false:=by rw [hl]; rfl
      simp only [Option.bind_some,this,cond_false,F57_j1,hmin,hw]
      have hms:=merge_sum _ out (tk p (sumM p)) (Nat.le_refl _)
      rw [F57_l1_eq hf r n (mergeP out (tk p (sumM p))) (m - sumM p) (by omega) hr (ho.merge c.tk_in (by omega)) (by omega) (by omega) (by omega)]
      simp only [drawR,if_neg hle]
theorem F57_eq {f:Nat} (hf:1001≤f) {H:List (List Part)} (hk:Hold ids H.reverse) {m:Int} (h0:0<m) (h1:m≤sumH H.reverse) (h2:sumH H.reverse≤100000000) :
    F57 f H m=some ((drawR H.reverse [] m).1.reverse,(drawR H.reverse [] m).2):=by
  have hl:=hk.len
  rw [List.length_reverse] at hl
  unfold F57
  rw [app_small (by simp) (by omega)]
  simp only [Option.bind_some,List.nil_append]
  have:=F57_l1_eq hf H.reverse f [] m (by simp; omega) hk (In.nil ids) h0 h1 (by simp [sumM]; omega)
  rwa [List.reverse_reverse] at this
end Go.Proofs.YtlmgjjmighajdaaGreat
set_option linter.unusedSimpArgs false
set_option linter.unusedVariables false
namespace Go.Proofs.YtlmgjjmighajdaaGreat
open Go.Sl Go.Sx
variable {ids : List Int} {h : List Part} {m : Int}
def loseL:List (List Part)→List Int→List (List Part)→List Part→List (List Part)×List Part
  | p::H,n::d,res,out=>loseL H d (if lf p n=[] then res else res ++ [lf p n]) (mergeP out (tk p n))
  | _,_,res,out=>(res,out)
inductive Fit (ids:List Int):List (List Part)→List Int→Prop
  | nil:Fit ids [] []
  | cons {p:List Part} {H:List (List Part)} {n:Int} {d:List Int}:Cut ids p n→Fit ids H d→Fit ids (p::H) (n::d)
theorem Fit.len:∀ {H:List (List Part)} {d:List Int},Fit ids H d→d.length=H.length
  | _,_, .nil=>rfl
  | _,_, .cons _ k=>by simp [k.len]
theorem Fit.of:∀ {H:List (List Part)} {d:List Int},d.length=H.length→(∀i (hi:i<H.length) (hd:i<d.length),Cut ids H[i] d[i])→Fit ids H d
  | [],[],_,_=> .nil
  | [],_::_,e,_=>by cases e
  | _::_,[],e,_=>by cases e
  | p::H,n::d,e,k=> .cons (k 0 (by simp) (by simp)) (Fit.of (by simpa using e) fun i hi hd=>k (i + 1) (by simpa using hi) (by simpa using hd))
theorem Fit.sum0:∀ {H:List (List Part)} {d:List Int},Fit ids H d→0≤d.sum
  | _,_, .nil=>by simp
  | _,_, .cons c k=>by have:=k.sum0; have:=c.m0; simp only [List.sum_cons]; omega
theorem Fit.at:∀ {H:List (List Part)} {d:List Int},Fit ids H d→∀i (hi:i<H.length) (hd:i<d.length),Cut ids H[i] d[i]
  | _,_, .nil,i,hi,_=>by simp at hi
  | _,_, .cons c k,0,_,_=>c
  | _,_, .cons c k,i + 1,hi,hd=>k.at i (by simpa using hi) (by simpa using hd)
theorem Fit.drop:∀ {H:List (List Part)} {d:List Int},Fit ids H d→∀i,Fit ids (H.drop i) (d.drop i)
  | _,_,k,0=>k
  | _,_, .nil,i + 1=>by simpa using Fit.nil
  | _,_, .cons c k,i + 1=>by simpa using k.drop i
theorem F58_l2_eq {f:Nat} (hf:1001≤f) {H:List (List Part)} {d:List Int} (hl:H.length≤100) (i8:ids.length≤40) (k:Fit ids H d):∀n i (res:List (List Part)) (out:List Part),i≤H.length→H.length - i<n→res.length≤i→In ids out→sumM out + (d.drop i).sum≤100000000→0≤sumM out →
    F58_l2 f H d n res out (i:Int)=some (loseL (H.drop i) (d.drop i) res out)
  | 0,i,res,out,_,hn,_,_,_,_=>by omega
  | n + 1,i,res,out,hi,hn,hr,ho,hs,h0=>by
    have hdl:=k.len
    rcases Nat.lt_or_ge i H.length with hlt | hge
    · have hd:i<d.length:=by omega
      have c:=k.at i hlt hd
      have e1:H.drop i=H[i]::H.drop (i + 1):=List.drop_eq_getElem_cons hlt
      have e2:d.drop i=d[i]::d.drop (i + 1):=List.drop_eq_getElem_cons hd
      have hs':sumM out + (d[i] + (d.drop (i + 1)).sum)≤100000000:=by rw [e2,List.sum_cons] at hs; exact hs
      have hsd:=(k.drop (i + 1)).sum0
      have hc0:=c.m0
      have hts:=c.tk_sum
      have hms:=merge_sum _ out (tk H[i] d[i]) (Nat.le_refl _)
      have hmi:=ho.merge c.tk_in (by omega)
      simp only [F58_l2,lt_len,hlt,decide_true,cond_true,getI_nat hlt,getI_nat hd,Option.bind_some]
      rw [c.F83 hf]
      simp only [Option.bind_some,F58_j2]
      rw [F59_eq (ho.heap (by omega) (by omega)) (c.tk_in.heap (by omega) (by omega)) (by omega)]
      simp only [Option.bind_some]
      rw [e1,e2]
      simp only [loseL]
      by_cases hz:lf H[i] d[i]=[]
      · have:decide (((lf H[i] d[i]).length:Int) > 0)=false:=by rw [hz]; rfl
        rw [this,cond_false,if_pos hz,F58_j1,succ_w (by omega)]
        exact F58_l2_eq hf hl i8 k n (i + 1) res _ hlt (by omega) (by omega) hmi (by omega) (by omega)
      · have:decide (((lf H[i] d[i]).length:Int) > 0)=true:=decide_eq_true (by have:=List.length_pos_iff.2 hz; omega)
        rw [this,cond_true,if_neg hz,app_small (by omega) (by simp)]
        simp only [Option.bind_some,F58_j1]
        rw [succ_w (by omega)]
        exact F58_l2_eq hf hl i8 k n (i + 1) _ _ hlt (by omega) (by simp; omega) hmi (by omega) (by omega)
    · have:i=H.length:=by omega
      subst this
      simp [F58_l2,loseL]
def loseB:List (List Part)→List Bool→List Int→List Bool
  | p::H,b::B,d::D=>if lf p d=[] then loseB H B D else b::loseB H B D
  | _,_,_=>[]
theorem Tru.at {M:List (List (Int×Bool))} (h:Tru M) (i:Nat) (hi:i<M.length):Tr M[i]:=h _ (List.getElem_mem hi)
theorem F98_l2_eq {f:Nat} (hf:1001≤f) (t:Nat) {H:List (List Part)} {d:List Int} (hl:H.length≤50) (i8:ids.length≤40) (k:Fit ids H d) {p2:List (List (Int×Bool))} (hp2:p2.length=H.length) (ne:∀p∈H,p≠[]):∀n i (x:Pl) (res:List (List Part)) (M:List (List (Int×Bool))) (out:List Part) (s:List (Int×Bool)),i≤H.length→H.length - i<n→res.length≤i→At9 x t res M→In ids out→sumM out + (d.drop i).sum≤100000000→0≤sumM out →
    ∃s' M',M'.length=(loseL (H.drop i) (d.drop i) res out).1.length∧F98_l2 f (t:Int) H p2 d n x out s (i:Int)=some ((loseL (H.drop i) (d.drop i) res out).2,s',x.put t (loseL (H.drop i) (d.drop i) res out).1 M') ∧
      (Tru p2→Tru M→Tru M'∧∀l,bl l M'=bl l M ++ loseB (H.drop i) ((bl l p2).drop i) (d.drop i))
  | 0,i,x,res,M,out,s,_,hn,_,_,_,_,_=>by omega
  | n + 1,i,x,res,M,out,s,hi,hn,hr,ha,ho,hs,h0=>by
    have hdl:=k.len
    rcases Nat.lt_or_ge i H.length with hlt | hge
    · have hd:i<d.length:=by omega
      have h2:i<p2.length:=by omega
      have c:=k.at i hlt hd
      have e1:H.drop i=H[i]::H.drop (i + 1):=List.drop_eq_getElem_cons hlt
      have e2:d.drop i=d[i]::d.drop (i + 1):=List.drop_eq_getElem_cons hd
      have hs':sumM out + (d[i] + (d.drop (i + 1)).sum)≤100000000:=by rw [e2,List.sum_cons] at hs; exact hs
      have hsd:=(k.drop (i + 1)).sum0
      have hc0:=c.m0
      have hts:=c.tk_sum
      have hms:=merge_sum _ out (tk H[i] d[i]) (Nat.le_refl _)
      have hmi:=ho.merge c.tk_in (by omega)
      have hdi:decide ((i:Int)<(d.length:Int))=true:=decide_eq_true (by omega)
      -- what is put back
      have b1:∀l,(bl l p2).drop i=inB l p2[i]::(bl l p2).drop (i + 1):=fun l=>by
        rw [List.drop_eq_getElem_cons (by simp [bl]; omega:i<(bl l p2).length)]
        simp [bl]
      obtain ⟨res',M',hres,hM',hput,hat,hT1⟩:∃res' M',res'=(if lf H[i] d[i]=[] then res else res ++ [lf H[i] d[i]])∧res'.length≤i + 1∧F109 f x (t:Int) (lf H[i] d[i]) p2[i]=some (x.put t res' M')∧At9 (x.put t res' M') t res' M' ∧
          (Tru p2→Tru M→Tru M'∧∀l,bl l M'=bl l M ++ (if lf H[i] d[i]=[] then [] else [inB l p2[i]])):=by
        by_cases hz:lf H[i] d[i]=[]
        · refine ⟨res,M,by rw [if_pos hz],by omega,?_,?_⟩
          · rw [hz,F109_nil,Pl.put_self ha]
          · rw [Pl.put_self ha]; exact ⟨ha,fun _ k=>⟨k,fun l=>by simp [hz]⟩⟩
        · refine ⟨res ++ [lf H[i] d[i]],M ++ [p2[i]],by rw [if_neg hz],by simp; omega,F109_put ha hz _,ha.put (by simp [ha.len]) (by simp; omega),fun k1 k2=>⟨k2.append (k1.at i h2),fun l=>by rw [bl_snoc,if_neg hz]⟩⟩
      simp only [F98_l2,hdi,cond_true,getI_nat hlt,getI_nat hd,getI_nat h2,Option.bind_some]
      rw [c.F39 hf]
      simp only [Option.bind_some]
      rw [hput]
      simp only [Option.bind_some]
      rw [e1,e2]
      simp only [loseL, ← hres]
      by_cases hz:d[i] > 0
      · rw [decide_eq_true hz,cond_true,F111_eq (ho.heap (by omega) (by omega)) (c.tk_in.heap (by omega) (by omega)) _ _ hf]
        simp only [Option.bind_some,F98_j1]
        rw [succ_w (by omega)]
        obtain ⟨s',M2,hM2,e,hT2⟩:=F98_l2_eq hf t hl i8 k hp2 ne n (i + 1) (x.put t res' M') res' M' (mergeP out (tk H[i] d[i])) (uniK (uniK [] s) p2[i]) hlt (by omega) hM' hat hmi (by omega) (by omega)
        rw [Pl.put_put] at e
        refine ⟨s',M2,hM2,e,fun k1 k2=>?_⟩
        obtain ⟨q1,q2⟩:=hT1 k1 k2
        obtain ⟨q3,q4⟩:=hT2 k1 q1
        refine ⟨q3,fun l=>?_⟩
        rw [q4,q2,b1]
        simp only [loseB]
        split <;> simp
      · rw [decide_eq_false hz,cond_false]
        simp only [F98_j1]
        have hz0:d[i]=0:=by omega
        have htn:tk H[i] d[i]=[]:=by
          by_cases hne:tk H[i] d[i]=[]
          · exact hne
          · have:=c.tk_in.pos hne; omega
        rw [htn,merge_nil,succ_w (by omega)]
        obtain ⟨s',M2,hM2,e,hT2⟩:=F98_l2_eq hf t hl i8 k hp2 ne n (i + 1) (x.put t res' M') res' M' out s hlt (by omega) hM' hat ho (by omega) (by omega)
        rw [Pl.put_put] at e
        refine ⟨s',M2,hM2,e,fun k1 k2=>?_⟩
        obtain ⟨q1,q2⟩:=hT1 k1 k2
        obtain ⟨q3,q4⟩:=hT2 k1 q1
        refine ⟨q3,fun l=>?_⟩
        rw [q4,q2,b1]
        simp only [loseB]
        split <;> simp
    · have hi':i=H.length:=by omega
      subst hi'
      have hdi:decide ((H.length:Int)<(d.length:Int))=false:=decide_eq_false (by omega)
      have el:loseL (H.drop H.length) (d.drop H.length) res out=(res,out):=by simp [loseL]
      refine ⟨s,M,?_,?_,fun _ k2=>⟨k2,fun l=>by simp [loseB]⟩⟩
      · simp [loseL,ha.len]
      · simp only [F98_l2,hdi,cond_false]
        rw [el,Pl.put_self ha]
end Go.Proofs.YtlmgjjmighajdaaGreat
set_option linter.unusedSimpArgs false
set_option linter.unusedVariables false
namespace Go.Proofs.YtlmgjjmighajdaaGreat
open Go.Sl Go.Sx
variable {ids : List Int} {h : List Part} {m : Int}
def massH (H:List (List Part)):List Int:=H.map sumM
def loseS (H:List (List Part)) (m:Int):List (List Part)×List Part:=loseL H (dealS m (massH H)) [] []
theorem Hold.one_le {H:List (List Part)} (k:Hold ids H):∀p∈H,sumM p≤sumH H:=by
  have:∀l:List (List Part),Hold ids l→∀p∈l,sumM p≤sumH l:=by
    intro l
    induction l with
    | nil=>intro _ p hp; cases hp
    | cons q l ih =>
      intro hl p hp
      have h0:=hl.tail.sum_pos
      have h1:=(hl.ins q (by simp)).pos (hl.ne q (by simp))
      have hs:sumH (q::l)=sumM q + sumH l:=by simp [sumH]
      rw [hs]
      rcases List.mem_cons.1 hp with rfl | hp
      · omega
      · have:=ih hl.tail p hp; omega
  exact this H k
theorem massH_sum (H:List (List Part)):(massH H).sum=sumH H:=rfl
theorem dealOk_hold {H:List (List Part)} (k:Hold ids H) (hl:H.length<20) (hs:sumH H≤100000000) (h0:0<m) (h1:m≤sumH H):DealOk m (massH H) where
  nn x hx:=by obtain ⟨p,hp,rfl⟩:=List.mem_map.1 hx; have:=(k.ins p hp).pos (k.ne p hp); omega
  s0:=by rw [massH_sum]; omega
  s1:=by rw [massH_sum]; exact hs
  m0:=by omega
  m1:=by omega
  len:=by have:(massH H).length=H.length:=by simp [massH]
          omega
theorem fit_hold {H:List (List Part)} (k:Hold ids H) (hl:H.length<20) (hs:sumH H≤100000000) (h0:0<m) (h1:m≤sumH H):Fit ids H (dealS m (massH H)):=by
  have hd:=dealOk_hold k hl hs h0 h1
  refine Fit.of (by rw [dealS_len]; simp [massH]) fun i hi hdi=>?_
  have hm:i<(massH H).length:=by simpa [massH] using hi
  have b1:=(deal_bounds hd hm).1
  have b2:=deal_le hd (by rw [massH_sum]; exact h1) hm
  have e:(massH H)[i]=sumM H[i]:=by simp [massH]
  rw [e] at b2
  have:=k.one_le _ (List.getElem_mem hi)
  exact ⟨k.ins _ (List.getElem_mem hi),k.i8,by omega,b1,b2⟩
theorem massH_take {H:List (List Part)} {i:Nat} (hi:i<H.length):massH (H.take i) ++ [sumM H[i]]=massH (H.take (i + 1)):=by
  rw [List.take_succ_eq_append_getElem hi]; unfold massH; rw [List.map_append]; rfl
theorem F58_eq {f:Nat} (hf:1001≤f) {H:List (List Part)} (k:Hold ids H) (hl:H.length<20) (hs:sumH H≤100000000) (h0:0<m) (h1:m≤sumH H):F58 f H m=some (loseS H m):=by
  have hd:=dealOk_hold k hl hs h0 h1
  have hfit:=fit_hold k hl hs h0 h1
  have i8:=k.i8
  unfold F58
  have key:=from_st (T:=fun n i=>F58_l1 f H m n (massH (H.take i)) (i:Int)) (len:=H.length) (n:=f) (out:=(F84 f m (massH H)).bind fun r2=>F58_l2 f H r2 f [] [] 0) (by omega)
    (fun n i hi=>by
      have hp:=k.ins _ (List.getElem_mem hi)
      have:=k.one_le _ (List.getElem_mem hi)
      simp only [F58_l1,lt_len,hi,decide_true,cond_true,getI_nat hi,Option.bind_some]
      rw [F82_90,F38_eq (hp.heap (by omega) (by omega)) (by omega)]
      simp only [Option.bind_some]
      rw [app_small (by simp [massH]; omega) (by simp)]
      simp only [Option.bind_some]
      rw [massH_take hi,succ_w (by omega)])
    (fun n=>by simp [F58_l1])
  have e0:F58_l1 f H m f [] 0=(F84 f m (massH H)).bind fun r2=>F58_l2 f H r2 f [] [] 0:=by simpa [massH] using key
  rw [e0,F84_eq hd (show 200≤f by omega)]
  simp only [Option.bind_some]
  have e:=F58_l2_eq hf (by omega) i8 hfit f 0 [] [] (by omega) (by omega) (by simp) (In.nil ids) (by rw [List.drop_zero,deal_sum hd]; simp [sumM]; omega) (by simp [sumM])
  simpa [loseS] using e
theorem F98_eq {f:Nat} (hf:1001≤f) {t:Nat} {x:Pl} {H:List (List Part)} {M:List (List (Int×Bool))} (ha:At9 x t H M) (k:Hold ids H) (hl:H.length<20) (hs:sumH H≤100000000) (h0:0<m) (h1:m≤sumH H) (a b c:Int) :
    ∃s' M',M'.length=(loseS H m).1.length∧F98 f x a b (t:Int) c m=some ((loseS H m).2,s',x.put t (loseS H m).1 M')∧(Tru M→Tru M'∧∀l,bl l M'=loseB H (bl l M) (dealS m (massH H))):=by
  have hd:=dealOk_hold k hl hs h0 h1
  have hfit:=fit_hold k hl hs h0 h1
  have i8:=k.i8
  unfold F98
  rw [getI_opt,ha.h]
  simp only [Option.bind_some]
  have key:=from_st (T:=fun n i=>F98_l1 f x (t:Int) m H n (massH (H.take i)) (i:Int)) (len:=H.length) (n:=f) (out:=(F70 f m (massH H)).bind fun r1=>F98_l2 f (t:Int) H M r1 f (x.put t [] []) [] [] 0) (by omega)
    (fun n i hi=>by
      have hp:=k.ins _ (List.getElem_mem hi)
      have:=k.one_le _ (List.getElem_mem hi)
      simp only [F98_l1,lt_len,hi,decide_true,cond_true,getI_nat hi,Option.bind_some]
      rw [F38_eq (hp.heap (by omega) (by omega)) (by omega)]
      simp only [Option.bind_some]
      rw [app_small (by simp [massH]; omega) (by simp)]
      simp only [Option.bind_some]
      rw [massH_take hi,succ_w (by omega)])
    (fun n=>by
      simp only [F98_l1,lt_len,Nat.lt_irrefl,decide_false,cond_false,getI_opt,ha.m,Option.bind_some,List.take_length]
      rfl)
  have e0:F98_l1 f x (t:Int) m H f [] 0=(F70 f m (massH H)).bind fun r1=>F98_l2 f (t:Int) H M r1 f (x.put t [] []) [] [] 0:=by simpa [massH] using key
  rw [e0,F70_eq hd (by omega)]
  simp only [Option.bind_some]
  obtain ⟨s',M',hM,e,hT⟩:=F98_l2_eq hf t (by omega) i8 hfit (p2:=M) ha.len k.ne f 0 (x.put t [] []) [] [] [] [] (by omega) (by omega) (by simp) (ha.put rfl (by simp)) (In.nil ids) (by rw [List.drop_zero,deal_sum hd]; simp [sumM]; omega) (by simp [sumM])
  rw [Pl.put_put] at e
  refine ⟨s',M',by simpa [loseS] using hM,by simpa [loseS] using e,fun k=>?_⟩
  obtain ⟨q1,q2⟩:=hT k (fun u hu=>by cases hu)
  exact ⟨q1,fun l=>by simpa [bl] using q2 l⟩
end Go.Proofs.YtlmgjjmighajdaaGreat
set_option linter.unusedSimpArgs false
set_option linter.unusedVariables false
namespace Go.Proofs.YtlmgjjmighajdaaGreat
open Go.Sl Go.Sx
variable {ids : List Int} {h : List Part} {m : Int}
def ontoS (H:List (List Part)) (b:List Part):List (List Part):=match H.reverse with
  | []=>[b]
  | p::r=>r.reverse ++ [mergeP p b]
theorem ontoS_nil (b:List Part):ontoS [] b=[b]:=rfl
theorem ontoS_last (H:List (List Part)) (p b:List Part):ontoS (H ++ [p]) b=H ++ [mergeP p b]:=by simp [ontoS]
theorem F56_eq {f:Nat} (hf:1001≤f) {H:List (List Part)} (hl:H.length≤100) (hH:∀p∈H,HeapOk p) {b:List Part} (hb:HeapOk b):F56 f H b=some (ontoS H b):=by
  unfold F56
  rcases List.eq_nil_or_concat H with rfl | ⟨H',p,rfl⟩
  · rfl
  · have e:H'.concat p=H' ++ [p]:=by simp
    rw [e] at hl hH ⊢
    rw [List.length_append] at hl
    simp only [List.length_cons,List.length_nil] at hl
    have hlen:((H' ++ [p]).length:Int)=((H'.length + 1:Nat):Int):=by simp
    have h0:(((H' ++ [p]).length:Int) == 0)=false:=by
      have:¬ ((H' ++ [p]).length:Int)=0:=by rw [hlen]; omega
      simpa using this
    have hget:getI (H' ++ [p]) (H'.length:Int)=some p:=by rw [getI_opt]; simp
    rw [h0,cond_false,hlen,len_pred (by omega),sub_last]
    simp only [Option.bind_some]
    rw [app_small (by simp) (by omega)]
    simp only [Option.bind_some,hget,List.nil_append]
    rw [F59_eq (hH p (by simp)) hb (by omega)]
    simp only [Option.bind_some]
    rw [app_small (by omega) (by simp),ontoS_last]
    rfl
def ontoB (B:List Bool) (b:Bool):List Bool:=match B.reverse with
  | []=>[b]
  | c::r=>r.reverse ++ [c || b]
theorem ontoB_last (B:List Bool) (c b:Bool):ontoB (B ++ [c]) b=B ++ [c || b]:=by simp [ontoB]
theorem F107_eq {f:Nat} (hf:1001≤f) {t:Nat} {x:Pl} {H:List (List Part)} {M:List (List (Int×Bool))} (ha:At9 x t H M) (hH:∀p∈H,HeapOk p) {b:List Part} (hb:HeapOk b) (hne:b≠[]) (u:List (Int×Bool)) :
    ∃M',M'.length=(ontoS H b).length∧F107 f x (t:Int) b u=some (x.put t (ontoS H b) M')∧(Tru M→Tr u→Tru M'∧∀l,bl l M'=ontoB (bl l M) (inB l u)):=by
  rcases List.eq_nil_or_concat H with rfl | ⟨H',p,rfl⟩
  · have hM:M=[]:=List.eq_nil_of_length_eq_zero (by simpa using ha.len)
    subst hM
    refine ⟨_,rfl,F107_nil ha hb hne u hf,fun _ k=>⟨fun v hv=>?_,fun l=>?_⟩⟩
    · rw [List.mem_singleton] at hv; rw [hv]; exact uni_tr Tr.nil
    · simp [bl,ontoB,inB_uni1 k]
  · have e:H'.concat p=H' ++ [p]:=by simp
    rw [e] at ha hH ⊢
    have hlen:=ha.len
    obtain ⟨M',s,rfl⟩:∃M' s,M=M' ++ [s]:=by
      rcases List.eq_nil_or_concat M with rfl | ⟨M',s,rfl⟩
      · simp at hlen
      · exact ⟨M',s,by simp⟩
    rw [ontoS_last]
    refine ⟨M' ++ [uniK (uniK [] s) u],by simpa using hlen,F107_last ha (hH p (by simp)) hb (.inr hne) u hf,fun k1 k2=>?_⟩
    obtain ⟨t1,t2⟩:=k1.left
    exact ⟨t1.append uni2_tr,fun l=>by rw [bl_snoc,bl_snoc,ontoB_last,inB_uni t2 k2]⟩
theorem F99_eq {f:Nat} (hf:1001≤f) {t:Nat} {x:Pl} {H:List (List Part)} {p q:List Part} {M:List (List (Int×Bool))} (ha:At9 x t (H ++ [p] ++ [q]) M) (hp:HeapOk p) (hq:HeapOk q) (hne:q≠[]) (a b c d:Int) :
    ∃M',M'.length=(H ++ [mergeP p q]).length∧F99 f x a b (t:Int) c d=some ([],[],x.put t (H ++ [mergeP p q]) M')∧(Tru M→Tru M'∧∀l,∃B b c,bl l M=B ++ [b] ++ [c]∧B.length=H.length∧bl l M'=B ++ [b || c]):=by
  have hlen:=ha.len
  obtain ⟨M1,s,rfl⟩:∃M' s,M=M' ++ [s]:=by
    rcases List.eq_nil_or_concat M with rfl | ⟨M',s,rfl⟩
    · simp at hlen
    · exact ⟨M',s,by simp⟩
  have hM1:M1.length=(H ++ [p]).length:=by simpa using hlen
  obtain ⟨M2,s2,rfl⟩:∃M' s,M1=M' ++ [s]:=by
    rcases List.eq_nil_or_concat M1 with rfl | ⟨M',s,rfl⟩
    · simp at hM1
    · exact ⟨M',s,by simp⟩
  have hs:=ha.small
  have hs1:(H ++ [p]).length≤100:=by rw [List.length_append] at hs; omega
  unfold F99
  rw [F112_last ha]
  simp only [Option.bind_some]
  rw [F113_last ha]
  simp only [Option.bind_some]
  rw [F107_last (ha.put hM1 hs1) hp hq (.inr hne) s hf]
  simp only [Option.bind_some,Pl.put_put]
  refine ⟨_,by simpa using hM1,rfl,fun k=>?_⟩
  obtain ⟨t1,t2⟩:=k.left
  obtain ⟨t3,t4⟩:=t1.left
  exact ⟨t3.append uni2_tr,fun l=>⟨bl l M2,inB l s2,inB l s,by rw [bl_snoc,bl_snoc],by simpa [bl] using hM1,by rw [bl_snoc,inB_uni t4 t2]⟩⟩
theorem mix_ref {f:Nat} (hf:1001≤f) {H:List (List Part)} {p q:List Part} (hl:H.length≤90) (hp:HeapOk p) (hq:HeapOk q) :
    subI (H ++ [p] ++ [q]) 0 (w64 (((H ++ [p] ++ [q]).length:Int) - 2))=some H∧getI (H ++ [p] ++ [q]) (w64 (((H ++ [p] ++ [q]).length:Int) - 2))=some p∧getI (H ++ [p] ++ [q]) (w64 (((H ++ [p] ++ [q]).length:Int) - 1))=some q:=by
  have hlen:((H ++ [p] ++ [q]).length:Int)=((H.length + 2:Nat):Int):=by simp
  have e1:w64 (((H.length + 2:Nat):Int) - 2)=(H.length:Int):=by rw [w64_id (by omega) (by omega)]; omega
  have e2:w64 (((H.length + 2:Nat):Int) - 1)=((H.length + 1:Nat):Int):=by rw [w64_id (by omega) (by omega)]; omega
  rw [hlen,e1,e2]
  refine ⟨?_,?_,?_⟩
  · unfold subI
    rw [if_pos (by simp; omega)]
    simp
  · rw [getI_opt]; simp
  · rw [getI_opt]; simp
end Go.Proofs.YtlmgjjmighajdaaGreat
set_option linter.unusedSimpArgs false
set_option linter.unusedVariables false
namespace Go.Proofs.YtlmgjjmighajdaaGreat
open Go.Sl Go.Sx
theorem F80_l2_eq {f:Nat} {k3:Int→Option Int} {lots:List Lot} (hl:LotsOk lots) (y:Int) {hold:List (List Part)} (h4:hold.length≤4) (hf:40<f) :
    ((∀p∈hold,GoodHeap lots p)∧F80_l2 f k3 lots y hold f 0=(if sumH hold≤100000000 then k3 (w64 (y + 1)) else some 62))∨((¬ ∀p∈hold,GoodHeap lots p)∧F80_l2 f k3 lots y hold f 0=some 62):=by
  by_cases hall:∀p∈hold,GoodHeap lots p
  · left
    refine ⟨hall,?_⟩
    have key:=loop_all0 (L:=F80_l2 f k3 lots y hold) (len:=hold.length) (good:=fun j=>True) (no:=some 62) (yes:=(if sumH hold≤100000000 then k3 (w64 (y + 1)) else some 62)) (fun n i hi=>by
      have hg:=hall _ (List.getElem_mem hi)
      simp only [F80_l2,lt_len,hi,decide_true,cond_true,getI_nat hi,Option.bind_some,F100_73]
      rcases F37_eq (f:=f) (l:=hold[i]) hf with ⟨_,e⟩ | ⟨hn,_⟩
      · rw [e]
        have hne:¬ hold[i].length=0:=fun e=>hg.ne (List.eq_nil_of_length_eq_zero e)
        have hne':((hold[i].length:Int) == 0)=false:=by simpa using (show ¬ (hold[i].length:Int)=0 by omega)
        simp only [Option.bind_some,Bool.not_true,cond_false,F80_j1,hne']
        rcases F80_l3_eq (k1:=F80_l2 f k3 lots y hold n) hl hi hg.ok.1 hf with ⟨_,e2⟩ | ⟨hn,_⟩
        · exact .inl ⟨trivial,by rw [e2,succ_w (by omega)]⟩
        · exact absurd hg.lots hn
      · exact absurd hg.ok hn) (fun n=>by
        have e:=F41_eq (f:=f) h4 (fun x hx=>(hall x hx).ok) hf
        simp only [F80_l2,lt_len,Nat.lt_irrefl,decide_false,cond_false,F69_75,e,Option.bind_some]
        by_cases hs:sumH hold≤100000000
        · have:¬ sumH hold > 100000000:=by omega
          simp [hs,this]
        · have:sumH hold > 100000000:=by omega
          simp [hs,this]) (n:=f) (by omega)
    rcases key with ⟨_,e⟩ | ⟨hn,_⟩
    · exact e
    · exact absurd (fun _ _=>trivial) hn
  · right
    refine ⟨hall,?_⟩
    have key:=loop_all0 (L:=F80_l2 f k3 lots y hold) (len:=hold.length) (good:=fun j=>∀h:j<hold.length,GoodHeap lots hold[j]) (no:=some 62) (yes:=F80_l2 f k3 lots y hold 1 (hold.length:Int)) (fun n i hi=>by
      simp only [F80_l2,lt_len,hi,decide_true,cond_true,getI_nat hi,Option.bind_some,F100_73]
      rcases F37_eq (f:=f) (l:=hold[i]) hf with ⟨hok,e⟩ | ⟨hn,e⟩
      · rw [e]
        by_cases hne:hold[i]=[]
        · exact .inr ⟨fun k=>(k trivial).ne hne,by simp [hne,F80_j1]⟩
        · have hne':((hold[i].length:Int) == 0)=false:=by
            have:¬ hold[i].length=0:=fun e=>hne (List.eq_nil_of_length_eq_zero e)
            simpa using (show ¬ (hold[i].length:Int)=0 by omega)
          simp only [Option.bind_some,Bool.not_true,cond_false,F80_j1,hne']
          rcases F80_l3_eq (k1:=F80_l2 f k3 lots y hold n) hl hi hok.1 hf with ⟨hp,e2⟩ | ⟨hn,e2⟩
          · exact .inl ⟨fun _=>⟨hok,hne,hp⟩,by rw [e2,succ_w (by omega)]⟩
          · exact .inr ⟨fun k=>hn (k trivial).lots,e2⟩
      · exact .inr ⟨fun k=>hn (k trivial).ok,by simp [e,F80_j1]⟩) (fun n=>by simp [F80_l2]) (n:=f) (by omega)
    rw [allMem] at key
    rcases key with ⟨h,_⟩ | ⟨_,e⟩
    · exact absurd h hall
    · exact e
structure StockOk (lots:List Lot) (holds:List (List (List Part))):Prop where
  lok:LotsOk lots
  hok:∀l∈holds,GoodHold lots l
theorem F80_eq {f:Nat} {lots:List Lot} {holds:List (List (List Part))} (h9:holds.length=9) (hf:40<f):(StockOk lots holds∧F80 f lots holds=some 0)∨(¬ StockOk lots holds∧F80 f lots holds=some 62):=by
  unfold F80
  rcases F77_eq (l:=lots) hf with ⟨hl,e⟩ | ⟨hl,e⟩
  · rw [F21_19,e]
    have key:=loop_all0 (L:=F80_l1 f lots holds) (len:=9) (good:=fun j=>∀h:j<holds.length,GoodHold lots holds[j]) (no:=some 62) (yes:=some 0) (fun n i hi=>by
      have hi':i<holds.length:=by omega
      have hlt:decide ((i:Int)<9)=true:=by simpa using (show (i:Int)<9 by omega)
      simp only [F80_l1,hlt,cond_true,getI_nat hi',Option.bind_some]
      by_cases h4:holds[i].length≤4
      · have h4':decide ((holds[i].length:Int) > 4)=false:=by simpa using (show (holds[i].length:Int)≤4 by omega)
        rw [h4',cond_false]
        rcases F80_l2_eq (k3:=F80_l1 f lots holds n) hl (i:Int) h4 hf with ⟨hg,e⟩ | ⟨hg,e⟩
        · by_cases hs:sumH holds[i]≤100000000
          · exact .inl ⟨fun _=>⟨h4,hg,hs⟩,by rw [e,if_pos hs,succ_w (by omega)]⟩
          · exact .inr ⟨fun k=>hs (k hi').sum,by rw [e,if_neg hs]⟩
        · exact .inr ⟨fun k=>hg (k hi').heaps,e⟩
      · have h4':decide ((holds[i].length:Int) > 4)=true:=by simpa using (show (holds[i].length:Int) > 4 by omega)
        exact .inr ⟨fun k=>h4 (k hi').len,by rw [h4',cond_true]⟩) (fun n=>by simp [F80_l1]) (n:=f) (by omega)
    rw [← h9,allMem] at key
    rcases key with ⟨h,e⟩ | ⟨h,e⟩
    · exact .inl ⟨⟨hl,h⟩,by simpa using e⟩
    · exact .inr ⟨fun k=>h k.hok,by simpa using e⟩
  · exact .inr ⟨fun k=>hl k.lok,by rw [F21_19,e]; simp⟩
def deeds:List (Int×DRow):=putK (putK (putK (putK (putK (putK ([]) 1 (⟨true,false,true,true,(some 94)⟩:DRow)) 2 (⟨true,false,true,true,(some 95)⟩:DRow)) 3 (⟨false,true,false,true,(some 96)⟩:DRow)) 4 (⟨false,true,true,true,(some 97)⟩:DRow)) 5 (⟨false,true,false,true,(some 98)⟩:DRow)) 6 (⟨false,true,false,false,(some 99)⟩:DRow)
theorem F79_eq (f:Nat):F79 f=some deeds:=rfl
theorem deeds_at (k:Int):(k=1∧getK deeds k=some ⟨true,false,true,true,some 94⟩)∨(k=2∧getK deeds k=some ⟨true,false,true,true,some 95⟩)∨(k=3∧getK deeds k=some ⟨false,true,false,true,some 96⟩) ∨
    (k=4∧getK deeds k=some ⟨false,true,true,true,some 97⟩)∨(k=5∧getK deeds k=some ⟨false,true,false,true,some 98⟩)∨(k=6∧getK deeds k=some ⟨false,true,false,false,some 99⟩)∨((k<1∨6<k)∧getK deeds k=none):=by
  by_cases h1:k=1
  · subst h1; exact .inl ⟨rfl,rfl⟩
  by_cases h2:k=2
  · subst h2; exact .inr (.inl ⟨rfl,rfl⟩)
  by_cases h3:k=3
  · subst h3; exact .inr (.inr (.inl ⟨rfl,rfl⟩))
  by_cases h4:k=4
  · subst h4; exact .inr (.inr (.inr (.inl ⟨rfl,rfl⟩)))
  by_cases h5:k=5
  · subst h5; exact .inr (.inr (.inr (.inr (.inl ⟨rfl,rfl⟩))))
  by_cases h6:k=6
  · subst h6; exact .inr (.inr (.inr (.inr (.inr (.inl ⟨rfl,rfl⟩)))))
  refine .inr (.inr (.inr (.inr (.inr (.inr ⟨by omega,?_⟩)))))
  have g:∀j:Int,k≠j→((j == k)=false):=fun j h=>by simpa using fun e=>h e.symm
  show getK [(1,_),(2,_),(3,_),(4,_),(5,_),(6,_)] k=none
  simp [getK,g 1 h1,g 2 h2,g 3 h3,g 4 h4,g 5 h5,g 6 h6]
theorem F72_eq (f:Nat) (x:Int):F72 f x=some (decide (0≤x∧x≤8)):=by unfold F72; simp only [F48_eq,Option.bind_some]
theorem F101_eq (f:Nat) (x:Int):F101 f x=some (decide (0≤x∧x≤8)):=by unfold F101; simp only [F60_eq,Option.bind_some]
end Go.Proofs.YtlmgjjmighajdaaGreat
set_option linter.unusedSimpArgs false
set_option linter.unusedVariables false
namespace Go.Proofs.YtlmgjjmighajdaaGreat
open Go.Sl Go.Sx
theorem F64_has {f:Nat} {l:List Lot} (hl:l.length≤40) (x:Int) (hf:40<f):∃r,F64 f l x=some r∧(decide (r≥0)=decide (Has l x))∧(decide (r<0)= !decide (Has l x)):=by
  rcases F64_eq (f:=f) hl x hf with ⟨p,_,hh,e⟩ | ⟨hh,e⟩
  · exact ⟨p,e,by have:(p:Int)≥0:=by omega
                  simp [this,hh],by have:¬ (p:Int)<0:=by omega
                                    simp [this,hh]⟩
  · exact ⟨-1,e,by simp [hh],by simp [hh]⟩
theorem bq (a b:Int):(a == b)=decide (a=b):=by by_cases h:a=b <;> simp [h]
theorem bn (a b:Int):(a != b)= !decide (a=b):=by by_cases h:a=b <;> simp [h]
theorem named_eq {f:Nat} {lots:List Lot} {holds:List (List (List Part))} (hl:LotsOk lots) (hf:40<f) (k l fr to m:Int):F93 f lots holds k l fr to m=F81 f lots holds k l fr to m:=by
  obtain ⟨p,e74,_⟩:=F42_eq (f:=f) hl l hf
  obtain ⟨q,e56,eq0,eq1⟩:=F64_has (f:=f) hl.1 l hf
  unfold F93
  rw [F79_eq]
  simp only [Option.bind_some]
  rcases deeds_at k with ⟨rfl,e⟩ | ⟨rfl,e⟩ | ⟨rfl,e⟩ | ⟨rfl,e⟩ | ⟨rfl,e⟩ | ⟨rfl,e⟩ | ⟨hk,e⟩
  all_goals
    simp only [hasK,lkK,e,Option.isSome_some,Option.getD_some,Option.isSome_none,Option.getD_none,zrow,F93_j1,F93_j2,F93_j3,F81,F81_j1,F81_j2,F81_j3,F81_j4,F81_j5,F81_j6,F81_j7,F48_eq,F60_eq,F72_eq,F101_eq,Option.bind_some,Bool.not_true,Bool.not_false,cond_true,cond_false,e74,e56,eq0,bq,bn]
  case inr.inr.inr.inr.inr.inr =>
    rcases hk with hk | hk
    · have h1:decide (k<1)=true:=by simpa using hk
      simp [h1]
    · have h1:decide (k<1)=false:=by simpa using (show 1≤k by omega)
      have h2:decide (k > 6)=true:=by simpa using hk
      simp [h1,h2]
  all_goals
    by_cases a1:l=0 <;> by_cases a2:fr=0 <;> by_cases a3:to=0 <;> by_cases a4:m=0 <;> by_cases b1:0≤fr∧fr≤8 <;> by_cases b2:0≤to∧to≤8 <;> by_cases b3:1≤m∧m≤100000000 <;> by_cases b4:fr=to <;>
    first
    | (exfalso; omega)
    | (simp [a1,a2,a3,a4,b1,b2,b3,b4]; done)
    | (simp [a1,a2,a3,a4,b1,b2,b3,b4]; cases decide (0=to) <;> rfl)
theorem named_true {f:Nat} {lots:List Lot} (hl:LotsOk lots) (hf:40<f) {holds:List (List (List Part))} {k l fr to m:Int} (h:F81 f lots holds k l fr to m=some true):(1≤k∧k≤6)∧(0≤fr∧fr≤8)∧(0≤to∧to≤8)∧(k≠6→1≤m∧m≤100000000)∧(k=6→m=0):=by
  obtain ⟨q,e56,eq0,eq1⟩:=F64_has (f:=f) hl.1 l hf
  simp only [F81,F81_j1,F81_j2,F81_j3,F81_j4,F81_j5,F81_j6,F81_j7,F60_eq,F101_eq,Option.bind_some,e56,eq0,bq,bn] at h
  by_cases k1:k<1
  · simp [k1] at h
  by_cases k6:k > 6
  · simp [k1,k6] at h
  refine ⟨by omega,?_⟩
  by_cases h6:k=6
  · subst h6
    by_cases a1:l=0 <;> by_cases a3:to=0 <;> by_cases a4:m=0 <;> by_cases b1:0≤fr∧fr≤8 <;> simp [a1,a3,a4,b1] at h ⊢
  · by_cases b3:1≤m∧m≤100000000 <;> by_cases b1:0≤fr∧fr≤8 <;> by_cases b2:0≤to∧to≤8
    · exact ⟨b1,b2,fun _=>b3,fun h=>absurd h h6⟩
    all_goals simp [k1,k6,h6,b1,b2,b3] at h
theorem named_some {f:Nat} {lots:List Lot} (hl:LotsOk lots) (hf:40<f) (holds:List (List (List Part))) (k l fr to m:Int):∃b,F81 f lots holds k l fr to m=some b:=by
  obtain ⟨q,e56,eq0,eq1⟩:=F64_has (f:=f) hl.1 l hf
  simp only [F81,F81_j1,F81_j2,F81_j3,F81_j4,F81_j5,F81_j6,F81_j7,F60_eq,F101_eq,Option.bind_some,e56,eq0,bq,bn]
  have hc:∀(c:Bool) (x y:Option Bool),(∃b,x=some b)→(∃b,y=some b)→∃b,cond c x y=some b:=fun c x y hx hy=>by cases c; exact hy; exact hx
  repeat' (first | exact ⟨_,rfl⟩ | apply hc)
theorem check_eq {f:Nat} {lots:List Lot} {holds:List (List (List Part))} (hs:StockOk lots holds) (h9:holds.length=9) (hf:40<f) (k l fr to m:Int) :
    ∃r,F78 f lots holds k l fr to m=some r∧(F80 f lots holds=some 0→F54 f lots holds k l fr to m=some r):=by
  obtain ⟨b,eb⟩:=named_some (f:=f) hs.lok hf holds k l fr to m
  unfold F78
  rw [named_eq hs.lok hf,eb,F79_eq]
  simp only [Option.bind_some]
  cases b with
  | false=>exact ⟨61,by simp,fun h=>by unfold F54; rw [h,eb]; simp⟩
  | true =>
    obtain ⟨hk,hfr,hto,hm,hm6⟩:=named_true hs.lok hf eb
    have hfr':fr.toNat<holds.length:=by omega
    have hto':to.toNat<holds.length:=by omega
    have efr:getI holds fr=some holds[fr.toNat]:=by have:=getI_nat hfr'; rwa [Int.toNat_of_nonneg hfr.1] at this
    have eto:getI holds to=some holds[to.toNat]:=by have:=getI_nat hto'; rwa [Int.toNat_of_nonneg hto.1] at this
    have gfr:=hs.hok _ (List.getElem_mem hfr')
    have gto:=hs.hok _ (List.getElem_mem hto')
    have sfr:=F41_eq (f:=f) gfr.len (fun x hx=>(gfr.heaps x hx).ok) hf
    have sto:=F41_eq (f:=f) gto.len (fun x hx=>(gto.heaps x hx).ok) hf
    have hs0:=(sumH_bound fun x hx=>(gfr.heaps x hx).ok).1
    have hm7:k=6→decide (m > sumH holds[fr.toNat])=false:=fun e=>by rw [hm6 e]; simpa using hs0
    have hc:∀(c:Bool) (x y z u:Option Int),(∃r,x=some r∧z=some r)→(∃r,y=some r∧u=some r)→∃r,cond c x y=some r∧cond c z u=some r:=fun c x y z u hx hy=>by cases c; exact hy; exact hx
    suffices ∃r,(F78_j1 f holds k fr to m (lkK deeds k zrow).lot (lkK deeds k zrow).frm (lkK deeds k zrow).to (lkK deeds k zrow).mass (lkK deeds k zrow).fn=some r) ∧
        (cond (k == 3) (F54_j1 f holds k fr to m true) (cond (k == 4) (F54_j1 f holds k fr to m true) (F54_j1 f holds k fr to m (k == 5)))=some r) by
      obtain ⟨r,h1,h2⟩:=this
      refine ⟨r,by simpa using h1,fun h=>?_⟩
      unfold F54
      rw [h,eb]
      simpa using h2
    rcases deeds_at k with ⟨rfl,e⟩ | ⟨rfl,e⟩ | ⟨rfl,e⟩ | ⟨rfl,e⟩ | ⟨rfl,e⟩ | ⟨rfl,e⟩ | ⟨hk,e⟩
    case inr.inr.inr.inr.inr.inr=>omega
    all_goals
      simp only [lkK,e,Option.getD_some,F78_j1,F78_j2,F78_j3,F78_j4,F54_j1,F54_j2,F54_j3,F54_j4,F54_j5,efr,eto,F69_75,sfr,sto,Option.bind_some,cond_true,cond_false,bq,decide_true,Int.reduceEq,decide_false]
      try simp only [hm7 rfl,cond_false]
      repeat' (first | exact ⟨_,rfl,rfl⟩ | apply hc)
end Go.Proofs.YtlmgjjmighajdaaGreat
set_option linter.unusedSimpArgs false
set_option linter.unusedVariables false
namespace Go.Proofs.YtlmgjjmighajdaaGreat
open Go.Sl Go.Sx
theorem named_more {f:Nat} {lots:List Lot} (hl:LotsOk lots) (hf:40<f) {holds:List (List (List Part))} {k l fr to m:Int} (h:F81 f lots holds k l fr to m=some true):((k=1∨k=2)→Has lots l)∧(k=4→fr≠to):=by
  obtain ⟨q,e56,eq0,eq1⟩:=F64_has (f:=f) hl.1 l hf
  have hn:=named_true hl hf h
  obtain ⟨hk,b1,b2,b3,_⟩:=hn
  simp only [F81,F81_j1,F81_j2,F81_j3,F81_j4,F81_j5,F81_j6,F81_j7,F60_eq,F101_eq,Option.bind_some,e56,eq0,bq,bn] at h
  refine ⟨?_,?_⟩
  · rintro (rfl | rfl)
    · have b3':=b3 (by omega)
      by_cases a2:fr=0 <;> simp [b1,b2,b3',a2] at h
      exact h
    · have b3':=b3 (by omega)
      by_cases a2:fr=0 <;> simp [b1,b2,b3',a2] at h
      exact h
  · rintro rfl
    have b3':=b3 (by omega)
    by_cases a1:l=0 <;> simp [b1,b2,b3',a1] at h
    exact h
structure Allowed (lots:List Lot) (holds:List (List (List Part))) (k l fr to m:Int):Prop where
  k0:1≤k∧k≤6
  fr0:0≤fr∧fr≤8
  to0:0≤to∧to≤8
  m0:k≠6→1≤m∧m≤100000000
  m6:k=6→m=0
  lot:(k=1∨k=2)→Has lots l
  apart:k=4→fr≠to
  from_:(k=3∨k=4∨k=5)→m≤sumH (holds.getD fr.toNat [])
  two:k=6→2≤(holds.getD fr.toNat []).length
  room:k=2→(holds.getD to.toNat []).length≠4
  into:(k=1∨k=2∨k=4)→sumH (holds.getD to.toNat []) + m≤100000000
theorem F54_allowed {f:Nat} {lots:List Lot} {holds:List (List (List Part))} (hs:StockOk lots holds) (h9:holds.length=9) (hf:40<f) {k l fr to m:Int} (h:F54 f lots holds k l fr to m=some 0):Allowed lots holds k l fr to m:=by
  obtain ⟨b,eb⟩:=named_some (f:=f) hs.lok hf holds k l fr to m
  unfold F54 at h
  rcases F80_eq (lots:=lots) h9 hf with ⟨_,e22⟩ | ⟨hn,_⟩
  · rw [e22,eb] at h
    simp only [Option.bind_some] at h
    cases b with
    | false=>simp at h
    | true =>
      obtain ⟨hk,hfr,hto,hm,hm6⟩:=named_true hs.lok hf eb
      obtain ⟨hlot,hap⟩:=named_more hs.lok hf eb
      have hfr':fr.toNat<holds.length:=by omega
      have hto':to.toNat<holds.length:=by omega
      have efr:getI holds fr=some holds[fr.toNat]:=by have:=getI_nat hfr'; rwa [Int.toNat_of_nonneg hfr.1] at this
      have eto:getI holds to=some holds[to.toNat]:=by have:=getI_nat hto'; rwa [Int.toNat_of_nonneg hto.1] at this
      have gfr:=hs.hok _ (List.getElem_mem hfr')
      have gto:=hs.hok _ (List.getElem_mem hto')
      have sfr:=F41_eq (f:=f) gfr.len (fun x hx=>(gfr.heaps x hx).ok) hf
      have sto:=F41_eq (f:=f) gto.len (fun x hx=>(gto.heaps x hx).ok) hf
      have hs0:=(sumH_bound fun x hx=>(gto.heaps x hx).ok).1
      have hs1:=gto.sum
      have hw:k≠6→w64 (sumH holds[to.toNat] + m)=sumH holds[to.toNat] + m:=fun e=>w64_id (by have:=hm e; omega) (by have:=hm e; omega)
      have d1:holds.getD fr.toNat []=holds[fr.toNat]:=by simp [hfr']
      have d2:holds.getD to.toNat []=holds[to.toNat]:=by simp [hto']
      simp only [F54_j1,F54_j2,F54_j3,F54_j4,F54_j5,efr,eto,F69_75,sfr,sto,Option.bind_some,bq] at h
      have hk':k=1∨k=2∨k=3∨k=4∨k=5∨k=6:=by omega
      have fin:((k=3∨k=4∨k=5)→m≤sumH holds[fr.toNat])∧(k=6→2≤holds[fr.toNat].length)∧(k=2→holds[to.toNat].length≠4)∧((k=1∨k=2∨k=4)→sumH holds[to.toNat] + m≤100000000):=by
        by_cases c1:m > sumH holds[fr.toNat] <;> by_cases c2:(holds[fr.toNat].length:Int)<2 <;> by_cases c3:(holds[to.toNat].length:Int)=4 <;> by_cases c4:sumH holds[to.toNat] + m > 100000000 <;>
          rcases hk' with rfl | rfl | rfl | rfl | rfl | rfl <;>
          first
          | (exfalso; simp [hw,c1,c2,c3,c4] at h; done)
          | (refine ⟨fun _=>by omega,fun _=>by omega,fun _=>by omega,fun _=>by omega⟩)
          | omega
      exact ⟨hk,hfr,hto,hm,hm6,hlot,hap,by rw [d1]; exact fin.1,by rw [d1]; exact fin.2.1,by rw [d2]; exact fin.2.2.1,by rw [d2]; exact fin.2.2.2⟩
  · exact absurd hs hn
end Go.Proofs.YtlmgjjmighajdaaGreat
set_option linter.unusedSimpArgs false
set_option linter.unusedVariables false
namespace Go.Proofs.YtlmgjjmighajdaaGreat
open Go.Sl Go.Sx
theorem one_ok {l m:Int} (h:PartOk ⟨l,m⟩):HeapOk [⟨l,m⟩]:=⟨by simp,by simpa using h,List.pairwise_singleton _ _,by have:=h.m1; simpa [sumM] using this⟩
theorem one_tr (l:Int):Tr (putK [] l true):=Tr.nil.put
theorem F94_eq {f:Nat} (hf:1001≤f) {t:Nat} {x:Pl} {H:List (List Part)} {M:List (List (Int×Bool))} (ha:At9 x t H M) (hH:∀p∈H,HeapOk p) {l m:Int} (hp:PartOk ⟨l,m⟩) (k fr:Int) :
    ∃s M',M'.length=(ontoS H [⟨l,m⟩]).length∧F94 f x k l fr (t:Int) m=some ([⟨l,m⟩],s,x.put t (ontoS H [⟨l,m⟩]) M')∧(Tru M→Tru M'∧∀l',bl l' M'=ontoB (bl l' M) (l == l')):=by
  unfold F94 F108
  obtain ⟨M',hM,e,hT⟩:=F107_eq hf ha hH (one_ok hp) (by simp) (putK [] l true)
  simp only [Option.bind_some]
  rw [e]
  refine ⟨_,M',hM,rfl,fun k=>⟨(hT k (one_tr l)).1,fun l'=>?_⟩⟩
  rw [(hT k (one_tr l)).2,inB_put,inB_nil,Bool.or_false]
theorem F95_eq {f:Nat} {t:Nat} {x:Pl} {H:List (List Part)} {M:List (List (Int×Bool))} (ha:At9 x t H M) (k l fr m:Int) :
    ∃s,F95 f x k l fr (t:Int) m=some ([⟨l,m⟩],s,x.put t (H ++ [[⟨l,m⟩]]) (M ++ [putK [] l true])):=by
  unfold F95 F108
  simp only [Option.bind_some]
  rw [F109_put ha (by simp)]
  exact ⟨_,rfl⟩
end Go.Proofs.YtlmgjjmighajdaaGreat
set_option linter.unusedSimpArgs false
set_option linter.unusedVariables false
namespace Go.Proofs.YtlmgjjmighajdaaGreat
open Go.Sl Go.Sx
variable {ids : List Int}
theorem drawR_spec:∀(r:List (List Part)) (out:List Part) (m:Int),Hold ids r→In ids out→0<m→m≤sumH r→sumM out + sumH r≤100000000→0≤sumM out →
    Hold ids (drawR r out m).1∧In ids (drawR r out m).2∧sumH (drawR r out m).1=sumH r - m∧sumM (drawR r out m).2=sumM out + m∧(drawR r out m).1.length≤r.length
  | [],out,m,_,_,h0,h1,_,_=>by simp [sumH] at h1; omega
  | p::r,out,m,hk,ho,h0,h1,h2,hoo=>by
    have hr:=hk.tail
    have hsr:=hr.sum_pos
    have hp:=hk.ins p (by simp)
    have hpp:=hp.pos (hk.ne p (by simp))
    have hsum:sumH (p::r)=sumM p + sumH r:=by simp [sumH]
    rw [hsum] at h1 h2 ⊢
    by_cases hle:m≤sumM p
    · have c:Cut ids p m:=⟨hp,hk.i8,by omega,by omega,hle⟩
      have htk:=c.tk_sum
      have hlf:=c.lf_sum
      have hms:=merge_sum _ out (tk p m) (Nat.le_refl _)
      simp only [drawR,if_pos hle]
      by_cases hl:lf p m=[]
      · rw [if_pos hl]
        rw [hl] at hlf
        simp [sumM] at hlf
        exact ⟨hr,ho.merge c.tk_in (by omega),by simp only [sumM] at *; omega,by omega,by simp⟩
      · rw [if_neg hl]
        refine ⟨⟨hk.i8,fun q hq=>?_,fun q hq=>?_,by have:=hk.len; simpa using this⟩,ho.merge c.tk_in (by omega),?_,by omega,by simp⟩
        · rcases List.mem_cons.1 hq with rfl | hq
          · exact c.lf_in
          · exact hr.ins q hq
        · rcases List.mem_cons.1 hq with rfl | hq
          · exact hl
          · exact hr.ne q hq
        · have:sumH (lf p m::r)=sumM (lf p m) + sumH r:=by simp [sumH]
          omega
    · have c:Cut ids p (sumM p):=⟨hp,hk.i8,by omega,by omega,Int.le_refl _⟩
      have htk:=c.tk_sum
      have hms:=merge_sum _ out (tk p (sumM p)) (Nat.le_refl _)
      obtain ⟨a1,a2,a3,a4,a5⟩:=drawR_spec r (mergeP out (tk p (sumM p))) (m - sumM p) hr (ho.merge c.tk_in (by omega)) (by omega) (by omega) (by omega) (by omega)
      simp only [drawR,if_neg hle]
      exact ⟨a1,a2,by omega,by omega,by simp; omega⟩
end Go.Proofs.YtlmgjjmighajdaaGreat
set_option linter.unusedSimpArgs false
set_option linter.unusedVariables false
namespace Go.Proofs.YtlmgjjmighajdaaGreat
open Go.Sl Go.Sx
variable {ids : List Int}
theorem Hold.append {H:List (List Part)} {p:List Part} (k:Hold ids H) (hp:In ids p) (ne:p≠[]) (hl:H.length<100):Hold ids (H ++ [p]) :=
  ⟨k.i8,fun q hq=>by rcases List.mem_append.1 hq with h | h; exact k.ins q h; simp at h; subst h; exact hp,fun q hq=>by rcases List.mem_append.1 hq with h | h; exact k.ne q h; simp at h; subst h; exact ne,by simp; omega⟩
theorem Hold.left {H:List (List Part)} {p:List Part} (k:Hold ids (H ++ [p])):Hold ids H∧In ids p∧p≠[] :=
  ⟨⟨k.i8,fun q hq=>k.ins q (by simp [hq]),fun q hq=>k.ne q (by simp [hq]),by have:=k.len; simp at this; omega⟩,k.ins p (by simp),k.ne p (by simp)⟩
theorem sumH_one (H:List (List Part)) (p:List Part):sumH (H ++ [p])=sumH H + sumM p:=by rw [sumH_app]; simp [sumH]
theorem ontoS_spec {H:List (List Part)} (k:Hold ids H) (hl:H.length<100) {b:List Part} (hb:In ids b) (ne:b≠[]) (hs:sumH H + sumM b≤100000000) :
    Hold ids (ontoS H b)∧sumH (ontoS H b)=sumH H + sumM b∧(ontoS H b).length=max 1 H.length:=by
  rcases List.eq_nil_or_concat H with rfl | ⟨H',p,rfl⟩
  · refine ⟨⟨k.i8,fun q hq=>?_,fun q hq=>?_,by simp [ontoS_nil]⟩,by simp [ontoS_nil,sumH],by simp [ontoS_nil]⟩
    · rw [ontoS_nil,List.mem_singleton] at hq; subst hq; exact hb
    · rw [ontoS_nil,List.mem_singleton] at hq; subst hq; exact ne
  · have e:H'.concat p=H' ++ [p]:=by simp
    rw [e] at k hl hs ⊢
    obtain ⟨k1,k2,k3⟩:=k.left
    have h0:=k1.sum_pos
    rw [sumH_one] at hs ⊢
    rw [ontoS_last,sumH_one,merge_sum _ p b (Nat.le_refl _)]
    refine ⟨k1.append (k2.merge hb (by omega)) (merge_ne (.inr ne)) (by simp at hl; omega),by omega,by simp⟩
end Go.Proofs.YtlmgjjmighajdaaGreat
set_option linter.unusedSimpArgs false
set_option linter.unusedVariables false
namespace Go.Proofs.YtlmgjjmighajdaaGreat
open Go.Sl Go.Sx
variable {ids : List Int}
theorem loseL_spec (i8:ids.length≤40):∀ {H:List (List Part)} {d:List Int},Fit ids H d→∀(res:List (List Part)) (out:List Part),Hold ids res→res.length + H.length≤100→In ids out→0≤sumM out→sumM out + d.sum≤100000000 →
    Hold ids (loseL H d res out).1∧In ids (loseL H d res out).2∧sumH (loseL H d res out).1=sumH res + sumH H - d.sum∧sumM (loseL H d res out).2=sumM out + d.sum∧(loseL H d res out).1.length≤res.length + H.length
  | _,_, .nil,res,out,hr,hl,ho,h0,hs=>by simp [loseL,sumH,hr,ho]
  | p::H,n::d, .cons c k,res,out,hr,hl,ho,h0,hs=>by
    simp only [List.sum_cons,List.length_cons] at hs hl ⊢
    have hsum:sumH (p::H)=sumM p + sumH H:=by simp [sumH]
    have hd0:=k.sum0
    have hc0:=c.m0
    have htk:=c.tk_sum
    have hlf:=c.lf_sum
    have hms:=merge_sum _ out (tk p n) (Nat.le_refl _)
    simp only [loseL]
    by_cases hz:lf p n=[]
    · rw [if_pos hz]
      rw [hz] at hlf
      have hlf0:(0:Int)=sumM p - n:=by simpa [sumM] using hlf
      obtain ⟨a1,a2,a3,a4,a5⟩:=loseL_spec i8 k res (mergeP out (tk p n)) hr (by omega) (ho.merge c.tk_in (by omega)) (by omega) (by omega)
      exact ⟨a1,a2,by omega,by omega,by omega⟩
    · rw [if_neg hz]
      obtain ⟨a1,a2,a3,a4,a5⟩:=loseL_spec i8 k (res ++ [lf p n]) (mergeP out (tk p n)) (hr.append c.lf_in hz (by omega)) (by simp; omega) (ho.merge c.tk_in (by omega)) (by omega) (by omega)
      rw [sumH_one] at a3
      rw [List.length_append] at a5
      simp only [List.length_cons,List.length_nil] at a5
      exact ⟨a1,a2,by omega,by omega,by omega⟩
end Go.Proofs.YtlmgjjmighajdaaGreat
set_option linter.unusedSimpArgs false
set_option linter.unusedVariables false
namespace Go.Proofs.YtlmgjjmighajdaaGreat
open Go.Sl Go.Sx
variable {ids : List Int}
def drawS (H:List (List Part)) (m:Int):List (List Part)×List Part:=((drawR H.reverse [] m).1.reverse,(drawR H.reverse [] m).2)
def mixS (H:List (List Part)):List (List Part):=match H.reverse with
  | q::p::r=>r.reverse ++ [mergeP p q]
  | _=>H
theorem mixS_last (H:List (List Part)) (p q:List Part):mixS (H ++ [p] ++ [q])=H ++ [mergeP p q]:=by simp [mixS]
def doS (holds:List (List (List Part))) (k l fr to m:Int):List (List (List Part))×List Part :=
  let F:=holds.getD fr.toNat []
  let T:=holds.getD to.toNat []
  if k=1 then (holds.set to.toNat (ontoS T [⟨l,m⟩]),[⟨l,m⟩])
  else if k=2 then (holds.set to.toNat (T ++ [[⟨l,m⟩]]),[⟨l,m⟩])
  else if k=3 then (holds.set fr.toNat (drawS F m).1,(drawS F m).2)
  else if k=4 then ((holds.set fr.toNat (drawS F m).1).set to.toNat (ontoS T (drawS F m).2),(drawS F m).2)
  else if k=5 then (holds.set fr.toNat (loseS F m).1,(loseS F m).2)
  else (holds.set fr.toNat (mixS F),[])
theorem sumH_rev:∀H:List (List Part),sumH H.reverse=sumH H
  | []=>rfl
  | p::H=>by
    rw [List.reverse_cons,sumH_one,sumH_rev H]
    have:sumH (p::H)=sumM p + sumH H:=by simp [sumH]
    omega
theorem Hold.rev {H:List (List Part)} (k:Hold ids H):Hold ids H.reverse:=⟨k.i8,fun p hp=>k.ins p (by simpa using hp),fun p hp=>k.ne p (by simpa using hp),by simpa using k.len⟩
theorem drawS_spec {H:List (List Part)} {m:Int} (k:Hold ids H) (h0:0<m) (h1:m≤sumH H) (hs:sumH H≤100000000) :
    Hold ids (drawS H m).1∧In ids (drawS H m).2∧sumH (drawS H m).1=sumH H - m∧sumM (drawS H m).2=m∧(drawS H m).1.length≤H.length:=by
  obtain ⟨a1,a2,a3,a4,a5⟩:=drawR_spec H.reverse [] m k.rev (In.nil ids) h0 (by rw [sumH_rev]; exact h1) (by rw [sumH_rev]; simp [sumM]; exact hs) (by simp [sumM])
  rw [sumH_rev] at a3
  refine ⟨a1.rev,a2,by unfold drawS; rw [sumH_rev]; exact a3,by unfold drawS; rw [a4]; simp [sumM],by simpa [drawS] using a5⟩
end Go.Proofs.YtlmgjjmighajdaaGreat
set_option linter.unusedSimpArgs false
set_option linter.unusedVariables false
namespace Go.Proofs.YtlmgjjmighajdaaGreat
open Go.Sl Go.Sx
def idsOf (lots:List Lot):List Int:=lots.map (·.id)
theorem mem_ids {lots:List Lot} {x:Int}:x∈idsOf lots↔Has lots x:=by simp [idsOf,Has]
theorem GoodHold.hold {lots:List Lot} {H:List (List Part)} (g:GoodHold lots H) (h8:lots.length≤40):Hold (idsOf lots) H :=
  ⟨by simpa [idsOf] using h8,fun p hp=>⟨(g.heaps p hp).ok.2.1,(g.heaps p hp).ok.2.2.1,fun q hq=>mem_ids.2 ((g.heaps p hp).lots q hq)⟩,fun p hp=>(g.heaps p hp).ne,by have:=g.len; omega⟩
theorem Hold.good {lots:List Lot} {H:List (List Part)} (k:Hold (idsOf lots) H) (hl:H.length≤4) (hs:sumH H≤100000000):GoodHold lots H :=
  ⟨hl,fun p hp=>⟨(k.ins p hp).heap (by have:=k.i8; omega) (by have:=k.one_le p hp; omega),k.ne p hp,fun q hq=>mem_ids.1 ((k.ins p hp).ids q hq)⟩,hs⟩
theorem StockOk.set {lots:List Lot} {holds:List (List (List Part))} (s:StockOk lots holds) {t:Nat} {H:List (List Part)} (g:GoodHold lots H):StockOk lots (holds.set t H) :=
  ⟨s.lok,fun l hl=>by rcases List.mem_or_eq_of_mem_set hl with h | rfl; exact s.hok l h; exact g⟩
theorem StockOk.small {lots:List Lot} {holds:List (List (List Part))} (s:StockOk lots holds) (h9:holds.length=9):Small holds :=
  ⟨h9,fun l hl=>by have:=(s.hok l hl).len; omega,fun l hl p hp=>by have:=((s.hok l hl).heaps p hp).ok.1; omega⟩
end Go.Proofs.YtlmgjjmighajdaaGreat
set_option linter.unusedSimpArgs false
set_option linter.unusedVariables false
namespace Go.Proofs.YtlmgjjmighajdaaGreat
open Go.Sl Go.Sx
theorem two_last {α:Type} {l:List α} (h:2≤l.length):∃l' p q,l=l' ++ [p] ++ [q]:=by
  rcases List.eq_nil_or_concat l with rfl | ⟨l1,q,rfl⟩
  · simp at h
  · rcases List.eq_nil_or_concat l1 with rfl | ⟨l2,p,rfl⟩
    · simp at h
    · exact ⟨l2,p,q,by simp⟩
theorem mixS_spec {ids:List Int} {H:List (List Part)} (k:Hold ids H) (h2:2≤H.length) (hs:sumH H≤100000000):Hold ids (mixS H)∧sumH (mixS H)=sumH H∧(mixS H).length≤H.length:=by
  obtain ⟨H',p,q,rfl⟩:=two_last h2
  obtain ⟨k1,k2,k3⟩:=k.left
  obtain ⟨k4,k5,k6⟩:=k1.left
  have h0:=k4.sum_pos
  have hp:=k5.pos k6
  have hq:=k2.pos k3
  have hl:=k.len
  rw [sumH_one,sumH_one] at hs ⊢
  rw [mixS_last,sumH_one,merge_sum _ p q (Nat.le_refl _)]
  exact ⟨k4.append (k5.merge k2 (by omega)) (merge_ne (.inl k6)) (by simp at hl; omega),by omega,by simp⟩
end Go.Proofs.YtlmgjjmighajdaaGreat
set_option linter.unusedSimpArgs false
set_option linter.unusedVariables false
namespace Go.Proofs.YtlmgjjmighajdaaGreat
open Go.Sl Go.Sx
theorem hold_at {lots:List Lot} {holds:List (List (List Part))} (s:StockOk lots holds) (h8:lots.length≤40) (h9:holds.length=9) {t:Nat} (ht:t<9):Hold (idsOf lots) (holds.getD t [])∧(holds.getD t []).length≤4∧sumH (holds.getD t [])≤100000000∧holds[t]? =some (holds.getD t []):=by
  have h:t<holds.length:=by omega
  have e:holds.getD t []=holds[t]:=by simp [h]
  rw [e]
  have g:=s.hok _ (List.getElem_mem h)
  exact ⟨g.hold h8,g.len,g.sum,by simp [h]⟩
theorem one_in {lots:List Lot} (hl:LotsOk lots) {l m:Int} (hh:Has lots l) (h0:1≤m) (h1:m≤100000000):In (idsOf lots) [⟨l,m⟩]:=by
  refine ⟨fun p hp=>?_,List.pairwise_singleton _ _,fun p hp=>?_⟩
  · rw [List.mem_singleton] at hp
    subst hp
    obtain ⟨y,hy,e⟩:=hh
    have:=hl.2.1 y hy
    exact ⟨by show 1≤l; rw [← e]; exact this.id0,by show l≤9999; rw [← e]; exact this.id1,h0,h1⟩
  · rw [List.mem_singleton] at hp
    subst hp
    exact mem_ids.2 hh
theorem doS_good {lots:List Lot} {holds:List (List (List Part))} (s:StockOk lots holds) (h8:lots.length≤40) (h9:holds.length=9) {k l fr to m:Int} (a:Allowed lots holds k l fr to m) :
    StockOk lots (doS holds k l fr to m).1∧(doS holds k l fr to m).1.length=9∧In (idsOf lots) (doS holds k l fr to m).2∧sumM (doS holds k l fr to m).2=m:=by
  obtain ⟨f1,f2,fx3,fx4⟩:=hold_at s h8 h9 (t:=fr.toNat) (by have:=a.fr0; omega)
  obtain ⟨t1,t2,t3,t4⟩:=hold_at s h8 h9 (t:=to.toNat) (by have:=a.to0; omega)
  have hk:=a.k0
  have hk':k=1∨k=2∨k=3∨k=4∨k=5∨k=6:=by omega
  unfold doS
  rcases hk' with rfl | rfl | rfl | rfl | rfl | rfl
  · have hm:=a.m0 (by omega)
    have h1:=one_in s.lok (a.lot (.inl rfl)) hm.1 hm.2
    have hi:=a.into (.inl rfl)
    have hs1:sumM [(⟨l,m⟩:Part)]=m:=by simp [sumM]
    obtain ⟨b1,b2,b3⟩:=ontoS_spec t1 (by omega) h1 (by simp) (by rw [hs1]; exact hi)
    simp only [if_true]
    exact ⟨s.set (b1.good (by omega) (by omega)),by simp [h9],h1,hs1⟩
  · have hm:=a.m0 (by omega)
    have h1:=one_in s.lok (a.lot (.inr rfl)) hm.1 hm.2
    have hi:=a.into (.inr (.inl rfl))
    have hr:=a.room rfl
    have hs1:sumM [(⟨l,m⟩:Part)]=m:=by simp [sumM]
    simp only [show ¬ (2:Int)=1 by omega,if_false,if_true]
    exact ⟨s.set ((t1.append h1 (by simp) (by omega)).good (by simp only [List.length_append,List.length_cons,List.length_nil]; omega) (by rw [sumH_one,hs1]; exact hi)),by simp [h9],h1,hs1⟩
  · have hm:=a.m0 (by omega)
    obtain ⟨d1,d2,d3,d4,d5⟩:=drawS_spec f1 (m:=m) (by omega) (a.from_ (.inl rfl)) fx3
    simp only [show ¬ (3:Int)=1 by omega,show ¬ (3:Int)=2 by omega,if_false,if_true]
    exact ⟨s.set (d1.good (by omega) (by omega)),by simp [h9],d2,d4⟩
  · have hm:=a.m0 (by omega)
    obtain ⟨d1,d2,d3,d4,d5⟩:=drawS_spec f1 (m:=m) (by omega) (a.from_ (.inr (.inl rfl))) fx3
    have hi:=a.into (.inr (.inr rfl))
    have hne:(drawS (holds.getD fr.toNat []) m).2≠[]:=fun e=>by rw [e] at d4; simp [sumM] at d4; omega
    obtain ⟨b1,b2,b3⟩:=ontoS_spec t1 (by omega) d2 hne (by rw [d4]; exact hi)
    simp only [show ¬ (4:Int)=1 by omega,show ¬ (4:Int)=2 by omega,show ¬ (4:Int)=3 by omega,if_false,if_true]
    exact ⟨(s.set (d1.good (by omega) (by omega))).set (b1.good (by omega) (by omega)),by simp [h9],d2,d4⟩
  · have hm:=a.m0 (by omega)
    have hfr:=a.from_ (.inr (.inr rfl))
    have hd:=dealOk_hold f1 (by omega) fx3 (m:=m) (by omega) hfr
    have hfit:=fit_hold f1 (by omega) fx3 (m:=m) (by omega) hfr
    obtain ⟨d1,d2,d3,d4,d5⟩:=loseL_spec f1.i8 hfit [] [] ⟨f1.i8,by simp,by simp,by simp⟩ (by simp only [List.length_nil]; omega) (In.nil _) (by simp [sumM]) (by rw [deal_sum hd]; simp [sumM]; omega)
    rw [deal_sum hd] at d3 d4
    simp only [show ¬ (5:Int)=1 by omega,show ¬ (5:Int)=2 by omega,show ¬ (5:Int)=3 by omega,show ¬ (5:Int)=4 by omega,if_false,if_true]
    have e0:sumH []=0:=rfl
    have e1:sumM []=0:=rfl
    exact ⟨s.set (d1.good (by simp only [List.length_nil] at d5; omega) (by omega)),by simp [h9],d2,by unfold loseS; omega⟩
  · obtain ⟨d1,d2,d3⟩:=mixS_spec f1 (a.two rfl) fx3
    simp only [show ¬ (6:Int)=1 by omega,show ¬ (6:Int)=2 by omega,show ¬ (6:Int)=3 by omega,show ¬ (6:Int)=4 by omega,show ¬ (6:Int)=5 by omega,if_false]
    exact ⟨s.set (d1.good (by omega) (by omega)),by simp [h9],In.nil _,by rw [a.m6 rfl]; rfl⟩
end Go.Proofs.YtlmgjjmighajdaaGreat
set_option linter.unusedSimpArgs false
set_option linter.unusedVariables false
namespace Go.Proofs.YtlmgjjmighajdaaGreat
open Go.Sl Go.Sx
theorem Hold.heapOk {ids:List Int} {H:List (List Part)} (k:Hold ids H) (hs:sumH H≤100000000):∀p∈H,HeapOk p:=fun p hp=>(k.ins p hp).heap (by have:=k.i8; omega) (by have:=k.one_le p hp; omega)
theorem F22_end {f:Nat} (hf:1001≤f) {lots:List Lot} {H holds:List (List (List Part))} (s:StockOk lots H) (h9:H.length=9) (hl:lots.length≤40) {mv:List Part} (hm:mv.length≤100) :
    F22_j1 f (lots,holds) H mv=some (lots,H,mv,0):=by
  unfold F22_j1 F22_j2
  rw [F55_eq (s.small h9) (show lots.length≤100 by omega) hf]
  simp only [Option.bind_some]
  rw [app_small (by simp) (by omega)]
  rfl
theorem F22_eq {f:Nat} (hf:1001≤f) {lots:List Lot} {holds:List (List (List Part))} (s:StockOk lots holds) (h8:lots.length≤40) (h9:holds.length=9) {k l fr to m:Int} (h24:F54 f lots holds k l fr to m=some 0) :
    F22 f lots holds k l fr to m=some (lots,(doS holds k l fr to m).1,(doS holds k l fr to m).2,0):=by
  have a:=F54_allowed s h9 (by omega) h24
  obtain ⟨g1,g2,g3,g4⟩:=doS_good s h8 h9 a
  have gl:=g3.len
  have gi:(idsOf lots).length≤40:=by simpa [idsOf] using h8
  obtain ⟨f1,f2,fx3,fx4⟩:=hold_at s h8 h9 (t:=fr.toNat) (by have:=a.fr0; omega)
  obtain ⟨t1,t2,t3,t4⟩:=hold_at s h8 h9 (t:=to.toNat) (by have:=a.to0; omega)
  have ef:getI holds fr=some (holds.getD fr.toNat []):=by
    have:fr=(fr.toNat:Int):=by have:=a.fr0; omega
    rw [this,getI_opt,Int.toNat_natCast]; exact fx4
  have et:getI holds to=some (holds.getD to.toNat []):=by
    have:to=(to.toNat:Int):=by have:=a.to0; omega
    rw [this,getI_opt,Int.toNat_natCast]; exact t4
  unfold F22
  rw [h24]
  simp only [Option.bind_some,bne_self_eq_false,cond_false]
  rw [F55_eq (s.small h9) (by omega) hf]
  simp only [Option.bind_some,bq]
  have hk:=a.k0
  have hk':k=1∨k=2∨k=3∨k=4∨k=5∨k=6:=by omega
  rcases hk' with rfl | rfl | rfl | rfl | rfl | rfl
  · have hm:=a.m0 (by omega)
    have h1:=one_in s.lok (a.lot (.inl rfl)) hm.1 hm.2
    have hs1:sumM [(⟨l,m⟩:Part)]=m:=by simp [sumM]
    simp only [doS,if_true,decide_true,cond_true,et,Option.bind_some] at g1 g2 ⊢
    rw [F56_eq hf (by omega) (t1.heapOk t3) (h1.heap (by omega) (by omega))]
    simp only [Option.bind_some]
    exact F22_end hf g1 g2 h8 (by simp)
  · simp only [doS,show ¬ (2:Int)=1 by omega,if_false,if_true,decide_true,decide_false,cond_true,cond_false,et,Option.bind_some] at g1 g2 ⊢
    rw [app_small (by omega) (by simp)]
    simp only [Option.bind_some]
    exact F22_end hf g1 g2 h8 (by simp)
  · have hm:=a.m0 (by omega)
    simp only [doS,show ¬ (3:Int)=1 by omega,show ¬ (3:Int)=2 by omega,if_false,if_true,decide_true,decide_false,cond_true,cond_false,ef,Option.bind_some] at g1 g2 gl ⊢
    rw [F57_eq hf f1.rev (by omega) (by rw [sumH_rev]; exact a.from_ (.inl rfl)) (by rw [sumH_rev]; exact fx3)]
    simp only [Option.bind_some]
    exact F22_end hf g1 g2 h8 (show (drawS (holds.getD fr.toNat []) m).2.length≤100 by omega)
  · have hm:=a.m0 (by omega)
    have hap:=a.apart rfl
    have hne:fr.toNat≠to.toNat:=by have:=a.fr0; have:=a.to0; omega
    obtain ⟨d1,d2,d3,d4,d5⟩:=drawS_spec f1 (m:=m) (by omega) (a.from_ (.inr (.inl rfl))) fx3
    have hi:=a.into (.inr (.inr rfl))
    simp only [doS,show ¬ (4:Int)=1 by omega,show ¬ (4:Int)=2 by omega,show ¬ (4:Int)=3 by omega,if_false,if_true,decide_true,decide_false,cond_true,cond_false,ef,Option.bind_some] at g1 g2 gl ⊢
    rw [F57_eq hf f1.rev (by omega) (by rw [sumH_rev]; exact a.from_ (.inr (.inl rfl))) (by rw [sumH_rev]; exact fx3)]
    have e5:∀v,getI (holds.set fr.toNat v) to=some (holds.getD to.toNat []):=fun v=>by
      have:to=(to.toNat:Int):=by have:=a.to0; omega
      rw [this,getI_opt,Int.toNat_natCast,List.getElem?_set_ne hne]; exact t4
    simp only [Option.bind_some,e5]
    have e6:((drawR (holds.getD fr.toNat []).reverse [] m).1.reverse,(drawR (holds.getD fr.toNat []).reverse [] m).2)=drawS (holds.getD fr.toNat []) m:=rfl
    have e7:(drawR (holds.getD fr.toNat []).reverse [] m).2=(drawS (holds.getD fr.toNat []) m).2:=rfl
    rw [e7,F56_eq hf (by omega) (t1.heapOk t3) (d2.heap (by omega) (by omega))]
    simp only [Option.bind_some]
    exact F22_end hf g1 g2 h8 (by omega)
  · have hm:=a.m0 (by omega)
    simp only [doS,show ¬ (5:Int)=1 by omega,show ¬ (5:Int)=2 by omega,show ¬ (5:Int)=3 by omega,show ¬ (5:Int)=4 by omega,if_false,if_true,decide_true,decide_false,cond_true,cond_false,ef,Option.bind_some] at g1 g2 gl ⊢
    rw [F58_eq hf f1 (by omega) fx3 (by omega) (a.from_ (.inr (.inr rfl)))]
    simp only [Option.bind_some]
    exact F22_end hf g1 g2 h8 (by omega)
  · obtain ⟨H,p,q,e⟩:=two_last (a.two rfl)
    simp only [doS,show ¬ (6:Int)=1 by omega,show ¬ (6:Int)=2 by omega,show ¬ (6:Int)=3 by omega,show ¬ (6:Int)=4 by omega,show ¬ (6:Int)=5 by omega,if_false,decide_true,decide_false,cond_true,cond_false,ef,Option.bind_some] at g1 g2 gl ⊢
    have hok:=f1.heapOk fx3
    rw [e] at hok f2 g1 g2 ⊢
    have hp:=hok p (by simp)
    have hq:=hok q (by simp)
    simp only [List.length_append,List.length_cons,List.length_nil] at f2
    obtain ⟨m1,m2,m3⟩:=mix_ref hf (H:=H) (by omega) hp hq
    rw [m1,m2,m3]
    simp only [Option.bind_some]
    rw [app_small (by simp) (by omega)]
    simp only [Option.bind_some,List.nil_append]
    rw [F59_eq hp hq (by omega)]
    simp only [Option.bind_some]
    rw [app_small (by omega) (by simp)]
    simp only [Option.bind_some]
    rw [mixS_last] at g1 g2 ⊢
    exact F22_end hf g1 g2 h8 (by simp)
end Go.Proofs.YtlmgjjmighajdaaGreat
set_option linter.unusedSimpArgs false
set_option linter.unusedVariables false
namespace Go.Proofs.YtlmgjjmighajdaaGreat
open Go.Sl Go.Sx
theorem getD_set {α:Type} (l:List α) (t u:Nat) (v d:α):(l.set t v).getD u d=if t=u∧t<l.length then v else l.getD u d:=by
  by_cases e:t=u
  · subst e
    by_cases h:t<l.length
    · simp [h]
    · have:l.length≤t:=by omega
      simp [List.getElem?_eq_none this,h]
  · simp [List.getElem?_set_ne e,e]
structure PlOk (lots:List Lot) (x:Pl):Prop where
  el:x.lots=lots
  sok:StockOk lots x.holds
  h9:x.holds.length=9
  m9:x.may.length=9
  len:∀t:Nat,(x.may.getD t []).length=(x.holds.getD t []).length
def PlTru (x:Pl):Prop:=∀t:Nat,Tru (x.may.getD t [])
theorem PlOk.at9 {lots:List Lot} {x:Pl} (k:PlOk lots x) {t:Nat} (ht:t<9):At9 x t (x.holds.getD t []) (x.may.getD t []):=by
  have h1:t<x.holds.length:=by have:=k.h9; omega
  have h2:t<x.may.length:=by have:=k.m9; omega
  refine ⟨by simp [h1],by simp [h2],k.len t,?_⟩
  have e:x.holds.getD t []=x.holds[t]:=by simp [h1]
  rw [e]
  have:=(k.sok.hok _ (List.getElem_mem h1)).len
  omega
theorem PlOk.put {lots:List Lot} {x:Pl} (k:PlOk lots x) {t:Nat} {H:List (List Part)} {M:List (List (Int×Bool))} (hl:M.length=H.length) (s:StockOk lots (x.holds.set t H)):PlOk lots (x.put t H M):=by
  refine ⟨k.el,s,by simp [Pl.put,k.h9],by simp [Pl.put,k.m9],fun u=>?_⟩
  simp only [Pl.put,getD_set,k.h9,k.m9]
  split
  · exact hl
  · exact k.len u
theorem PlTru.put {x:Pl} (k:PlTru x) (h9:x.holds.length=x.may.length) {t:Nat} {H:List (List Part)} {M:List (List (Int×Bool))} (h:Tru M):PlTru (x.put t H M):=fun u=>by
  simp only [Pl.put,getD_set]
  split
  · exact h
  · exact k u
def mayB (l:Int) (x:Pl):List (List Bool):=x.may.map (bl l)
theorem mayB_put (l:Int) (x:Pl) (t:Nat) (H:List (List Part)) (M:List (List (Int×Bool))):mayB l (x.put t H M)=(mayB l x).set t (bl l M):=by simp [mayB,Pl.put,List.map_set]
theorem mayB_at (l:Int) (x:Pl) (t:Nat):(mayB l x).getD t []=bl l (x.may.getD t []):=by
  by_cases h:t<x.may.length
  · simp [mayB,h]
  · have:x.may.length≤t:=by omega
    simp [mayB,List.getElem?_eq_none this,bl]
def drawBS (H:List (List Part)) (B:List Bool) (m:Int):List Bool×Bool:=((drawB H.reverse B.reverse false m).1.reverse,(drawB H.reverse B.reverse false m).2)
def mixB (B:List Bool):List Bool:=match B.reverse with
  | c::b::r=>r.reverse ++ [b || c]
  | _=>B
theorem mixB_last (B:List Bool) (b c:Bool):mixB (B ++ [b] ++ [c])=B ++ [b || c]:=by simp [mixB]
def mightS (h:List (List (List Part))) (k l fr to m lot:Int) (B:List (List Bool)):List (List Bool) :=
  if k=1 then B.set to.toNat (ontoB (B.getD to.toNat []) (l == lot))
  else if k=2 then B.set to.toNat (B.getD to.toNat [] ++ [l == lot])
  else if k=3 then B.set fr.toNat (drawBS (h.getD fr.toNat []) (B.getD fr.toNat []) m).1
  else if k=4 then (B.set fr.toNat (drawBS (h.getD fr.toNat []) (B.getD fr.toNat []) m).1).set to.toNat (ontoB (B.getD to.toNat []) (drawBS (h.getD fr.toNat []) (B.getD fr.toNat []) m).2)
  else if k=5 then B.set fr.toNat (loseB (h.getD fr.toNat []) (B.getD fr.toNat []) (dealS m (massH (h.getD fr.toNat []))))
  else B.set fr.toNat (mixB (B.getD fr.toNat []))
theorem F96_eq {f:Nat} (hf:1001≤f) {ids:List Int} {t:Nat} {x:Pl} {H:List (List Part)} {M:List (List (Int×Bool))} (ha:At9 x t H M) (k:Hold ids H) {m:Int} (h0:0<m) (h1:m≤sumH H) (hs:sumH H≤100000000) (hl:H.length≤90) (a b c:Int) :
    ∃s' M',M'.length=(drawS H m).1.length∧F96 f x a b (t:Int) c m=some ((drawS H m).2,s',x.put t (drawS H m).1 M')∧(Tru M→Tru M'∧Tr s'∧∀l,bl l M'=(drawBS H (bl l M) m).1∧inB l s'=(drawBS H (bl l M) m).2):=by
  obtain ⟨s',M',e1,e2,e4⟩:=F96_l1_eq hf t H.reverse f x M [] [] m (by simp; omega) k.rev (by simpa using ha) (In.nil ids) h0 (by rw [sumH_rev]; exact h1) (by rw [sumH_rev]; simp [sumM]; exact hs)
  refine ⟨s',M',by simpa [drawS] using e1,?_,fun kk=>?_⟩
  · unfold F96 F96_j1
    rw [e2]; rfl
  · obtain ⟨q1,q2,q3⟩:=e4 kk Tr.nil
    exact ⟨q1,q2,fun l=>⟨by rw [← List.reverse_reverse (bl l M'),(q3 l).1]; rfl,(q3 l).2⟩⟩
theorem F51_eq {f:Nat} (hf:1001≤f) {lots:List Lot} (h8:lots.length≤40) {x:Pl} (p:PlOk lots x) {k l fr to m:Int} (h78:F78 f lots x.holds k l fr to m=some 0) (a:Allowed lots x.holds k l fr to m) :
    ∃s y,F51 f x k l fr to m=some ((doS x.holds k l fr to m).2,s,0,y)∧y.holds=(doS x.holds k l fr to m).1∧PlOk lots y∧(PlTru x→PlTru y∧∀lot,mayB lot y=mightS x.holds k l fr to m lot (mayB lot x)):=by
  have s:=p.sok
  have h9:=p.h9
  have hpl:x.holds.length=x.may.length:=by rw [p.h9,p.m9]
  obtain ⟨g1,g2,g3,g4⟩:=doS_good s h8 h9 a
  have gl:=g3.len
  have gi:(idsOf lots).length≤40:=by simpa [idsOf] using h8
  obtain ⟨f1,f2,fx3,fx4⟩:=hold_at s h8 h9 (t:=fr.toNat) (by have:=a.fr0; omega)
  obtain ⟨t1,t2,t3,t4⟩:=hold_at s h8 h9 (t:=to.toNat) (by have:=a.to0; omega)
  have af:=p.at9 (t:=fr.toNat) (by have:=a.fr0; omega)
  have at_:=p.at9 (t:=to.toNat) (by have:=a.to0; omega)
  have efr:(fr.toNat:Int)=fr:=by have:=a.fr0; omega
  have eto:(to.toNat:Int)=to:=by have:=a.to0; omega
  have hk:=a.k0
  unfold F51
  rw [p.el,h78]
  simp only [Option.bind_some,bne_self_eq_false,cond_false,F79_eq,lkK]
  rcases deeds_at k with ⟨rfl,e⟩ | ⟨rfl,e⟩ | ⟨rfl,e⟩ | ⟨rfl,e⟩ | ⟨rfl,e⟩ | ⟨rfl,e⟩ | ⟨hk,e⟩
  · have hm:=a.m0 (by omega)
    have h1:=one_in s.lok (a.lot (.inl rfl)) hm.1 hm.2
    have hpo:PartOk ⟨l,m⟩:=h1.ok _ (by simp)
    obtain ⟨s',M',c1,c2,c3⟩:=F94_eq hf at_ (t1.heapOk t3) hpo 1 fr
    rw [eto] at c2
    simp only [doS,if_true] at g1 ⊢
    simp only [e,Option.getD_some,beq_self_eq_true,cond_true,c2,Option.bind_some]
    exact ⟨s',_,rfl,rfl,p.put c1 g1,fun k=>⟨k.put hpl (c3 (k _)).1,fun lot=>by rw [mayB_put,(c3 (k _)).2]; simp only [mightS,if_true,mayB_at]⟩⟩
  · have hm:=a.m0 (by omega)
    obtain ⟨s',c2⟩:=F95_eq (f:=f) at_ 2 l fr m
    rw [eto] at c2
    simp only [doS,show ¬ (2:Int)=1 by omega,if_false,if_true] at g1 ⊢
    simp only [e,Option.getD_some,show ((some 95:Option Nat) == some 94)=false from rfl,beq_self_eq_true,cond_true,cond_false,c2,Option.bind_some]
    refine ⟨s',_,rfl,rfl,p.put (by have:=at_.len; rw [List.length_append,List.length_append,this]; rfl) g1,fun k=>⟨k.put hpl ((k _).append (one_tr l)),fun lot=>by rw [mayB_put,bl_snoc,inB_put,inB_nil,Bool.or_false]; simp only [mightS,if_true,if_false,mayB_at,Int.reduceEq]⟩⟩
  · have hm:=a.m0 (by omega)
    obtain ⟨s',M',c1,c2,c4⟩:=F96_eq hf af f1 (m:=m) (by omega) (a.from_ (.inl rfl)) fx3 (by omega) 3 l to
    rw [efr] at c2
    simp only [doS,show ¬ (3:Int)=1 by omega,show ¬ (3:Int)=2 by omega,if_false,if_true] at g1 ⊢
    simp only [e,Option.getD_some,show ((some 96:Option Nat) == some 94)=false from rfl,show ((some 96:Option Nat) == some 95)=false from rfl,beq_self_eq_true,cond_true,cond_false,c2,Option.bind_some]
    exact ⟨s',_,rfl,rfl,p.put c1 g1,fun k=>⟨k.put hpl (c4 (k _)).1,fun lot=>by rw [mayB_put,((c4 (k _)).2.2 lot).1]; simp only [mightS,if_true,if_false,mayB_at,Int.reduceEq]⟩⟩
  · have hm:=a.m0 (by omega)
    have hap:=a.apart rfl
    have hne:fr.toNat≠to.toNat:=by have:=a.fr0; have:=a.to0; omega
    obtain ⟨d1,d2,d3,d4,d5⟩:=drawS_spec f1 (m:=m) (by omega) (a.from_ (.inr (.inl rfl))) fx3
    obtain ⟨s',M',c1,c2,c4⟩:=F96_eq hf af f1 (m:=m) (by omega) (a.from_ (.inr (.inl rfl))) fx3 (by omega) 4 l to
    rw [efr] at c2
    have sg:=s.set (t:=fr.toNat) (d1.good (by omega) (by omega))
    have p2:=p.put c1 sg
    have hn2:(drawS (x.holds.getD fr.toNat []) m).2≠[]:=fun h=>by rw [h] at d4; simp [sumM] at d4; omega
    simp only [doS,show ¬ (4:Int)=1 by omega,show ¬ (4:Int)=2 by omega,show ¬ (4:Int)=3 by omega,if_false,if_true] at g1 gl g3 ⊢
    obtain ⟨M2,b1,b2,b3⟩:=F107_eq hf (at_.other hne (H':=(drawS (x.holds.getD fr.toNat []) m).1) (M':=M')) (t1.heapOk t3) (g3.heap (by omega) (by omega)) hn2 s'
    rw [eto] at b2
    simp only [e,Option.getD_some,show ((some 97:Option Nat) == some 94)=false from rfl,show ((some 97:Option Nat) == some 95)=false from rfl,show ((some 97:Option Nat) == some 96)=false from rfl,beq_self_eq_true,cond_true,cond_false,F97,c2,b2,Option.bind_some]
    refine ⟨s',_,rfl,rfl,p2.put b1 g1,fun k=>?_⟩
    obtain ⟨k1,k2,k3⟩:=c4 (k _)
    obtain ⟨k4,k5⟩:=b3 (k _) k2
    exact ⟨(k.put hpl k1).put (by simp [Pl.put,hpl]) k4,fun lot=>by rw [mayB_put,mayB_put,k5,(k3 lot).1,(k3 lot).2]; simp only [mightS,if_true,if_false,mayB_at,Int.reduceEq]⟩
  · have hm:=a.m0 (by omega)
    obtain ⟨s',M',c1,c2,c4⟩:=F98_eq hf af f1 (by omega) fx3 (m:=m) (by omega) (a.from_ (.inr (.inr rfl))) 5 l to
    rw [efr] at c2
    simp only [doS,show ¬ (5:Int)=1 by omega,show ¬ (5:Int)=2 by omega,show ¬ (5:Int)=3 by omega,show ¬ (5:Int)=4 by omega,if_false,if_true] at g1 ⊢
    simp only [e,Option.getD_some,show ((some 98:Option Nat) == some 94)=false from rfl,show ((some 98:Option Nat) == some 95)=false from rfl,show ((some 98:Option Nat) == some 96)=false from rfl,show ((some 98:Option Nat) == some 97)=false from rfl,beq_self_eq_true,cond_true,cond_false,c2,Option.bind_some]
    exact ⟨s',_,rfl,rfl,p.put c1 g1,fun k=>⟨k.put hpl (c4 (k _)).1,fun lot=>by rw [mayB_put,(c4 (k _)).2]; simp only [mightS,if_true,if_false,mayB_at,Int.reduceEq]⟩⟩
  · obtain ⟨H,p',q,eH⟩:=two_last (a.two rfl)
    have hok:=f1.heapOk fx3
    have hne:=f1.ne
    rw [eH] at hok hne
    have af':=af
    rw [eH] at af'
    obtain ⟨M',c1,c2,c3⟩:=F99_eq hf af' (hok p' (by simp)) (hok q (by simp)) (hne q (by simp)) 6 l to m
    rw [efr] at c2
    simp only [doS,show ¬ (6:Int)=1 by omega,show ¬ (6:Int)=2 by omega,show ¬ (6:Int)=3 by omega,show ¬ (6:Int)=4 by omega,show ¬ (6:Int)=5 by omega,if_false,eH,mixS_last] at g1 ⊢
    simp only [e,Option.getD_some,show ((some 99:Option Nat) == some 94)=false from rfl,show ((some 99:Option Nat) == some 95)=false from rfl,show ((some 99:Option Nat) == some 96)=false from rfl,show ((some 99:Option Nat) == some 97)=false from rfl,show ((some 99:Option Nat) == some 98)=false from rfl,beq_self_eq_true,cond_true,cond_false,c2,Option.bind_some]
    exact ⟨[],_,rfl,rfl,p.put c1 g1,fun k=>⟨k.put hpl (c3 (k _)).1,fun lot=>by
      obtain ⟨B,b,c,e1,_,e3⟩:=(c3 (k _)).2 lot
      rw [mayB_put,e3]
      simp only [mightS,if_false,mayB_at,Int.reduceEq]
      rw [e1,mixB_last]⟩⟩
  · omega
theorem F51_no {f:Nat} {x:Pl} {k l fr to m r:Int} (h:F78 f x.lots x.holds k l fr to m=some r) (hr:r≠0):F51 f x k l fr to m=some ([],[],r,x):=by
  unfold F51
  have:(r != 0)=true:=by simpa using hr
  rw [h,Option.bind_some,this,cond_true]
end Go.Proofs.YtlmgjjmighajdaaGreat
set_option linter.unusedSimpArgs false
set_option linter.unusedVariables false
namespace Go.Proofs.YtlmgjjmighajdaaGreat
open Go.Sl Go.Sx
theorem getD_map {α β:Type} (g:List α→List β) (hg:g []=[]) (l:List (List α)) (t:Nat):(l.map g).getD t []=g (l.getD t []):=by
  by_cases h:t<l.length
  · simp [h]
  · have:l.length≤t:=by omega
    simp [List.getElem?_eq_none this,hg]
theorem set_tr (p:List Part):Tr (setOf p):=by
  have key:∀(p:List Part) (D:List (Int×Bool)),Tr D→Tr (p.foldl (fun D q=>putK D q.lot true) D):=by
    intro p
    induction p with
    | nil=>exact fun D h=>h
    | cons q p ih=>exact fun D h=>ih _ h.put
  exact key p [] Tr.nil
def plOf (lots:List Lot) (holds:List (List (List Part))):Pl:=⟨lots,holds,mayOf holds⟩
theorem plOf_ok {lots:List Lot} {holds:List (List (List Part))} (s:StockOk lots holds) (h9:holds.length=9):PlOk lots (plOf lots holds) where
  el:=rfl
  sok:=s
  h9:=h9
  m9:=by simp [plOf,mayOf,h9]
  len t:=by
    show ((mayOf holds).getD t []).length=(holds.getD t []).length
    unfold mayOf
    rw [getD_map _ rfl]
    simp
theorem plOf_tru (lots:List Lot) (holds:List (List (List Part))):PlTru (plOf lots holds):=fun t=>by
  show Tru ((mayOf holds).getD t [])
  unfold mayOf
  rw [getD_map _ rfl]
  intro u hu
  obtain ⟨p,_,rfl⟩:=List.mem_map.1 hu
  exact set_tr p
theorem F78_of {f:Nat} {lots:List Lot} {holds:List (List (List Part))} (s:StockOk lots holds) (h9:holds.length=9) (hf:40<f) (k l fr to m:Int) :
    ∃r,F78 f lots holds k l fr to m=some r∧F54 f lots holds k l fr to m=some r:=by
  obtain ⟨r,e1,e2⟩:=check_eq s h9 hf k l fr to m
  rcases F80_eq (lots:=lots) h9 hf with ⟨_,e⟩ | ⟨hn,_⟩
  · exact ⟨r,e1,e2 e⟩
  · exact absurd s hn
abbrev Holds:=List (List (List Part))
def nine:Holds:=[[],[],[],[],[],[],[],[],[]]
def doD (h:Holds) (d:Deed):Holds:=(doS h d.kind d.lot d.frm d.to d.mass).1
def run (h:Holds) (ds:List Deed):Holds:=ds.foldl doD h
def Can (f:Nat) (lots:List Lot) (h:Holds) (d:Deed):Prop:=F54 f lots h d.kind d.lot d.frm d.to d.mass=some 0
def Chain (f:Nat) (lots:List Lot) (h:Holds):List Deed→Prop
  | []=>True
  | d::ds=>Can f lots h d∧Chain f lots (doD h d) ds
theorem nine_ok {lots:List Lot} (h:LotsOk lots):StockOk lots nine:=by
  refine ⟨h,fun l hl=>?_⟩
  have:l=[]:=by simp [nine] at hl; exact hl
  subst this
  exact ⟨by simp,by simp,by simp [sumH]⟩
theorem doD_good {f:Nat} (hf:1001≤f) {lots:List Lot} {h:Holds} (s:StockOk lots h) (h8:lots.length≤40) (h9:h.length=9) {d:Deed} (c:Can f lots h d):StockOk lots (doD h d)∧(doD h d).length=9:=by
  obtain ⟨g1,g2,_,_⟩:=doS_good s h8 h9 (F54_allowed s h9 (by omega) c)
  exact ⟨g1,g2⟩
theorem run_good {f:Nat} (hf:1001≤f) {lots:List Lot} (h8:lots.length≤40):∀ {ds:List Deed} {h:Holds},StockOk lots h→h.length=9→Chain f lots h ds→StockOk lots (run h ds)∧(run h ds).length=9
  | [],h,s,h9,_=>⟨s,h9⟩
  | d::ds,h,s,h9,c=>by
    obtain ⟨g1,g2⟩:=doD_good hf s h8 h9 c.1
    exact run_good (ds:=ds) hf h8 g1 g2 c.2
end Go.Proofs.YtlmgjjmighajdaaGreat
set_option linter.unusedSimpArgs false
set_option linter.unusedVariables false
namespace Go.Proofs.YtlmgjjmighajdaaGreat
open Go.Sl Go.Sx
theorem F54_some {f:Nat} (hf:1001≤f) {lots:List Lot} {h:Holds} (s:StockOk lots h) (h9:h.length=9) (d:Deed):∃r,F54 f lots h d.kind d.lot d.frm d.to d.mass=some r:=by
  obtain ⟨r,_,e⟩:=F78_of s h9 (by omega:40<f) d.kind d.lot d.frm d.to d.mass
  exact ⟨r,e⟩
theorem F51_step {f:Nat} (hf:1001≤f) {lots:List Lot} (h8:lots.length≤40) {x:Pl} (p:PlOk lots x) (d:Deed) :
    (∃r,r≠0∧F54 f lots x.holds d.kind d.lot d.frm d.to d.mass=some r∧F51 f x d.kind d.lot d.frm d.to d.mass=some ([],[],r,x)) ∨
    (∃s y,Can f lots x.holds d∧F51 f x d.kind d.lot d.frm d.to d.mass=some ((doS x.holds d.kind d.lot d.frm d.to d.mass).2,s,0,y)∧y.holds=doD x.holds d∧PlOk lots y∧(PlTru x→PlTru y∧∀lot,mayB lot y=mightS x.holds d.kind d.lot d.frm d.to d.mass lot (mayB lot x))):=by
  obtain ⟨r,e1,e2⟩:=F78_of p.sok p.h9 (by omega:40<f) d.kind d.lot d.frm d.to d.mass
  by_cases hr:r=0
  · subst hr
    obtain ⟨s,y,k1,k2,k3,k4⟩:=F51_eq hf h8 p e1 (F54_allowed p.sok p.h9 (by omega) e2)
    exact .inr ⟨s,y,e2,k1,k2,k3,k4⟩
  · exact .inl ⟨r,hr,e2,F51_no (by rw [p.el]; exact e1) hr⟩
def playS (f:Nat) (lots:List Lot):Holds→List Deed→Nat→Option Holds×Nat×Int
  | h,[],i=>(some h,i,0)
  | h,d::ds,i=>match F54 f lots h d.kind d.lot d.frm d.to d.mass with
    | some 0=>playS f lots (doD h d) ds (i + 1)
    | some r=>(none,i,r)
    | none=>(none,i,1)
def outP (lots:List Lot):Option Holds×Nat×Int→List Lot×Holds×Int×Int
  | (some h,n,_)=>(lots,h,n,0)
  | (none,n,e)=>([],nine,n,e)
theorem play_can {f:Nat} {lots:List Lot} {h:Holds} {d:Deed} (c:Can f lots h d) (ds:List Deed) (i:Nat):playS f lots h (d::ds) i=playS f lots (doD h d) ds (i + 1):=by
  unfold Can at c
  simp only [playS,c]
theorem play_not {f:Nat} {lots:List Lot} {h:Holds} {d:Deed} {r:Int} (hr:r≠0) (c:F54 f lots h d.kind d.lot d.frm d.to d.mass=some r) (ds:List Deed) (i:Nat):playS f lots h (d::ds) i=(none,i,r):=by
  simp only [playS,c]
theorem play_chain {f:Nat} {lots:List Lot}:∀ {ds:List Deed} {h:Holds} (i:Nat),Chain f lots h ds→playS f lots h ds i=(some (run h ds),i + ds.length,0)
  | [],h,i,_=>rfl
  | d::ds,h,i,c=>by
    rw [play_can c.1,play_chain (ds:=ds) (i + 1) c.2]
    simp only [run,List.foldl_cons,List.length_cons]
    congr 2
    omega
theorem drop_head {α:Type} {ds:List α} {i:Nat} {d:α} {rest:List α} (e:ds.drop i=d::rest):∃h:i<ds.length,ds[i]=d∧ds.drop (i + 1)=rest:=by
  have hlt:i<ds.length:=by
    rcases Nat.lt_or_ge i ds.length with h | h
    · exact h
    · rw [List.drop_eq_nil_of_le h] at e; cases e
  have e2:=List.drop_eq_getElem_cons hlt
  rw [e] at e2
  injection e2 with ed er
  exact ⟨hlt,ed.symm,er.symm⟩
theorem F6_loop {f:Nat} (hf:1001≤f) {lots:List Lot} (h8:lots.length≤40) {ds:List Deed} (hd:ds.length≤60):∀(rest:List Deed) n i (x:Pl),PlOk lots x→ds.drop i=rest→i≤ds.length→rest.length<n →
    F6_l1 f ds n x (i:Int)=some (outP lots (playS f lots x.holds rest i))
  | _,0,i,x,_,_,_,hn=>by omega
  | [],n + 1,i,x,p,e,hi,hn=>by
    have:ds.length≤i:=by simpa using e
    have h1:decide ((i:Int)<(ds.length:Int))=false:=decide_eq_false (by omega)
    have h2:i=ds.length:=by omega
    simp only [F6_l1,h1,cond_false,F6_j1,bne_self_eq_false,Option.bind_some]
    rw [p.el,F20_eq (p.sok.small p.h9) (by omega) hf,h2]
    rfl
  | d::rest,n + 1,i,x,p,e,hi,hn=>by
    obtain ⟨hlt,ed,er⟩:=drop_head e
    have h1:decide ((i:Int)<(ds.length:Int))=true:=decide_eq_true (by omega)
    simp only [F6_l1,h1,cond_true,getI_nat hlt,Option.bind_some,ed]
    rcases F51_step hf h8 p d with ⟨r,hr,e1,e2⟩ | ⟨s,y,c,e1,e2,p2,_⟩
    · rw [e2,play_not hr e1]
      have hb:(r != 0)=true:=by simpa using hr
      simp only [Option.bind_some,hb,cond_true,F6_j1]
      rfl
    · rw [e1,play_can c]
      simp only [Option.bind_some,bne_self_eq_false,cond_false,F19]
      rw [succ_w (by omega),F6_loop hf h8 hd rest n (i + 1) y p2 er hlt (by simp at hn; omega),e2]
theorem F49_ok {f:Nat} (hf:1001≤f) {lots:List Lot} (hl:LotsOk lots) {ds:List Deed} (hd:ds.length≤60):F49 f lots ds=some 0:=by
  unfold F49
  rcases F77_eq (l:=lots) (by omega:40<f) with ⟨_,e⟩ | ⟨hn,_⟩
  · have:decide ((ds.length:Int) > 60)=false:=decide_eq_false (by omega)
    rw [e]
    simp only [Option.bind_some,bne_self_eq_false,cond_false,this]
  · exact absurd hl hn
theorem F50_nine {f:Nat} (hf:1001≤f) {lots:List Lot} (hl:LotsOk lots) (h8:lots.length≤40):F50 f lots nine=some (plOf lots nine):=F50_eq ((nine_ok hl).small rfl) (by omega) hf
theorem F6_eq {f:Nat} (hf:1001≤f) {lots:List Lot} (hl:LotsOk lots) (h8:lots.length≤40) {ds:List Deed} (hd:ds.length≤60):F6 f lots ds=some (outP lots (playS f lots nine ds 0)):=by
  unfold F6
  rw [F49_ok hf hl hd]
  simp only [Option.bind_some,bne_self_eq_false,cond_false]
  change (F50 f lots nine).bind _=_
  rw [F50_nine hf hl h8]
  exact F6_loop hf h8 hd ds f 0 (plOf lots nine) (plOf_ok (nine_ok hl) rfl) (by simp) (by omega) (by omega)
def usesD (d:Deed):List Int:=if d.kind=1∨d.kind=2 then [d.to] else if d.kind=4 then [d.frm,d.to] else [d.frm]
theorem Allowed.bounds {lots:List Lot} {h:Holds} {d:Deed} (a:Allowed lots h d.kind d.lot d.frm d.to d.mass):∀u∈usesD d,0≤u∧u≤8:=by
  intro u hu
  unfold usesD at hu
  have:=a.fr0; have:=a.to0
  split at hu
  · simp at hu; omega
  · split at hu
    · simp at hu; omega
    · simp at hu; omega
end Go.Proofs.YtlmgjjmighajdaaGreat
set_option linter.unusedSimpArgs false
set_option linter.unusedVariables false
namespace Go.Proofs.YtlmgjjmighajdaaGreat
open Go.Sl Go.Sx
variable {ids : List Int}
def ofM (l:Int) (p:List Part):Int:=(p.map fun q=>if q.lot=l then q.mass else 0).sum
theorem ofM_cons (l:Int) (q:Part) (p:List Part):ofM l (q::p)=(if q.lot=l then q.mass else 0) + ofM l p:=by simp [ofM]
theorem ofM_bound {l:Int}:∀ {p:List Part},(∀q∈p,1≤q.mass)→0≤ofM l p∧ofM l p≤sumM p
  | [],_=>by simp [ofM,sumM]
  | q::p,h=>by
    have ih:=ofM_bound (l:=l) (p:=p) fun x hx=>h x (by simp [hx])
    have h1:=h q (by simp)
    rw [ofM_cons]
    have:sumM (q::p)=q.mass + sumM p:=by simp [sumM]
    rw [this]
    split <;> omega
def mvD (h:Holds) (d:Deed):List Part:=(doS h d.kind d.lot d.frm d.to d.mass).2
theorem mvD_ok {f:Nat} (hf:1001≤f) {lots:List Lot} {h:Holds} (s:StockOk lots h) (h8:lots.length≤40) (h9:h.length=9) {d:Deed} (c:Can f lots h d) (l:Int):In (idsOf lots) (mvD h d)∧(mvD h d).length≤40∧0≤ofM l (mvD h d)∧ofM l (mvD h d)≤100000000∧sumM (mvD h d)≤100000000:=by
  have a:=F54_allowed s h9 (by omega) c
  obtain ⟨g1,g2,g3,g4⟩:=doS_good s h8 h9 a
  have gi:(idsOf lots).length≤40:=by simpa [idsOf] using h8
  have hm:d.mass≤100000000:=by
    by_cases e:d.kind=6
    · have:=a.m6 e; omega
    · exact (a.m0 e).2
  have b:=ofM_bound (l:=l) (p:=mvD h d) fun q hq=>(g3.ok q hq).m0
  change sumM (mvD h d)=_ at g4
  have hl:(mvD h d).length≤(idsOf lots).length:=g3.len
  exact ⟨g3,by omega,b.1,by omega,by omega⟩
end Go.Proofs.YtlmgjjmighajdaaGreat
set_option linter.unusedSimpArgs false
set_option linter.unusedVariables false
namespace Go.Proofs.YtlmgjjmighajdaaGreat
open Go.Sl Go.Sx
theorem Chain.append {f:Nat} {lots:List Lot}:∀ {a b:List Deed} {h:Holds},Chain f lots h (a ++ b)↔Chain f lots h a∧Chain f lots (run h a) b
  | [],b,h=>by simp [Chain,run]
  | d::a,b,h=>by
    have:=Chain.append (f:=f) (lots:=lots) (a:=a) (b:=b) (h:=doD h d)
    simp only [List.cons_append,Chain,this,and_assoc]
    rfl
end Go.Proofs.YtlmgjjmighajdaaGreat
set_option linter.unusedSimpArgs false
set_option linter.unusedVariables false
namespace Go.Proofs.YtlmgjjmighajdaaGreat
open Go.Sl Go.Sx
theorem F22_no {f:Nat} {lots:List Lot} {h:Holds} {k l fr to m r:Int} (hr:r≠0) (e:F54 f lots h k l fr to m=some r):F22 f lots h k l fr to m=some ([],nine,[],r):=by
  have hb:(r != 0)=true:=by simpa using hr
  unfold F22
  rw [e]
  simp only [Option.bind_some,hb,cond_true]
  rfl
theorem F7_any {f:Nat} (hf:1001≤f) {lots:List Lot} (h8:lots.length≤40) {ds:List Deed} (hd:ds.length≤60):∀(rest:List Deed) n i (h:Holds),StockOk lots h→h.length=9→ds.drop i=rest→i≤ds.length→rest.length<n →
    F7_l1 f ds n lots h (i:Int)=some (outP lots (playS f lots h rest i))
  | _,0,i,h,_,_,_,_,hn=>by omega
  | [],n + 1,i,h,s,h9,e,hi,hn=>by
    have:ds.length≤i:=by simpa using e
    have h1:decide ((i:Int)<(ds.length:Int))=false:=decide_eq_false (by omega)
    have h2:i=ds.length:=by omega
    simp only [F7_l1,h1,cond_false]
    rw [h2]
    rfl
  | d::rest,n + 1,i,h,s,h9,e,hi,hn=>by
    obtain ⟨hlt,ed,er⟩:=drop_head e
    have h1:decide ((i:Int)<(ds.length:Int))=true:=decide_eq_true (by omega)
    simp only [F7_l1,h1,cond_true,getI_nat hlt,Option.bind_some,ed]
    obtain ⟨r,hr⟩:=F54_some hf s h9 d
    by_cases h0:r=0
    · subst h0
      have c:Can f lots h d:=hr
      obtain ⟨g1,g2⟩:=doD_good hf s h8 h9 c
      rw [F22_eq hf s h8 h9 c,play_can c]
      simp only [Option.bind_some,F7_j1,bne_self_eq_false,cond_false]
      rw [succ_w (by omega)]
      exact F7_any hf h8 hd rest n (i + 1) (doD h d) g1 g2 er hlt (by simp at hn; omega)
    · have hb:(r != 0)=true:=by simpa using h0
      rw [F22_no h0 hr,play_not h0 hr]
      simp only [Option.bind_some,F7_j1,hb,cond_true]
      rfl
theorem F7_full {f:Nat} (hf:1001≤f) {lots:List Lot} (hl:LotsOk lots) (h8:lots.length≤40) {ds:List Deed} (hd:ds.length≤60):F7 f lots ds=some (outP lots (playS f lots nine ds 0)):=by
  unfold F7
  rw [F21_19]
  rcases F77_eq (l:=lots) (by omega:40<f) with ⟨_,e⟩ | ⟨hn,_⟩
  · have:decide ((ds.length:Int) > 60)=false:=decide_eq_false (by omega)
    rw [e]
    simp only [Option.bind_some,bne_self_eq_false,cond_false,this]
    rw [app_small (by simp) (by omega)]
    simp only [Option.bind_some,List.nil_append]
    exact F7_any hf h8 hd ds f 0 nine (nine_ok hl) rfl (by simp) (by omega) (by omega)
  · exact absurd hl hn
theorem F7_bad {f:Nat} (hf:1001≤f) {lots:List Lot} (hn:¬ LotsOk lots) (ds:List Deed):F7 f lots ds=some ([],nine,0,60):=by
  unfold F7
  rw [F21_19]
  rcases F77_eq (l:=lots) (by omega:40<f) with ⟨k,_⟩ | ⟨_,e⟩
  · exact absurd k hn
  · rw [e]; rfl
theorem F49_bad {f:Nat} (hf:1001≤f) {lots:List Lot} (hn:¬ LotsOk lots) (ds:List Deed):F49 f lots ds=some 60:=by
  unfold F49
  rcases F77_eq (l:=lots) (by omega:40<f) with ⟨k,_⟩ | ⟨_,e⟩
  · exact absurd k hn
  · rw [e]; rfl
theorem F6_bad {f:Nat} (hf:1001≤f) {lots:List Lot} (hn:¬ LotsOk lots) (ds:List Deed):F6 f lots ds=some ([],nine,0,60):=by
  unfold F6
  rw [F49_bad hf hn]
  rfl
theorem play_split {f:Nat} (hf:1001≤f) {lots:List Lot} (h8:lots.length≤40):∀(ds:List Deed) (h:Holds) (i:Nat),StockOk lots h→h.length=9→Chain f lots h ds∨∃n r,r≠0∧playS f lots h ds i=(none,n,r)
  | [],h,i,_,_=> .inl trivial
  | d::ds,h,i,s,h9=>by
    obtain ⟨r,hr⟩:=F54_some hf s h9 d
    by_cases h0:r=0
    · subst h0
      have c:Can f lots h d:=hr
      obtain ⟨g1,g2⟩:=doD_good hf s h8 h9 c
      rcases play_split hf h8 ds (doD h d) (i + 1) g1 g2 with k | ⟨n,r,h1,h2⟩
      · exact .inl ⟨c,k⟩
      · exact .inr ⟨n,r,h1,by rw [play_can c]; exact h2⟩
    · exact .inr ⟨i,r,h0,play_not h0 hr ds i⟩
def nextP (f:Nat) (x:Pl) (d:Deed):Pl:=match F51 f x d.kind d.lot d.frm d.to d.mass with
  | some r=>r.2.2.2
  | none=>x
def mgD (h:Holds) (d:Deed) (lot:Int) (B:List (List Bool)):List (List Bool):=mightS h d.kind d.lot d.frm d.to d.mass lot B
theorem next_spec {f:Nat} (hf:1001≤f) {lots:List Lot} (h8:lots.length≤40) {x:Pl} (p:PlOk lots x) {d:Deed} (c:Can f lots x.holds d) :
    ∃s,F51 f x d.kind d.lot d.frm d.to d.mass=some (mvD x.holds d,s,0,nextP f x d)∧(nextP f x d).holds=doD x.holds d∧PlOk lots (nextP f x d)∧(PlTru x→PlTru (nextP f x d)∧∀lot,mayB lot (nextP f x d)=mgD x.holds d lot (mayB lot x)):=by
  rcases F51_step hf h8 p d with ⟨r,hr,e1,e2⟩ | ⟨s,y,c',e1,e2,p2,p3⟩
  · unfold Can at c
    rw [e1] at c
    exact absurd (Option.some.inj c) hr
  · have:nextP f x d=y:=by unfold nextP; rw [e1]
    rw [this]
    exact ⟨s,e1,e2,p2,p3⟩
theorem part_beq' (p q:Part):((p.lot == q.lot) && ((p.mass == q.mass) && true))=decide (p=q):=by
  obtain ⟨a,b⟩:=p
  obtain ⟨c,d⟩:=q
  by_cases h1:a=c <;> by_cases h2:b=d <;> simp [h1,h2]
theorem lot_beq (p q:Lot):((p.id == q.id) && ((p.owner == q.owner) && ((p.grade == q.grade) && ((p.wet == q.wet) && true))))=decide (p=q):=by
  obtain ⟨a,b,c,d⟩:=p
  obtain ⟨a',b',c',d'⟩:=q
  by_cases h1:a=a' <;> by_cases h2:b=b' <;> by_cases h3:c=c' <;> by_cases h4:d=d' <;> simp [h1,h2,h3,h4]
theorem cmp_loop {α ρ:Type} [DecidableEq α] {L:Nat→Int→Option ρ} {a b:List α} {no yes:Option ρ} (hl:a.length=b.length)
    (h:∀n i (h1:i<a.length) (h2:i<b.length),L (n + 1) (i:Int)=if a[i]=b[i] then L n ((i + 1:Nat):Int) else no)
    (he:∀n,L (n + 1) (a.length:Int)=yes) {n:Nat} (hn:a.length<n):L n 0=if a=b then yes else no:=by
  have key:=loop_all0 (L:=L) (len:=a.length) (good:=fun j=>∀h:j<a.length,a[j]=b[j]'(by omega)) (no:=no) (yes:=yes) (fun n i hi=>by
    have hib:i<b.length:=by omega
    rw [h n i hi hib]
    by_cases hh:a[i]=b[i]
    · exact .inl ⟨fun _=>hh,if_pos hh⟩
    · exact .inr ⟨fun k=>hh (k hi),if_neg hh⟩) he hn
  rcases key with ⟨hg,e⟩ | ⟨hg,e⟩
  · have:a=b:=List.ext_getElem hl fun i h1 h2=>hg i h1 h1
    rw [e,if_pos this]
  · have:¬ a=b:=fun e=>hg fun j hj _=>by subst e; rfl
    rw [e,if_neg this]
theorem ne_len {α:Type} {a b:List α}:((a.length:Int) != (b.length:Int))= !decide (a.length=b.length):=by
  by_cases h:a.length=b.length
  · simp [h]
  · have:¬ (a.length:Int)=(b.length:Int):=by omega
    simp [h,this]
theorem F87_eq {f:Nat} (hf:1001≤f) {a b:List Part} (h:a.length≤100):F87 f a b=some (decide (a=b)):=by
  unfold F87
  rw [ne_len]
  by_cases hl:a.length=b.length
  · rw [decide_eq_true hl,Bool.not_true,cond_false,cmp_loop (L:=F87_l1 a b) hl (no:=some false) (yes:=some true) (fun n i h1 h2=>by
      simp only [F87_l1,lt_len,h1,decide_true,cond_true,getI_nat h1,getI_nat h2,Option.bind_some,part_beq']
      by_cases e:a[i]=b[i]
      · rw [if_pos e,decide_eq_true e,Bool.not_true,cond_false,succ_w (by omega)]
      · rw [if_neg e,decide_eq_false e,Bool.not_false,cond_true]) (fun n=>by simp [F87_l1]) (by omega)]
    by_cases e:a=b <;> simp [e]
  · have:¬ a=b:=fun e=>hl (by rw [e])
    rw [decide_eq_false hl,decide_eq_false this]; rfl
theorem F88_eq {f:Nat} (hf:1001≤f) {a b:List Lot} (h:a.length≤100):F88 f a b=some (decide (a=b)):=by
  unfold F88
  rw [ne_len]
  by_cases hl:a.length=b.length
  · rw [decide_eq_true hl,Bool.not_true,cond_false,cmp_loop (L:=F88_l1 a b) hl (no:=some false) (yes:=some true) (fun n i h1 h2=>by
      simp only [F88_l1,lt_len,h1,decide_true,cond_true,getI_nat h1,getI_nat h2,Option.bind_some,lot_beq]
      by_cases e:a[i]=b[i]
      · rw [if_pos e,decide_eq_true e,Bool.not_true,cond_false,succ_w (by omega)]
      · rw [if_neg e,decide_eq_false e,Bool.not_false,cond_true]) (fun n=>by simp [F88_l1]) (by omega)]
    by_cases e:a=b <;> simp [e]
  · have:¬ a=b:=fun e=>hl (by rw [e])
    rw [decide_eq_false hl,decide_eq_false this]; rfl
theorem F62_eq {f:Nat} (hf:1001≤f) (lots lots':List Lot) (hl:lots.length≤100) {a b:Holds} (ha:Small a) (hb:Small b):F62 f lots a lots' b=some (decide (a=b) && decide (lots=lots')):=by
  have a9:=ha.n9
  have b9:=hb.n9
  unfold F62
  rw [cmp_loop (L:=F62_l1 f lots a lots' b) (a:=a) (b:=b) (by omega) (no:=some false) (yes:=some (decide (lots=lots'))) (fun n i h1 h2=>by
    have hd:decide ((i:Int)<9)=true:=decide_eq_true (by omega)
    have s1:=ha.len _ (List.getElem_mem h1)
    simp only [F62_l1,hd,cond_true,getI_nat h1,getI_nat h2,Option.bind_some,ne_len]
    by_cases hll:a[i].length=b[i].length
    · rw [decide_eq_true hll,Bool.not_true,cond_false,cmp_loop (L:=F62_l2 f (F62_l1 f lots a lots' b n) i a[i] b[i]) hll (no:=some false) (yes:=F62_l1 f lots a lots' b n ((i + 1:Nat):Int)) (fun n j h3 h4=>by
        have s2:=ha.heaps _ (List.getElem_mem h1) _ (List.getElem_mem h3)
        simp only [F62_l2,lt_len,h3,decide_true,cond_true,getI_nat h3,getI_nat h4,Option.bind_some,F86]
        rw [F87_eq hf (by omega)]
        simp only [Option.bind_some,F62_j1]
        by_cases e:a[i][j]=b[i][j]
        · rw [if_pos e,decide_eq_true e,Bool.not_true,cond_false,succ_w (by omega)]
        · rw [if_neg e,decide_eq_false e,Bool.not_false,cond_true]; rfl) (fun n=>by
        simp only [F62_l2,lt_len,Nat.lt_irrefl,decide_false,cond_false,F62_j1,Bool.not_true]
        rw [succ_w (by omega)]) (by omega)]
    · have:¬ a[i]=b[i]:=fun e=>hll (by rw [e])
      rw [decide_eq_false hll,Bool.not_false,cond_true,if_neg this]; rfl) (fun n=>by
    have hd:decide ((a.length:Int)<9)=false:=decide_eq_false (by omega)
    simp only [F62_l1,hd,cond_false]
    rw [F88_eq hf hl]
    rfl) (by omega)]
  by_cases e:a=b <;> simp [e]
theorem F8_eq {f:Nat} (hf:1001≤f) (lots lots':List Lot) (hl:lots.length≤100) {a b:Holds} (ha:Small a) (hb:Small b):F8 f lots a lots' b=some (decide (lots=lots') && decide (a=b)):=by
  have a9:=ha.n9
  have b9:=hb.n9
  have e23:∀ {p q:List Part},p.length≤100→F23 f p q=some (decide (p=q)):=fun {p q} h=>by
    unfold F23
    rw [ne_len]
    by_cases hl:p.length=q.length
    · rw [decide_eq_true hl,Bool.not_true,cond_false,cmp_loop (L:=F23_l1 p q) hl (no:=some false) (yes:=some true) (fun n i h1 h2=>by
        simp only [F23_l1,lt_len,h1,decide_true,cond_true,getI_nat h1,getI_nat h2,Option.bind_some,part_beq']
        by_cases e:p[i]=q[i]
        · rw [if_pos e,decide_eq_true e,Bool.not_true,cond_false,succ_w (by omega)]
        · rw [if_neg e,decide_eq_false e,Bool.not_false,cond_true]) (fun n=>by simp [F23_l1]) (by omega)]
      by_cases e:p=q <;> simp [e]
    · have:¬ p=q:=fun e=>hl (by rw [e])
      rw [decide_eq_false hl,decide_eq_false this]; rfl
  have h2:F8_l2 f a b f 0=some (decide (a=b)):=by
    rw [cmp_loop (L:=F8_l2 f a b) (a:=a) (b:=b) (by omega) (no:=some false) (yes:=some true) (fun n i h1 h2=>by
      have hd:decide ((i:Int)<9)=true:=decide_eq_true (by omega)
      have s1:=ha.len _ (List.getElem_mem h1)
      simp only [F8_l2,hd,cond_true,getI_nat h1,getI_nat h2,Option.bind_some,ne_len]
      by_cases hll:a[i].length=b[i].length
      · rw [decide_eq_true hll,Bool.not_true,cond_false,cmp_loop (L:=F8_l3 f (F8_l2 f a b n) a b i) hll (no:=some false) (yes:=F8_l2 f a b n ((i + 1:Nat):Int)) (fun m j h3 h4=>by
          have s2:=ha.heaps _ (List.getElem_mem h1) _ (List.getElem_mem h3)
          simp only [F8_l3,getI_nat h1,getI_nat h2,Option.bind_some,lt_len,h3,decide_true,cond_true,getI_nat h3,getI_nat h4]
          rw [e23 (by omega)]
          simp only [Option.bind_some]
          by_cases e:a[i][j]=b[i][j]
          · rw [if_pos e,decide_eq_true e,Bool.not_true,cond_false,succ_w (by omega)]
          · rw [if_neg e,decide_eq_false e,Bool.not_false,cond_true]) (fun m=>by
          simp only [F8_l3,getI_nat h1,Option.bind_some,lt_len,Nat.lt_irrefl,decide_false,cond_false]
          rw [succ_w (by omega)]) (by omega)]
      · have:¬ a[i]=b[i]:=fun e=>hll (by rw [e])
        rw [decide_eq_false hll,Bool.not_false,cond_true,if_neg this]) (fun n=>by
      have hd:decide ((a.length:Int)<9)=false:=decide_eq_false (by omega)
      simp only [F8_l2,hd,cond_false]) (by omega)]
    by_cases e:a=b <;> simp [e]
  unfold F8
  rw [ne_len]
  by_cases hll:lots.length=lots'.length
  · rw [decide_eq_true hll,Bool.not_true,cond_false,cmp_loop (L:=F8_l1 f lots a lots' b) hll (no:=some false) (yes:=some (decide (a=b))) (fun n i h1 h2=>by
      simp only [F8_l1,lt_len,h1,decide_true,cond_true,getI_nat h1,getI_nat h2,Option.bind_some,lot_beq]
      by_cases e:lots[i]=lots'[i]
      · rw [if_pos e,decide_eq_true e,Bool.not_true,cond_false,succ_w (by omega)]
      · rw [if_neg e,decide_eq_false e,Bool.not_false,cond_true]) (fun n=>by
      simp only [F8_l1,lt_len,Nat.lt_irrefl,decide_false,cond_false]
      exact h2) (by omega)]
    by_cases e:lots=lots' <;> simp [e]
  · have:¬ lots=lots':=fun e=>hll (by rw [e])
    rw [decide_eq_false hll,Bool.not_false,cond_true,decide_eq_false this,Bool.false_and]
theorem F47_eq {f:Nat} (hf:1001≤f) {lots:List Lot} (hl:LotsOk lots) {l:List Int} (hn:l.length≤100):F47 f lots l=some (if ∀x∈l,Has lots x then 0 else 60):=by
  rcases loop_all0 (L:=F47_l1 f lots l) (len:=l.length) (good:=fun j=>∀h:j<l.length,Has lots l[j]) (no:=some 60) (yes:=some 0) (n:=f) (fun n i hi=>by
    obtain ⟨q,e,_⟩:=F42_eq (f:=f) hl l[i] (by omega)
    simp only [F47_l1,lt_len,hi,decide_true,cond_true,getI_nat hi,Option.bind_some,e]
    by_cases h:Has lots l[i]
    · exact .inl ⟨fun _=>h,by simp only [h,decide_true,Bool.not_true,cond_false]; rw [succ_w (by omega)]⟩
    · exact .inr ⟨fun k=>h (k trivial),by simp only [h,decide_false,Bool.not_false,cond_true]⟩) (fun n=>by simp [F47_l1]) (by omega) with ⟨hg,e⟩ | ⟨hg,e⟩
  · unfold F47
    rw [e,if_pos]
    intro x hx
    obtain ⟨i,hi,rfl⟩:=List.getElem_of_mem hx
    exact hg i hi hi
  · unfold F47
    rw [e,if_neg]
    exact fun k=>hg fun j hj _=>k _ (List.getElem_mem hj)
structure RawOk (f:Nat) (lots:List Lot) (ds:List Deed):Prop where
  lok:LotsOk lots
  len:ds.length≤60
  chain:Chain f lots nine ds
end Go.Proofs.YtlmgjjmighajdaaGreat
set_option linter.unusedSimpArgs false
set_option linter.unusedVariables false
namespace Go.Proofs.YtlmgjjmighajdaaGreat
open Go.Sl Go.Sx
def withS (f:Nat) (lots:List Lot) (at_:Int):Holds→List Deed→Nat→List Int→Holds×List Int
  | h,[],_,out=>(h,out)
  | h,d::ds,i,out =>
    if (i:Int)=at_ then withS f lots at_ h ds (i + 1) out
    else if F54 f lots h d.kind d.lot d.frm d.to d.mass=some 0 then withS f lots at_ (doD h d) ds (i + 1) out
    else withS f lots at_ h ds (i + 1) (out ++ [(i:Int)])
theorem with_good {f:Nat} (hf:1001≤f) {lots:List Lot} (h8:lots.length≤40) (at_:Int):∀(ds:List Deed) (h:Holds) (i:Nat) (out:List Int),StockOk lots h→h.length=9→out.length≤i→StockOk lots (withS f lots at_ h ds i out).1∧(withS f lots at_ h ds i out).1.length=9∧(withS f lots at_ h ds i out).2.length≤i + ds.length
  | [],h,i,out,s,h9,ho=>⟨s,h9,by simpa [withS] using ho⟩
  | d::ds,h,i,out,s,h9,ho=>by
    simp only [withS,List.length_cons]
    split
    · have:=with_good hf h8 at_ ds h (i + 1) out s h9 (by omega)
      exact ⟨this.1,this.2.1,by omega⟩
    · split
      · rename_i c
        obtain ⟨g1,g2⟩:=doD_good hf s h8 h9 (d:=d) c
        have:=with_good hf h8 at_ ds (doD h d) (i + 1) out g1 g2 (by omega)
        exact ⟨this.1,this.2.1,by omega⟩
      · have:=with_good hf h8 at_ ds h (i + 1) (out ++ [(i:Int)]) s h9 (by simp; omega)
        exact ⟨this.1,this.2.1,by omega⟩
theorem F24_any {f:Nat} (hf:1001≤f) {lots:List Lot} (h8:lots.length≤40) {ds:List Deed} (hd:ds.length≤60) (at_:Int):∀(rest:List Deed) n i (x:Pl) (out:List Int),PlOk lots x→ds.drop i=rest→i≤ds.length→rest.length<n→out.length≤i →
    F24_l1 f ds at_ n out x (i:Int)=some (lots,(withS f lots at_ x.holds rest i out).1,(withS f lots at_ x.holds rest i out).2,0)
  | _,0,i,x,out,_,_,_,hn,_=>by omega
  | [],n + 1,i,x,out,p,e,hi,hn,ho=>by
    have:ds.length≤i:=by simpa using e
    have h1:decide ((i:Int)<(ds.length:Int))=false:=decide_eq_false (by omega)
    simp only [F24_l1,h1,cond_false]
    rw [p.el,F20_eq (p.sok.small p.h9) (by omega) hf]
    rfl
  | d::rest,n + 1,i,x,out,p,e,hi,hn,ho=>by
    obtain ⟨hlt,ed,er⟩:=drop_head e
    have h1:decide ((i:Int)<(ds.length:Int))=true:=decide_eq_true (by omega)
    simp only [F24_l1,h1,cond_true,getI_nat hlt,Option.bind_some,ed,withS,bq]
    by_cases hat:(i:Int)=at_
    · rw [decide_eq_true hat,cond_true,F24_j1,succ_w (by omega),if_pos hat]
      exact F24_any hf h8 hd at_ rest n (i + 1) x out p er hlt (by simp at hn; omega) (by omega)
    · rw [decide_eq_false hat,cond_false,if_neg hat]
      rcases F51_step hf h8 p d with ⟨r,hr,e1,e2⟩ | ⟨s,y,c,e1,e2,p2,_⟩
      · have hb:(r != 0)=true:=by simpa using hr
        have hn0:¬ F54 f lots x.holds d.kind d.lot d.frm d.to d.mass=some 0:=fun k=>by rw [e1] at k; exact hr (Option.some.inj k)
        rw [e2,if_neg hn0]
        simp only [Option.bind_some,hb,cond_true]
        rw [app_small (by omega) (by simp)]
        simp only [Option.bind_some,F24_j1]
        rw [succ_w (by omega)]
        exact F24_any hf h8 hd at_ rest n (i + 1) x _ p er hlt (by simp at hn; omega) (by simp; omega)
      · have c':F54 f lots x.holds d.kind d.lot d.frm d.to d.mass=some 0:=c
        rw [e1,if_pos c']
        simp only [Option.bind_some,bne_self_eq_false,cond_false,F24_j1]
        rw [succ_w (by omega),F24_any hf h8 hd at_ rest n (i + 1) y out p2 er hlt (by simp at hn; omega) (by omega),e2]
theorem F25_any {f:Nat} (hf:1001≤f) {lots:List Lot} (h8:lots.length≤40) {ds:List Deed} (hd:ds.length≤60) (at_:Int):∀(rest:List Deed) n i (h:Holds) (out:List Int),StockOk lots h→h.length=9→ds.drop i=rest→i≤ds.length→rest.length<n→out.length≤i →
    F25_l1 f ds at_ n out lots h (i:Int)=some (lots,(withS f lots at_ h rest i out).1,(withS f lots at_ h rest i out).2,0)
  | _,0,i,x,out,_,_,_,_,hn,_=>by omega
  | [],n + 1,i,h,out,s,h9,e,hi,hn,ho=>by
    have:ds.length≤i:=by simpa using e
    have h1:decide ((i:Int)<(ds.length:Int))=false:=decide_eq_false (by omega)
    simp only [F25_l1,h1,cond_false]
    rfl
  | d::rest,n + 1,i,h,out,s,h9,e,hi,hn,ho=>by
    obtain ⟨hlt,ed,er⟩:=drop_head e
    have h1:decide ((i:Int)<(ds.length:Int))=true:=decide_eq_true (by omega)
    simp only [F25_l1,h1,cond_true,getI_nat hlt,Option.bind_some,ed,withS,bq]
    by_cases hat:(i:Int)=at_
    · rw [decide_eq_true hat,cond_true,F25_j1,succ_w (by omega),if_pos hat]
      exact F25_any hf h8 hd at_ rest n (i + 1) h out s h9 er hlt (by simp at hn; omega) (by omega)
    · rw [decide_eq_false hat,cond_false,if_neg hat]
      obtain ⟨r,hr⟩:=F54_some hf s h9 d
      by_cases h0:r=0
      · subst h0
        have c:Can f lots h d:=hr
        obtain ⟨g1,g2⟩:=doD_good hf s h8 h9 c
        rw [F22_eq hf s h8 h9 c,if_pos hr]
        simp only [Option.bind_some,F25_j2,bne_self_eq_false,cond_false,F25_j1]
        rw [succ_w (by omega)]
        exact F25_any hf h8 hd at_ rest n (i + 1) (doD h d) out g1 g2 er hlt (by simp at hn; omega) (by omega)
      · have hb:(r != 0)=true:=by simpa using h0
        have hn0:¬ F54 f lots h d.kind d.lot d.frm d.to d.mass=some 0:=fun k=>by rw [hr] at k; exact h0 (Option.some.inj k)
        rw [F22_no h0 hr,if_neg hn0]
        simp only [Option.bind_some,F25_j2,hb,cond_true]
        rw [app_small (by omega) (by simp)]
        simp only [Option.bind_some,F25_j1]
        rw [succ_w (by omega)]
        exact F25_any hf h8 hd at_ rest n (i + 1) h _ s h9 er hlt (by simp at hn; omega) (by simp; omega)
theorem len_sub {n k:Nat} (h:n≤100) (hk:k≤2):w64 ((n:Int) - (k:Int))=(n:Int) - (k:Int):=w64_id (by omega) (by omega)
theorem with_same {f:Nat} (hf:1001≤f) {lots:List Lot} {ds:List Deed} (hl:LotsOk lots) (hd:ds.length≤60) (n:Int) :
    ∃L H out e,F24 f lots ds n=some (L,H,out,e)∧F25 f lots ds n=some (L,H,out,e)∧L.length≤100∧Small H∧out.length≤100:=by
  have h8:=hl.1
  have w1:w64 ((ds.length:Int) - 1)=(ds.length:Int) - 1:=len_sub (k:=1) (by omega) (by omega)
  unfold F24 F25
  rw [F49_ok hf hl (by omega),F21_19]
  rcases F77_eq (l:=lots) (by omega:40<f) with ⟨_,e⟩ | ⟨hn,_⟩
  · have h60:decide ((ds.length:Int) > 60)=false:=decide_eq_false (by omega)
    rw [e]
    simp only [Option.bind_some,bne_self_eq_false,cond_false,h60,F48_eq,F60_eq,w1]
    cases decide (0≤n∧n≤(ds.length:Int) - 1)
    · simp only [Bool.not_false,cond_true]
      exact ⟨[],nine,[],1,rfl,rfl,by simp,(nine_ok hl).small rfl,by simp⟩
    · simp only [Bool.not_true,cond_false]
      rw [app_small (by simp) (by omega)]
      simp only [Option.bind_some,List.nil_append]
      change ∃L H out e,(F50 f lots nine).bind _=_∧_
      rw [F50_nine hf hl h8]
      simp only [Option.bind_some]
      obtain ⟨g1,g2,g3⟩:=with_good hf h8 n ds nine 0 [] (nine_ok hl) rfl (by simp)
      exact ⟨_,_,_,_,F24_any hf h8 (by omega) n ds f 0 (plOf lots nine) [] (plOf_ok (nine_ok hl) rfl) (by simp) (by omega) (by omega) (by simp),
        F25_any hf h8 (by omega) n ds f 0 nine [] (nine_ok hl) rfl (by simp) (by omega) (by omega) (by simp),by omega,g1.small g2,by change (withS f lots n nine ds 0 []).2.length≤100; omega⟩
  · exact absurd hl hn
end Go.Proofs.YtlmgjjmighajdaaGreat
set_option linter.unusedSimpArgs false
set_option linter.unusedVariables false
namespace Go.Proofs.YtlmgjjmighajdaaGreat
open Go.Sl Go.Sx
theorem comm_same {f:Nat} (hf:1001≤f) {lots:List Lot} {ds:List Deed} (hl:LotsOk lots) (hd:ds.length≤60) (n:Int):∃b e,F26 f lots ds n=some (b,e)∧F27 f lots ds n=some (b,e):=by
  have h8:=hl.1
  rcases play_split hf h8 ds nine 0 (nine_ok hl) rfl with ch0 | ⟨j0,r0,hr0,hp0⟩
  rotate_left
  · have hb:(r0 != 0)=true:=by simpa using hr0
    refine ⟨false,r0,?_,?_⟩
    · unfold F26
      rw [F6_eq hf hl h8 hd,hp0]
      simp only [outP,Option.bind_some,hb,cond_true]
    · unfold F27
      rw [F7_full hf hl h8 hd,hp0]
      simp only [outP,Option.bind_some,hb,cond_true]
  obtain ⟨s1,n1⟩:=run_good hf h8 (nine_ok hl) rfl ch0
  have w2:w64 ((ds.length:Int) - 2)=(ds.length:Int) - 2:=len_sub (k:=2) (by omega) (by omega)
  unfold F26 F27
  rw [F6_eq hf hl h8 (by omega),F7_full hf hl h8 (by omega),play_chain 0 ch0]
  simp only [outP,Option.bind_some,bne_self_eq_false,cond_false,F48_eq,F60_eq,w2]
  by_cases hb:0≤n∧n≤(ds.length:Int) - 2
  · rw [decide_eq_true hb]
    obtain ⟨i,rfl⟩:∃i:Nat,n=(i:Int):=⟨n.toNat,by omega⟩
    have hi:i + 1<ds.length:=by omega
    have hi0:i<ds.length:=by omega
    have e0:(⟨ds[i].kind,ds[i].lot,ds[i].frm,ds[i].to,ds[i].mass⟩:Deed)=ds[i]:=rfl
    have e1:(⟨ds[i + 1].kind,ds[i + 1].lot,ds[i + 1].frm,ds[i + 1].to,ds[i + 1].mass⟩:Deed)=ds[i + 1]:=rfl
    have g2:getI (ds.set i ds[i + 1]) ((i + 1:Nat):Int)=some ds[i + 1]:=by rw [getI_opt]; simp [hi]
    have sI:∀(l:List Deed) (n:Nat) (v:Deed),n<l.length→setI l (n:Int) v=some (l.set n v):=fun l n v h=>by unfold setI; simp [h]
    simp only [Bool.not_true,cond_false,F61]
    rw [app_small (by simp) (by omega)]
    simp only [List.nil_append,Option.bind_some]
    rw [succ_w (by omega),getI_nat hi,getI_nat hi0]
    simp only [Option.bind_some]
    rw [sI _ _ _ hi0]
    simp only [Option.bind_some]
    rw [g2]
    simp only [Option.bind_some]
    rw [sI _ _ _ (by simp; omega)]
    simp only [Option.bind_some,e0,e1]
    obtain ⟨m,hm⟩:∃m,m=(ds.set i ds[i + 1]).set (i + 1) ds[i]:=⟨_,rfl⟩
    rw [← hm]
    have hml:m.length=ds.length:=by rw [hm]; simp
    rw [F6_eq hf hl h8 (by omega),F7_full hf hl h8 (by omega)]
    simp only [Option.bind_some]
    rcases play_split hf h8 m nine 0 (nine_ok hl) rfl with ch | ⟨j,r,hr,hp⟩
    · obtain ⟨s2,n2⟩:=run_good hf h8 (nine_ok hl) rfl ch
      rw [play_chain 0 ch]
      simp only [outP,beq_self_eq_true,cond_true]
      rw [F62_eq hf lots lots (by omega) (s1.small n1) (s2.small n2),F8_eq hf lots lots (by omega) (s1.small n1) (s2.small n2)]
      simp only [Option.bind_some,F26_j1,F27_j1,decide_true,Bool.and_true,Bool.true_and]
      exact ⟨_,_,rfl,rfl⟩
    · have he:(r == 0)=false:=by simpa using hr
      rw [hp]
      simp only [outP,he,cond_false]
      rw [F8_eq hf lots [] (by omega) (s1.small n1) ((nine_ok hl).small rfl)]
      exact ⟨_,_,rfl,rfl⟩
  · rw [decide_eq_false hb]
    simp only [Bool.not_false,cond_true]
    exact ⟨_,_,rfl,rfl⟩
end Go.Proofs.YtlmgjjmighajdaaGreat
set_option linter.unusedSimpArgs false
set_option linter.unusedVariables false
namespace Go.Proofs.YtlmgjjmighajdaaGreat
open Go.Sl Go.Sx
def hits (x:Int) (i:Nat) (p:List Part):List Trail:=(p.filter fun q=>q.lot == x).map fun q=>⟨i,q.mass⟩
def trS (x:Int):Holds→List Deed→Nat→List Trail
  | _,[],_=>[]
  | h,d::ds,i=>hits x i (mvD h d) ++ trS x (doD h d) ds (i + 1)
theorem hits_nil {x:Int} {i:Nat} {p:List Part} (h:∀q∈p,q.lot≠x):hits x i p=[]:=by
  unfold hits
  rw [List.filter_eq_nil_iff.2 fun q hq=>by simpa using h q hq]; rfl
theorem hits_cons (x:Int) (i:Nat) (q:Part) (p:List Part):hits x i (q::p)=(if q.lot=x then [⟨i,q.mass⟩] else []) ++ hits x i p:=by
  unfold hits
  by_cases e:q.lot=x <;> simp [e]
theorem hits_one {x:Int} {i:Nat}:∀ {p:List Part},(p.Pairwise fun a b=>a.lot<b.lot)→(hits x i p).length≤1
  | [],_=>by simp [hits]
  | q::p,h=>by
    have h':=List.pairwise_cons.1 h
    rw [hits_cons]
    by_cases e:q.lot=x
    · rw [hits_nil (fun r hr=>by have:=h'.1 r hr; omega)]; simp [e]
    · have:=hits_one (x:=x) (i:=i) h'.2
      simpa [e] using this
theorem F28_any {f:Nat} (hf:1001≤f) {lots:List Lot} (hl:LotsOk lots) (h8:lots.length≤40) {a:Int} {ds:List Deed} (hd:ds.length≤60):∀(rest:List Deed) n i (x:Pl) (T:List Trail),PlOk lots x→ds.drop i=rest→i≤ds.length→rest.length<n→T.length≤i →
    F28_l1 f lots ds a n T x (i:Int)=some (if (playS f lots x.holds rest i).2.2≠0 then ([],(playS f lots x.holds rest i).2.2) else if Has lots a then (T ++ trS a x.holds rest i,0) else ([],60))
  | _,0,i,x,T,_,_,_,hn,_=>by omega
  | [],n + 1,i,x,T,p,e,hi,hn,hT=>by
    have:ds.length≤i:=by simpa using e
    have h1:decide ((i:Int)<(ds.length:Int))=false:=decide_eq_false (by omega)
    simp only [F28_l1,h1,cond_false,F28_j1,beq_self_eq_true,cond_true]
    rw [F47_eq hf hl (by simp)]
    simp only [playS,ne_eq,not_true_eq_false,if_false]
    by_cases hh:Has lots a
    · have h2:∀x∈[a],Has lots x:=by intro x hx; rw [List.mem_singleton] at hx; rw [hx]; exact hh
      rw [if_pos h2,if_pos hh]
      simp [F28_j3,trS]
    · have h2:¬ ∀x∈[a],Has lots x:=fun k=>hh (k a (by simp))
      rw [if_neg h2,if_neg hh]
      simp [F28_j3]
  | d::rest,n + 1,i,x,T,p,e,hi,hn,hT=>by
    obtain ⟨hlt,ed,er⟩:=drop_head e
    have h1:decide ((i:Int)<(ds.length:Int))=true:=decide_eq_true (by omega)
    rcases F51_step hf h8 p d with ⟨r,hr,e1,e2⟩ | ⟨s,y,c',e1,e2,p2,_⟩
    · have hb:(r != 0)=true:=by simpa using hr
      have hb0:(r == 0)=false:=by simpa using hr
      simp only [F28_l1,h1,cond_true,getI_nat hlt,Option.bind_some,ed]
      rw [e2,play_not hr e1,if_pos hr]
      simp only [Option.bind_some,hb,cond_true,F28_j1,hb0,cond_false,F28_j3]
    · obtain ⟨m1,m2,_⟩:=mvD_ok hf p.sok h8 p.h9 c' 0
      simp only [F28_l1,h1,cond_true,getI_nat hlt,Option.bind_some,ed]
      rw [e1]
      simp only [Option.bind_some,bne_self_eq_false,cond_false]
      change F28_l2 _ a (i:Int) (mvD x.holds d,s,0,y) f T 0=_
      have key:=from_st (T:=fun n' j=>F28_l2 (F28_l1 f lots ds a n) a (i:Int) (mvD x.holds d,s,0,y) n' (T ++ hits a i ((mvD x.holds d).take j)) (j:Int)) (len:=(mvD x.holds d).length) (n:=f) (out:=F28_l1 f lots ds a n (T ++ hits a i (mvD x.holds d)) y ((i + 1:Nat):Int)) (by omega)
        (fun n' j hj=>by
          have hh:hits a i ((mvD x.holds d).take (j + 1))=hits a i ((mvD x.holds d).take j) ++ (if (mvD x.holds d)[j].lot=a then [⟨i,(mvD x.holds d)[j].mass⟩] else []):=by
            rw [List.take_succ_eq_append_getElem hj]
            unfold hits
            rw [List.filter_append,List.map_append]
            congr 1
            by_cases e:(mvD x.holds d)[j].lot=a <;> simp [e]
          have hlen:(hits a i ((mvD x.holds d).take j)).length≤40:=by
            unfold hits
            rw [List.length_map]
            refine Nat.le_trans (List.length_filter_le _ _) ?_
            rw [List.length_take]; omega
          simp only [F28_l2,lt_len,hj,decide_true,cond_true,getI_nat hj,Option.bind_some,bq,F28_j2]
          rw [hh]
          by_cases e:(mvD x.holds d)[j].lot=a
          · rw [decide_eq_true e,cond_true,if_pos e,app_small (by rw [List.length_append]; omega) (by simp)]
            simp only [Option.bind_some]
            rw [succ_w (by omega),List.append_assoc]
          · rw [decide_eq_false e,cond_false,if_neg e,succ_w (by omega),List.append_nil])
        (fun n'=>by
          simp only [F28_l2,lt_len,Nat.lt_irrefl,decide_false,cond_false,List.take_length]
          rw [succ_w (by omega)])
      have e0:T ++ hits a i ((mvD x.holds d).take 0)=T:=by simp [hits]
      rw [e0] at key
      refine key.trans ?_
      rw [F28_any hf hl h8 hd rest n (i + 1) y _ p2 er hlt (by simp at hn; omega) (by have:=hits_one (x:=a) (i:=i) m1.rise; rw [List.length_append]; omega),e2,List.append_assoc,play_can c']
      rfl
theorem ofM_zero {l:Int}:∀ {p:List Part},(∀q∈p,q.lot≠l)→ofM l p=0
  | [],_=>rfl
  | q::p,h=>by rw [ofM_cons,if_neg (h q (by simp)),ofM_zero fun r hr=>h r (by simp [hr])]; rfl
theorem F65_of {f:Nat} (hf:1001≤f) {p:List Part} (hl:p.length≤100) (hr0:p.Pairwise fun a b=>a.lot<b.lot) (x:Int):F65 f p x=some (ofM x p):=by
  have key:∀n i,i≤p.length→p.length - i<n→F65_l1 p x n (i:Int)=some (ofM x (p.drop i)):=by
    intro n
    induction n with
    | zero=>intro i _ hn; omega
    | succ n ih =>
      intro i hi hn
      rcases Nat.lt_or_ge i p.length with hlt | hge
      · have e1:p.drop i=p[i]::p.drop (i + 1):=List.drop_eq_getElem_cons hlt
        simp only [F65_l1,lt_len,hlt,decide_true,cond_true,getI_nat hlt,Option.bind_some,bq]
        rw [e1,ofM_cons]
        by_cases e:p[i].lot=x
        · rw [decide_eq_true e,cond_true,if_pos e,ofM_zero (p:=p.drop (i + 1)) fun q hq=>?_]
          · simp
          · have hr:=hr0
            rw [← List.take_append_drop i p,e1] at hr
            have:=(List.pairwise_cons.1 (List.pairwise_append.1 hr).2.1).1 q hq
            omega
        · rw [decide_eq_false e,cond_false,if_neg e,succ_w (by omega),ih (i + 1) hlt (by omega)]
          simp
      · have:i=p.length:=by omega
        subst this
        simp [F65_l1,ofM]
  have:=key f 0 (by omega) (by omega)
  simpa [F65] using this
theorem trS_len {x:Int} {f:Nat} (hf:1001≤f) {lots:List Lot} (h8:lots.length≤40):∀ {ds:List Deed} {h:Holds} {i:Nat},StockOk lots h→h.length=9→Chain f lots h ds→(trS x h ds i).length≤ds.length
  | [],_,_,_,_,_=>by simp [trS]
  | d::ds,h,i,s,h9,c=>by
    obtain ⟨g1,g2⟩:=doD_good hf s h8 h9 c.1
    obtain ⟨m1,_⟩:=mvD_ok hf s h8 h9 c.1 0
    have h1:=hits_one (x:=x) (i:=i) m1.rise
    have:=trS_len (x:=x) (ds:=ds) (i:=i + 1) hf h8 g1 g2 c.2
    simp only [trS,List.length_append,List.length_cons]
    omega
theorem hits_of {x:Int} {i:Nat}:∀ {p:List Part},(p.Pairwise fun a b=>a.lot<b.lot)→(∀q∈p,1≤q.mass)→hits x i p=if 0<ofM x p then [⟨i,ofM x p⟩] else []
  | [],_,_=>by simp [hits,ofM]
  | q::p,h,hm=>by
    have h':=List.pairwise_cons.1 h
    rw [hits_cons,ofM_cons]
    by_cases e:q.lot=x
    · have hne:∀r∈p,r.lot≠x:=fun r hr=>by have:=h'.1 r hr; omega
      have:=hm q (by simp)
      rw [hits_nil hne,ofM_zero hne,if_pos e,if_pos e,Int.add_zero,if_pos (by omega)]
      rfl
    · rw [if_neg e,if_neg e,Int.zero_add,List.nil_append]
      exact hits_of h'.2 fun r hr=>hm r (by simp [hr])
theorem F29_any {f:Nat} (hf:1001≤f) {lots:List Lot} (h8:lots.length≤40) {a:Int} {ds:List Deed} (hd:ds.length≤60):∀(rest:List Deed) n i (h:Holds) (T:List Trail),StockOk lots h→h.length=9→Chain f lots h rest→ds.drop i=rest→i≤ds.length→rest.length<n→T.length≤i →
    F29_l1 f ds a n T lots h (i:Int)=some (T ++ trS a h rest i,0)
  | _,0,i,x,T,_,_,_,_,_,hn,_=>by omega
  | [],n + 1,i,h,T,s,h9,c,e,hi,hn,hT=>by
    have:ds.length≤i:=by simpa using e
    have h1:decide ((i:Int)<(ds.length:Int))=false:=decide_eq_false (by omega)
    simp only [F29_l1,h1,cond_false,trS,List.append_nil]
  | d::rest,n + 1,i,h,T,s,h9,c,e,hi,hn,hT=>by
    obtain ⟨hlt,ed,er⟩:=drop_head e
    have h1:decide ((i:Int)<(ds.length:Int))=true:=decide_eq_true (by omega)
    obtain ⟨g1,g2⟩:=doD_good hf s h8 h9 c.1
    obtain ⟨m1,m2,_⟩:=mvD_ok hf s h8 h9 c.1 a
    have hh:=hits_of (x:=a) (i:=i) m1.rise fun q hq=>(m1.ok q hq).m0
    simp only [F29_l1,h1,cond_true,getI_nat hlt,Option.bind_some,ed]
    rw [F22_eq hf s h8 h9 c.1]
    simp only [Option.bind_some,F29_j1]
    change (F65 f (mvD h d) a).bind _=_
    rw [F65_of hf (by omega) m1.rise]
    simp only [Option.bind_some,trS]
    rw [hh]
    by_cases h0:0<ofM a (mvD h d)
    · rw [decide_eq_true h0,cond_true,if_pos h0,app_small (by omega) (by simp)]
      simp only [Option.bind_some,F29_j2]
      rw [succ_w (by omega)]
      have:=F29_any (a:=a) hf h8 hd rest n (i + 1) (doD h d) (T ++ [⟨i,ofM a (mvD h d)⟩]) g1 g2 c.2 er hlt (by simp at hn; omega) (by simp; omega)
      rw [List.append_assoc] at this
      exact this
    · rw [decide_eq_false h0,cond_false,if_neg h0]
      simp only [F29_j2]
      rw [succ_w (by omega)]
      exact F29_any hf h8 hd rest n (i + 1) (doD h d) T g1 g2 c.2 er hlt (by simp at hn; omega) (by omega)
theorem trace_same {f:Nat} (hf:1001≤f) {lots:List Lot} {ds:List Deed} (hl:LotsOk lots) (hd:ds.length≤60) (a:Int):∃T e,F28 f lots ds a=some (T,e)∧F29 f lots ds a=some (T,e)∧T.length≤100:=by
  have h8:=hl.1
  have e28:F28 f lots ds a=some (if (playS f lots nine ds 0).2.2≠0 then ([],(playS f lots nine ds 0).2.2) else if Has lots a then (trS a nine ds 0,0) else ([],60)):=by
    unfold F28
    rw [F49_ok hf hl hd]
    simp only [Option.bind_some,bne_self_eq_false,cond_false]
    change (F50 f lots nine).bind _=_
    rw [F50_nine hf hl h8]
    have:=F28_any hf hl h8 (a:=a) (ds:=ds) hd ds f 0 (plOf lots nine) [] (plOf_ok (nine_ok hl) rfl) (by simp) (by omega) (by omega) (by simp)
    exact this
  obtain ⟨r,e64,_,hlt⟩:=F64_has (f:=f) (l:=lots) (by omega) a (by omega)
  rcases play_split hf h8 ds nine 0 (nine_ok hl) rfl with ch | ⟨j,q,hq,hp⟩
  · have e29:F29 f lots ds a=some (if Has lots a then (trS a nine ds 0,0) else ([],60)):=by
      unfold F29
      rw [F7_full hf hl h8 hd,play_chain 0 ch]
      simp only [outP,Option.bind_some,bne_self_eq_false,cond_false]
      rw [e64]
      simp only [Option.bind_some,hlt]
      by_cases hh:Has lots a
      · rw [decide_eq_true hh,if_pos hh,Bool.not_true,cond_false,app_small (by simp) (by omega)]
        simp only [Option.bind_some,List.nil_append]
        have:=F29_any hf h8 (a:=a) (ds:=ds) hd ds f 0 nine [] (nine_ok hl) rfl ch (by simp) (by omega) (by omega) (by simp)
        exact this
      · rw [decide_eq_false hh,if_neg hh,Bool.not_false,cond_true]
    rw [play_chain 0 ch] at e28
    simp only [ne_eq,not_true_eq_false,if_false] at e28
    have:=trS_len (x:=a) (i:=0) hf h8 (nine_ok hl) rfl ch
    by_cases hh:Has lots a
    · rw [if_pos hh] at e28 e29
      exact ⟨_,_,e28,e29,by omega⟩
    · rw [if_neg hh] at e28 e29
      exact ⟨_,_,e28,e29,by simp⟩
  · rw [hp] at e28
    rw [if_pos hq] at e28
    have hb:(q != 0)=true:=by simpa using hq
    refine ⟨_,_,e28,?_,by simp⟩
    unfold F29
    rw [F7_full hf hl h8 hd,hp]
    simp only [outP,Option.bind_some,hb,cond_true]
end Go.Proofs.YtlmgjjmighajdaaGreat
set_option linter.unusedSimpArgs false
set_option linter.unusedVariables false
namespace Go.Proofs.YtlmgjjmighajdaaGreat
open Go.Sl Go.Sx
variable {ids : List Int}
theorem F68_eq {f:Nat} (hf:1001≤f) {l:List Bool} (hl:l.length≤100):F68 f l=some (l.any id):=by
  rcases loop_all0 (L:=F68_l1 l) (len:=l.length) (good:=fun j=>∀h:j<l.length,l[j]=false) (no:=some true) (yes:=some false) (n:=f) (fun n i hi=>by
    simp only [F68_l1,lt_len,hi,decide_true,cond_true,getI_nat hi,Option.bind_some]
    cases e:l[i]
    · exact .inl ⟨fun _=>e,by rw [cond_false,succ_w (by omega)]⟩
    · exact .inr ⟨fun k=>Bool.noConfusion (e.symm.trans (k trivial)),rfl⟩) (fun n=>by simp [F68_l1]) (by omega) with ⟨hg,e⟩ | ⟨hg,e⟩
  · have:l.any id=false:=by
      rw [List.any_eq_false]
      intro x hx
      obtain ⟨i,hi,rfl⟩:=List.getElem_of_mem hx
      simp [hg i hi hi]
    unfold F68
    rw [e,this]
  · have:l.any id=true:=Classical.byContradiction fun k=>hg fun j hj _=>by
      cases h:l[j]
      · rfl
      · exact absurd (List.any_eq_true.2 ⟨_,List.getElem_mem hj,by simp [h]⟩) k
    unfold F68
    rw [e,this]
def untR:List (List Part)→Int→Nat
  | [],_=>0
  | p::r,m=>if m≤sumM p then r.length else untR r (m - sumM p)
theorem unt_le:∀(r:List (List Part)) (m:Int),untR r m≤r.length
  | [],_=>by simp [untR]
  | p::r,m=>by
    simp only [untR,List.length_cons]
    split
    · omega
    · have:=unt_le r (m - sumM p); omega
theorem drawR_le:∀(r:List (List Part)) (out:List Part) (m:Int),(drawR r out m).1.length≤r.length
  | [],_,_=>by simp [drawR]
  | p::r,out,m=>by
    simp only [drawR,List.length_cons]
    split
    · split <;> simp
    · have:=drawR_le r (mergeP out (tk p (sumM p))) (m - sumM p); omega
theorem drawB_spec:∀(r:List (List Part)) (B:List Bool) (s:Bool) (out:List Part) (m:Int),B.length=r.length →
    (drawB r B s m).1=B.drop (r.length - (drawR r out m).1.length)∧(drawB r B s m).2=(s || (B.take (r.length - untR r m)).any id)
  | [],[],s,out,m,_=>by simp [drawB]
  | p::r,b::B,s,out,m,h=>by
    have h':B.length=r.length:=by simpa using h
    simp only [drawB,drawR,untR,List.length_cons]
    by_cases hm:m≤sumM p
    · simp only [if_pos hm]
      refine ⟨?_,?_⟩
      · by_cases hl:lf p m=[]
        · simp [hl]
        · simp [hl]
      · rw [show r.length + 1 - r.length=1 by omega]; simp
    · simp only [if_neg hm]
      obtain ⟨i1,i2⟩:=drawB_spec r B (s || b) (mergeP out (tk p (sumM p))) (m - sumM p) h'
      have l1:=drawR_le r (mergeP out (tk p (sumM p))) (m - sumM p)
      have l2:=unt_le r (m - sumM p)
      refine ⟨?_,?_⟩
      · rw [i1,show r.length + 1 - (drawR r (mergeP out (tk p (sumM p))) (m - sumM p)).1.length=(r.length - (drawR r (mergeP out (tk p (sumM p))) (m - sumM p)).1.length) + 1 by omega,List.drop_succ_cons]
      · rw [i2,show r.length + 1 - untR r (m - sumM p)=(r.length - untR r (m - sumM p)) + 1 by omega,List.take_succ_cons,List.any_cons,Bool.or_assoc]; rfl
  | [],_::_,_,_,_,h=>by simp at h
  | _::_,[],_,_,_,h=>by simp at h
theorem drawBS_spec (H:List (List Part)) (B:List Bool) (m:Int) (h:B.length=H.length) :
    (drawBS H B m).1=B.take (drawS H m).1.length∧(drawBS H B m).2=(B.drop (untR H.reverse m)).any id:=by
  obtain ⟨i1,i2⟩:=drawB_spec H.reverse B.reverse false [] m (by simpa using h)
  have l1:=drawR_le H.reverse [] m
  have l2:=unt_le H.reverse m
  simp only [List.length_reverse] at i1 i2 l1 l2
  unfold drawBS drawS
  simp only [List.length_reverse]
  refine ⟨?_,?_⟩
  · rw [i1,List.drop_reverse,List.reverse_reverse,h]
    congr 1
    omega
  · rw [i2,Bool.false_or,List.take_reverse,List.any_reverse,h]
    congr 2
    omega
theorem F103_any {f:Nat} (hf:1001≤f) {H:List (List Part)} (hl:H.length≤100) (k:Hold ids H) (hs:sumH H≤100000000):∀(r:List (List Part)) (n:Nat) (m:Int),r.reverse=H.take r.length→r.length≤H.length→r.length + 1<n→0<m→m≤sumH r→F103_l1 f H n m (r.length:Int)=some ((untR r m:Nat):Int)
  | [],n,m,_,_,_,h0,h1=>by simp [sumH] at h1; omega
  | p::r,0,m,_,_,hn,_,_=>by omega
  | p::r,n + 1,m,e,hle,hn,h0,h1=>by
    have hlt:r.length<H.length:=by rw [List.length_cons] at hle; omega
    have e':r.reverse ++ [p]=H.take (r.length + 1):=by simpa using e
    rw [List.take_succ_eq_append_getElem hlt] at e'
    obtain ⟨e1,e2⟩:=List.append_inj' e' rfl
    have ep:H[r.length]=p:=by injection e2 with h _; exact h.symm
    have hp:=k.ins p (by rw [← ep]; exact List.getElem_mem hlt)
    have hone:=k.one_le p (by rw [← ep]; exact List.getElem_mem hlt)
    have hpp:=hp.pos (k.ne p (by rw [← ep]; exact List.getElem_mem hlt))
    have hsum:sumH (p::r)=sumM p + sumH r:=by simp [sumH]
    rw [hsum] at h1
    have hm0:decide (m > 0)=true:=decide_eq_true h0
    have hlen:w64 (((p::r).length:Int) - 1)=(r.length:Int):=by
      rw [List.length_cons,len_pred (by omega)]
    simp only [F103_l1,hm0,cond_true,hlen,getI_nat hlt,Option.bind_some,ep]
    rw [F82_90,F38_eq (hp.heap (by have:=k.i8; omega) (by omega)) (by omega)]
    simp only [Option.bind_some,untR]
    have hsr:sumH r≤100000000:=by
      have hh:Hold ids r.reverse:=⟨k.i8,fun q hq=>k.ins q (by rw [e1] at hq; exact List.mem_of_mem_take hq),fun q hq=>k.ne q (by rw [e1] at hq; exact List.mem_of_mem_take hq),by rw [List.length_reverse]; omega⟩
      have hd:sumH H=sumH (H.take r.length) + sumH (H.drop r.length):=by rw [← sumH_app,List.take_append_drop]
      have hz:0≤sumH (H.drop r.length):=by
        have:Hold ids (H.drop r.length):=⟨k.i8,fun q hq=>k.ins q (List.mem_of_mem_drop hq),fun q hq=>k.ne q (List.mem_of_mem_drop hq),by rw [List.length_drop]; omega⟩
        exact this.sum_pos
      rw [← e1,sumH_rev] at hd
      omega
    have hw:w64 (m - sumM p)=m - sumM p:=w64_id (by omega) (by omega)
    rw [hw]
    by_cases hle2:m≤sumM p
    · obtain ⟨n',rfl⟩:∃n',n=n' + 1:=⟨n - 1,by simp at hn; omega⟩
      have:decide (m - sumM p > 0)=false:=decide_eq_false (by omega)
      rw [if_pos hle2]
      simp only [F103_l1,this,cond_false]
    · rw [if_neg hle2]
      exact F103_any hf hl k hs r n (m - sumM p) e1 (by omega) (by simp at hn; omega) (by omega) (by omega)
theorem F103_eq {f:Nat} (hf:1001≤f) {H:List (List Part)} (hl:H.length≤100) (k:Hold ids H) (hs:sumH H≤100000000) {m:Int} (h0:0<m) (h1:m≤sumH H):F103 f H m=some ((untR H.reverse m:Nat):Int):=by
  have:=F103_any hf hl k hs H.reverse f m (by simp) (by simp) (by simp; omega) h0 (by rw [sumH_rev]; exact h1)
  simpa [F103] using this
theorem F104_l2_eq {H:List (List Part)} {d:List Int} (hl:H.length≤100) (k:Fit ids H d) {B:List Bool} (hB:B.length=H.length) (ne:∀p∈H,p≠[]):∀n i (acc:List Bool),i≤H.length→H.length - i<n→acc.length≤i →
    F104_l2 H B (massH H) d n acc (i:Int)=some (acc ++ loseB (H.drop i) (B.drop i) (d.drop i))
  | 0,i,acc,_,hn,_=>by omega
  | n + 1,i,acc,hi,hn,ha=>by
    have hdl:=k.len
    rcases Nat.lt_or_ge i H.length with hlt | hge
    · have hd:i<d.length:=by omega
      have hb:i<B.length:=by omega
      have hm:i<(massH H).length:=by simp [massH]; exact hlt
      have c:=k.at i hlt hd
      have e1:H.drop i=H[i]::H.drop (i + 1):=List.drop_eq_getElem_cons hlt
      have e2:d.drop i=d[i]::d.drop (i + 1):=List.drop_eq_getElem_cons hd
      have e3:B.drop i=B[i]::B.drop (i + 1):=List.drop_eq_getElem_cons hb
      have em:(massH H)[i]=sumM H[i]:=by simp [massH]
      simp only [F104_l2,lt_len,hlt,decide_true,cond_true,getI_nat hd,getI_nat hm,getI_nat hb,Option.bind_some,em]
      rw [e1,e2,e3]
      simp only [loseB]
      by_cases hz:d[i]<sumM H[i]
      · rw [decide_eq_true hz,cond_true,app_small (by omega) (by simp),if_neg (c.lf_ne hz)]
        simp only [Option.bind_some,F104_j1]
        rw [succ_w (by omega),F104_l2_eq hl k hB ne n (i + 1) _ hlt (by omega) (by simp; omega),List.append_assoc]
        rfl
      · have he:d[i]=sumM H[i]:=by have:=c.m1; omega
        rw [decide_eq_false hz,cond_false,if_pos (c.lf_nil he)]
        simp only [F104_j1]
        rw [succ_w (by omega)]
        exact F104_l2_eq hl k hB ne n (i + 1) _ hlt (by omega) (by omega)
    · have:i=H.length:=by omega
      subst this
      have hB':B.drop H.length=[]:=List.drop_eq_nil_of_le (by omega)
      simp [F104_l2,loseB,hB']
theorem F104_eq {f:Nat} (hf:1001≤f) {H:List (List Part)} (k:Hold ids H) (hl:H.length<20) (hs:sumH H≤100000000) {m:Int} (h0:0<m) (h1:m≤sumH H) {B:List Bool} (hB:B.length=H.length) :
    F104 f H B m=some (loseB H B (dealS m (massH H))):=by
  have hd:=dealOk_hold k hl hs h0 h1
  have hfit:=fit_hold k hl hs h0 h1
  have i8:=k.i8
  unfold F104
  have key:=from_st (T:=fun n i=>F104_l1 f H B m n (massH (H.take i)) (i:Int)) (len:=H.length) (n:=f) (out:=(F84 f m (massH H)).bind fun r1=>F104_l2 H B (massH H) r1 f [] 0) (by omega)
    (fun n i hi=>by
      have hp:=k.ins _ (List.getElem_mem hi)
      have:=k.one_le _ (List.getElem_mem hi)
      simp only [F104_l1,lt_len,hi,decide_true,cond_true,getI_nat hi,Option.bind_some]
      rw [F82_90,F38_eq (hp.heap (by omega) (by omega)) (by omega)]
      simp only [Option.bind_some]
      rw [app_small (by simp [massH]; omega) (by simp)]
      simp only [Option.bind_some]
      rw [massH_take hi,succ_w (by omega)])
    (fun n=>by
      simp only [F104_l1,lt_len,Nat.lt_irrefl,decide_false,cond_false,List.take_length])
  have e0:F104_l1 f H B m f [] 0=(F84 f m (massH H)).bind fun r1=>F104_l2 H B (massH H) r1 f [] 0:=by simpa [massH] using key
  rw [e0,F84_eq hd (show 200≤f by omega)]
  simp only [Option.bind_some]
  have:=F104_l2_eq (by omega) hfit hB k.ne f 0 [] (by omega) (by omega) (by simp)
  simpa using this
end Go.Proofs.YtlmgjjmighajdaaGreat
set_option linter.unusedSimpArgs false
set_option linter.unusedVariables false
namespace Go.Proofs.YtlmgjjmighajdaaGreat
open Go.Sl Go.Sx
structure Fits9 (h:Holds) (B:List (List Bool)):Prop where
  b9:B.length=9
  len:∀t:Nat,(B.getD t []).length=(h.getD t []).length
theorem row {α:Type} {B:List (List α)} (h9:B.length=9) {t:Int} (h:0≤t∧t≤8):getI B t=some (B.getD t.toNat []):=by
  obtain ⟨n,rfl⟩:∃n:Nat,t=(n:Int):=⟨t.toNat,by omega⟩
  have:n<B.length:=by omega
  rw [getI_nat this,Int.toNat_natCast]
  simp [this]
theorem last_bool (B:List Bool) (c:Bool) (h:B.length≤90):w64 (((B ++ [c]).length:Int) - 1)=(B.length:Int)∧getI (B ++ [c]) (B.length:Int)=some c∧∀v,setI (B ++ [c]) (B.length:Int) v=some (B ++ [v]):=by
  refine ⟨?_,?_,fun v=>?_⟩
  · rw [List.length_append,List.length_singleton,len_pred (by omega)]
  · rw [getI_opt]; simp
  · unfold setI
    rw [if_pos (by simp; omega)]
    simp
theorem F89_copy {f:Nat} (hf:1001≤f) {h h':Holds} {k l fr to m a:Int} {B:List (List Bool)} (b9:B.length=9) (hl:∀t:Nat,(B.getD t []).length≤4) (lots lots':List Lot) :
    ∃n,F89 f B lots h lots' h' k l fr to m a=F89_l1 f B h h' k l fr to m a (n + 1) B 9:=by
  obtain ⟨n,rfl⟩:∃n,f=(n + 1) + 9:=⟨f - 10,by omega⟩
  refine ⟨n,?_⟩
  have step:∀j i,i<9→F89_l1 (n + 1 + 9) B h h' k l fr to m a (j + 1) (B.take i ++ List.replicate (9 - i) []) (i:Int)=F89_l1 (n + 1 + 9) B h h' k l fr to m a j (B.take (i + 1) ++ List.replicate (9 - (i + 1)) []) ((i + 1:Nat):Int):=fun j i hi=>by
    have hd:decide ((i:Int)<9)=true:=decide_eq_true (by omega)
    have hb:i<B.length:=by omega
    have h1:i<(B.take i ++ List.replicate (9 - i) []).length:=by simp; omega
    have hlb:=hl i
    have ex:B.getD i []=B[i]:=by simp [hb]
    rw [ex] at hlb
    simp only [F89_l1,hd,cond_true,getI_nat hb,getI_nat h1,Option.bind_some]
    rw [app_small (by simp) (by omega)]
    simp only [Option.bind_some,List.nil_append,Int.toNat_natCast]
    rw [succ_w (by omega)]
    congr 1
    rw [List.take_succ_eq_append_getElem hb,show 9 - i=(9 - (i + 1)) + 1 by omega,List.replicate_succ]
    have hl:(B.take i).length=i:=by rw [List.length_take]; omega
    rw [List.set_append_right _ _ (by omega),hl,Nat.sub_self,List.set_cons_zero,List.append_assoc]
    rfl
  have e0:([[],[],[],[],[],[],[],[],[]]:List (List Bool))=B.take 0 ++ List.replicate 9 []:=rfl
  have e9:B.take 9 ++ List.replicate (9 - 9) []=B:=by rw [List.take_of_length_le (by omega)]; simp
  unfold F89
  rw [e0]
  have s:=step
  exact (s (n + 9) 0 (by omega)).trans ((s (n + 8) 1 (by omega)).trans ((s (n + 7) 2 (by omega)).trans ((s (n + 6) 3 (by omega)).trans ((s (n + 5) 4 (by omega)).trans ((s (n + 4) 5 (by omega)).trans ((s (n + 3) 6 (by omega)).trans ((s (n + 2) 7 (by omega)).trans ((s (n + 1) 8 (by omega)).trans (by rw [e9]; rfl)))))))))
theorem snoc_of {α:Type} {l:List α} (h:l≠[]):∃l' a,l=l' ++ [a]:=by
  rcases List.eq_nil_or_concat l with rfl | ⟨l',a,rfl⟩
  · exact absurd rfl h
  · exact ⟨l',a,by simp⟩
theorem F89_eq {f:Nat} (hf:1001≤f) {lots:List Lot} {h:Holds} (s:StockOk lots h) (h8:lots.length≤40) (h9:h.length=9) {k l fr to m:Int} (al:Allowed lots h k l fr to m) {B:List (List Bool)} (fb:Fits9 h B) (a:Int) :
    F89 f B lots h lots (doS h k l fr to m).1 k l fr to m a=some (mightS h k l fr to m a B):=by
  have b9:=fb.b9
  have hk:=al.k0
  have hl4:∀t:Nat,(B.getD t []).length≤4:=fun t=>by
    rw [fb.len t]
    by_cases ht:t<9
    · exact (hold_at s h8 h9 ht).2.1
    · have:h.length≤t:=by omega
      simp [List.getElem?_eq_none this]
  obtain ⟨n,e⟩:=F89_copy (k:=k) (l:=l) (fr:=fr) (to:=to) (m:=m) (a:=a) (h:=h) (h':=(doS h k l fr to m).1) hf b9 hl4 lots lots
  rw [e]
  obtain ⟨g1,g2,g3,g4⟩:=doS_good s h8 h9 al
  obtain ⟨f1,f2,f3,f4⟩:=hold_at s h8 h9 (t:=fr.toNat) (by have:=al.fr0; omega)
  have rF:=row b9 al.fr0
  have rT:=row b9 al.to0
  have hF:=row h9 al.fr0
  have lF:=hl4 fr.toNat
  have lT:=hl4 to.toNat
  have kF:=fb.len fr.toNat
  have d9:decide ((9:Int)<9)=false:=rfl
  have hk':k=1∨k=2∨k=3∨k=4∨k=5∨k=6:=by omega
  rcases hk' with rfl | rfl | rfl | rfl | rfl | rfl
  · -- pour
    simp only [F89_l1,d9,cond_false,beq_self_eq_true,cond_true,rT,Option.bind_some,F89_j1,mightS,if_true,bq]
    by_cases hz:B.getD to.toNat []=[]
    · rw [hz]
      simp [ontoB]
    · obtain ⟨C,c,hC⟩:=snoc_of hz
      have hne:decide (((B.getD to.toNat []).length:Int)=0)=false:=decide_eq_false (by rw [hC]; simp; omega)
      rw [hne,cond_false,hC,ontoB_last]
      obtain ⟨w1,w2,w3⟩:=last_bool C c (by rw [hC] at lT; simp at lT; omega)
      by_cases hla:l=a
      · rw [decide_eq_true hla,cond_true,w1,w2]
        simp only [Option.bind_some,w3,Bool.or_true]
      · rw [decide_eq_false hla,cond_false,Bool.or_false, ← hC]
        have hlt:to.toNat<B.length:=by have:=al.to0; omega
        have:B.set to.toNat (B.getD to.toNat [])=B:=by simp [hlt]
        rw [this]
  · -- lay
    have h21:((2:Int) == 1)=false:=rfl
    simp only [F89_l1,d9,cond_false,h21,beq_self_eq_true,cond_true,rT,Option.bind_some,F89_j1,mightS,Int.reduceEq,if_true,if_false]
    rw [app_small (by omega) (by simp)]
    rfl
  · -- draw
    have hm:=al.m0 (by omega)
    have hfr:=al.from_ (.inl rfl)
    obtain ⟨q1,q2⟩:=drawBS_spec (h.getD fr.toNat []) (B.getD fr.toNat []) m kF
    have hd:=drawR_le (h.getD fr.toNat []).reverse [] m
    have ha9:=row g2 al.fr0
    have hset:(doS h 3 l fr to m).1.getD fr.toNat []=(drawS (h.getD fr.toNat []) m).1:=by
      simp only [doS,Int.reduceEq,if_false,if_true]
      rw [getD_set,if_pos ⟨rfl,by have:=al.fr0; omega⟩]
    have hu:=unt_le (h.getD fr.toNat []).reverse m
    have hlen:(drawS (h.getD fr.toNat []) m).1.length≤(h.getD fr.toNat []).length:=by simpa [drawS] using hd
    rw [List.length_reverse] at hu
    simp only [F89_l1,d9,cond_false,show ((3:Int) == 1)=false from rfl,show ((3:Int) == 2)=false from rfl,beq_self_eq_true,cond_true,F89_j2,rF,ha9,hF,hset,Option.bind_some]
    rw [F103_eq hf (by omega) f1 f3 (by omega) hfr]
    simp only [Option.bind_some]
    rw [show subI (B.getD fr.toNat []) ((untR (h.getD fr.toNat []).reverse m:Nat):Int) ((B.getD fr.toNat []).length:Int)=some ((B.getD fr.toNat []).drop (untR (h.getD fr.toNat []).reverse m)) by
      unfold subI; rw [if_pos (by omega)]; simp]
    simp only [Option.bind_some]
    rw [F68_eq hf (by rw [List.length_drop]; omega)]
    simp only [Option.bind_some]
    rw [show subI (B.getD fr.toNat []) 0 ((drawS (h.getD fr.toNat []) m).1.length:Int)=some ((B.getD fr.toNat []).take (drawS (h.getD fr.toNat []) m).1.length) by
      unfold subI; rw [if_pos (by omega)]; simp]
    simp only [Option.bind_some,F89_j1,mightS,Int.reduceEq,if_true,if_false,q1]
  · -- shift
    have hm:=al.m0 (by omega)
    have hfr:=al.from_ (.inr (.inl rfl))
    have hne:=al.apart rfl
    have hnat:fr.toNat≠to.toNat:=by have:=al.fr0; have:=al.to0; omega
    obtain ⟨q1,q2⟩:=drawBS_spec (h.getD fr.toNat []) (B.getD fr.toNat []) m kF
    have hd:=drawR_le (h.getD fr.toNat []).reverse [] m
    have ha9:=row g2 al.fr0
    have hset:(doS h 4 l fr to m).1.getD fr.toNat []=(drawS (h.getD fr.toNat []) m).1:=by
      simp only [doS,Int.reduceEq,if_false,if_true]
      rw [getD_set,if_neg (by rintro ⟨k,_⟩; exact hnat k.symm),getD_set,if_pos ⟨rfl,by have:=al.fr0; omega⟩]
    have hu:=unt_le (h.getD fr.toNat []).reverse m
    have hlen:(drawS (h.getD fr.toNat []) m).1.length≤(h.getD fr.toNat []).length:=by simpa [drawS] using hd
    rw [List.length_reverse] at hu
    simp only [F89_l1,d9,cond_false,show ((4:Int) == 1)=false from rfl,show ((4:Int) == 2)=false from rfl,show ((4:Int) == 3)=false from rfl,beq_self_eq_true,cond_true,F89_j2,rF,ha9,hF,hset,Option.bind_some]
    rw [F103_eq hf (by omega) f1 f3 (by omega) hfr]
    simp only [Option.bind_some]
    rw [show subI (B.getD fr.toNat []) ((untR (h.getD fr.toNat []).reverse m:Nat):Int) ((B.getD fr.toNat []).length:Int)=some ((B.getD fr.toNat []).drop (untR (h.getD fr.toNat []).reverse m)) by
      unfold subI; rw [if_pos (by omega)]; simp]
    simp only [Option.bind_some]
    rw [F68_eq hf (by rw [List.length_drop]; omega)]
    simp only [Option.bind_some]
    rw [show subI (B.getD fr.toNat []) 0 ((drawS (h.getD fr.toNat []) m).1.length:Int)=some ((B.getD fr.toNat []).take (drawS (h.getD fr.toNat []) m).1.length) by
      unfold subI; rw [if_pos (by omega)]; simp]
    simp only [Option.bind_some,mightS,Int.reduceEq,if_true,if_false]
    rw [q1, ← q2]
    obtain ⟨D,hD⟩:∃D,D=B.set fr.toNat ((B.getD fr.toNat []).take (drawS (h.getD fr.toNat []) m).1.length):=⟨_,rfl⟩
    obtain ⟨b,hb⟩:∃b,b=(drawBS (h.getD fr.toNat []) (B.getD fr.toNat []) m).2:=⟨_,rfl⟩
    rw [← hD, ← hb]
    have hDT:getI D to=some (B.getD to.toNat []):=by
      rw [hD,row (by simp [b9]) al.to0,getD_set,if_neg (by rintro ⟨k,_⟩; exact hnat k)]
    simp only [hDT,Option.bind_some,F89_j1,bq]
    by_cases hz:B.getD to.toNat []=[]
    · rw [hz]
      simp [ontoB]
    · obtain ⟨C,c,hC⟩:=snoc_of hz
      have hne:decide (((B.getD to.toNat []).length:Int)=0)=false:=decide_eq_false (by rw [hC]; simp; omega)
      rw [hne,cond_false,hC,ontoB_last]
      obtain ⟨w1,w2,w3⟩:=last_bool C c (by rw [hC] at lT; simp at lT; omega)
      rw [w1,w2]
      simp only [Option.bind_some,w3]
      cases c <;> simp
  · -- lose
    have hm:=al.m0 (by omega)
    have hfr:=al.from_ (.inr (.inr rfl))
    simp only [F89_l1,d9,cond_false,show ((5:Int) == 1)=false from rfl,show ((5:Int) == 2)=false from rfl,show ((5:Int) == 3)=false from rfl,show ((5:Int) == 4)=false from rfl,beq_self_eq_true,cond_true,F89_j2,rF,hF,Option.bind_some,F105]
    rw [F104_eq hf f1 (by omega) f3 (by omega) hfr kF]
    simp only [Option.bind_some,F89_j1,mightS,Int.reduceEq,if_true,if_false]
  · -- mix
    have h2:=al.two rfl
    rw [← kF] at h2
    obtain ⟨C,b,c,hC⟩:=two_last h2
    have lC:C.length≤90:=by rw [hC] at lF; simp at lF; omega
    have w2:w64 (((C ++ [b] ++ [c]).length:Int) - 2)=(C.length:Int):=by
      have:((C ++ [b] ++ [c]).length:Int)=((C.length + 2:Nat):Int):=by simp
      rw [this,w64_id (by omega) (by omega)]; omega
    simp only [F89_l1,d9,cond_false,show ((6:Int) == 1)=false from rfl,show ((6:Int) == 2)=false from rfl,show ((6:Int) == 3)=false from rfl,show ((6:Int) == 4)=false from rfl,show ((6:Int) == 5)=false from rfl,beq_self_eq_true,cond_true,F89_j2,rF,Option.bind_some,mightS,Int.reduceEq,if_false]
    rw [hC,mixB_last,w2,show subI (C ++ [b] ++ [c]) (C.length:Int) ((C ++ [b] ++ [c]).length:Int)=some [b,c] by
      unfold subI; rw [if_pos (by simp; omega),Int.toNat_natCast,Int.toNat_natCast,List.take_length]; simp]
    simp only [Option.bind_some]
    rw [F68_eq hf (by simp),show subI (C ++ [b] ++ [c]) 0 (C.length:Int)=some C by
      unfold subI; rw [if_pos (by simp; omega)]; simp]
    simp only [Option.bind_some]
    rw [app_small (by omega) (by simp)]
    simp only [Option.bind_some,F89_j1]
    simp
end Go.Proofs.YtlmgjjmighajdaaGreat
set_option linter.unusedSimpArgs false
set_option linter.unusedVariables false
namespace Go.Proofs.YtlmgjjmighajdaaGreat
open Go.Sl Go.Sx
def runP (f:Nat) (x:Pl) (ds:List Deed):Pl:=ds.foldl (nextP f) x
theorem runP_take {f:Nat} {x:Pl} {ds:List Deed} {i:Nat} (hi:i<ds.length):runP f x (ds.take (i + 1))=nextP f (runP f x (ds.take i)) ds[i]:=by
  unfold runP
  rw [List.take_succ_eq_append_getElem hi,List.foldl_append]
  rfl
def bothIn (a b:Int) (s:List (Int×Bool)):Bool:=lkK s a false && lkK s b false
def metP (a b:Int) (x:Pl):Bool:=x.may.any fun M=>M.any (bothIn a b)
def firstS (f:Nat) (a b:Int):Pl→List Deed→Int→Nat→Int
  | _,[],y,_=>y
  | x,d::ds,y,i=>firstS f a b (nextP f x d) ds (if y<0∧metP a b (nextP f x d)=true then (i:Int) else y) (i + 1)
theorem first_pos (f:Nat) (a b:Int):∀(ds:List Deed) (x:Pl) (y:Int) (i:Nat),0≤y→firstS f a b x ds y i=y
  | [],_,_,_,_=>rfl
  | d::ds,x,y,i,h=>by
    simp only [firstS]
    rw [if_neg (by omega)]
    exact first_pos f a b ds _ y _ h
theorem runP_ok {f:Nat} (hf:1001≤f) {lots:List Lot} (h8:lots.length≤40):∀ {ds:List Deed} {x:Pl},PlOk lots x→Chain f lots x.holds ds→PlOk lots (runP f x ds)∧(runP f x ds).holds=run x.holds ds
  | [],x,p,_=>⟨p,rfl⟩
  | d::ds,x,p,c=>by
    obtain ⟨s,_,e2,p2,_⟩:=next_spec hf h8 p c.1
    have:=runP_ok (ds:=ds) hf h8 p2 (by rw [e2]; exact c.2)
    rw [e2] at this
    exact this
theorem PlOk.len4 {lots:List Lot} {x:Pl} (k:PlOk lots x) (t:Nat):(x.may.getD t []).length≤4:=by
  rw [k.len t]
  by_cases h:t<x.holds.length
  · have e:x.holds.getD t []=x.holds[t]:=by simp [h]
    rw [e]; exact (k.sok.hok _ (List.getElem_mem h)).len
  · have e:x.holds.getD t []=[]:=by simp [List.getElem?_eq_none (show x.holds.length≤t by omega)]
    rw [e]; simp
theorem PlOk.may_at {lots:List Lot} {x:Pl} (k:PlOk lots x) {t:Nat} (ht:t<9):getI x.may (t:Int)=some (x.may.getD t []):=by
  have h:t<x.may.length:=by have:=k.m9; omega
  rw [getI_nat h]; simp [h]
theorem F16_l3_eq {f:Nat} (hf:1001≤f) (k1:Int→Int→Option (Bool×Int×Int)) (a b y10 y11 y8:Int) {M:List (List (Int×Bool))} (hM:M.length≤4) :
    F16_l3 k1 a b y10 y11 y8 M f 0=k1 (if M.any (bothIn a b)=true then y10 else y11) (w64 (y8 + 1)):=by
  have hh:∀k2 (j:Nat) (s:List (Int×Bool)),cond (lkK s a false) (F16_j5 k1 k2 y10 y11 y8 (j:Int) (lkK s b false)) (F16_j5 k1 k2 y10 y11 y8 (j:Int) false)=cond (bothIn a b s) (k1 y10 (w64 (y8 + 1))) (k2 (w64 ((j:Int) + 1))):=by
    intro k2 j s
    have hj:decide ((j:Int)≥0)=true:=decide_eq_true (by omega)
    unfold bothIn
    cases lkK s a false <;> cases lkK s b false <;> simp only [cond_true,cond_false,F16_j5,F16_j4,F16_j3,F16_j2,hj,Bool.and_true,Bool.and_false,Bool.false_and,Bool.true_and]
  rcases loop_all0 (L:=F16_l3 k1 a b y10 y11 y8 M) (len:=M.length) (good:=fun j=>∀h:j<M.length,bothIn a b M[j]=false) (no:=k1 y10 (w64 (y8 + 1))) (yes:=k1 y11 (w64 (y8 + 1))) (n:=f) (fun n i hi=>by
    simp only [F16_l3,lt_len,hi,decide_true,cond_true,getI_nat hi,Option.bind_some,hh]
    cases e:bothIn a b M[i]
    · exact .inl ⟨fun _=>e,by rw [cond_false,succ_w (by omega)]⟩
    · exact .inr ⟨fun k=>Bool.noConfusion (e.symm.trans (k trivial)),rfl⟩) (fun n=>by
    simp only [F16_l3,lt_len,Nat.lt_irrefl,decide_false,cond_false,F16_j4]
    rfl) (by omega) with ⟨hg,e⟩ | ⟨hg,e⟩
  · have:¬ M.any (bothIn a b)=true:=fun k=>by
      obtain ⟨s,hs,h⟩:=List.any_eq_true.1 k
      obtain ⟨i,hi,rfl⟩:=List.getElem_of_mem hs
      rw [hg i hi hi] at h; cases h
    rw [e,if_neg this]
  · have:M.any (bothIn a b)=true:=Classical.byContradiction fun k=>hg fun j hj _=>by
      cases h:bothIn a b M[j]
      · rfl
      · exact absurd (List.any_eq_true.2 ⟨_,List.getElem_mem hj,h⟩) k
    rw [e,if_pos this]
theorem F16_l2_eq {f:Nat} (hf:1001≤f) {lots:List Lot} {x:Pl} (p:PlOk lots x) (k3:Pl→Int→Int→Option (Bool×Int×Int)) (a b:Int) (i:Nat) (mv:List Part) (s:List (Int×Bool)) (e:Int) (y:Int) :
    F16_l2 f k3 a b (i:Int) (mv,s,e,x) f y 0=k3 x (if y<0∧metP a b x=true then (i:Int) else y) (w64 ((i:Int) + 1)):=by
  have m9:=p.m9
  have key:=from_st (T:=fun n t=>F16_l2 f k3 a b (i:Int) (mv,s,e,x) n (if y<0∧(x.may.take t).any (fun M=>M.any (bothIn a b))=true then (i:Int) else y) (t:Int)) (len:=9) (n:=f) (out:=k3 x (if y<0∧metP a b x=true then (i:Int) else y) (w64 ((i:Int) + 1))) (by omega)
    (fun n t ht=>by
      have h1:decide ((t:Int)<9)=true:=decide_eq_true (by omega)
      have hlt:t<x.may.length:=by omega
      have hx:x.may.getD t []=x.may[t]:=by simp [hlt]
      have h4:=p.len4 t
      simp only [F16_l2,h1,cond_true]
      rw [p.may_at ht]
      simp only [Option.bind_some]
      have et:(x.may.take (t + 1)).any (fun M=>M.any (bothIn a b))=((x.may.take t).any (fun M=>M.any (bothIn a b)) || (x.may.getD t []).any (bothIn a b)):=by
        rw [List.take_succ_eq_append_getElem hlt,List.any_append,hx]; simp
      rw [et]
      by_cases hy:y<0
      · cases hb:(x.may.take t).any (fun M=>M.any (bothIn a b))
        · rw [if_neg (by rintro ⟨_,h⟩; cases h),decide_eq_true hy,cond_true,F16_l3_eq hf _ _ _ _ _ _ h4,succ_w (by omega),Bool.false_or]
          cases hc:(x.may.getD t []).any (bothIn a b)
          · rw [if_neg (by simp),if_neg (by simp)]
          · rw [if_pos rfl,if_pos ⟨hy,rfl⟩]
        · rw [if_pos ⟨hy,rfl⟩,decide_eq_false (by omega),cond_false,Bool.true_or,if_pos ⟨hy,rfl⟩]
          simp only [F16_j3,F16_j2,cond_false]
          rw [succ_w (by omega)]
      · rw [if_neg (fun h=>hy h.1),decide_eq_false hy,cond_false,if_neg (fun h=>hy h.1)]
        simp only [F16_j3,F16_j2,cond_false]
        rw [succ_w (by omega)])
    (fun n=>by
      simp only [F16_l2,List.take_of_length_le (show x.may.length≤9 by omega)]
      rfl)
  simpa using key
theorem F30_l3_eq {f:Nat} (hf:1001≤f) (k1:List Int→Int→Option (List Int×Int)) (a:Int) {l:List Int} (hl:l.length≤100) (t:Int) {M:List (List (Int×Bool))} (hM:M.length≤4) :
    F30_l3 k1 a l t M f 0=k1 (if M.any (fun s=>lkK s a false)=true then l ++ [t] else l) (w64 (t + 1)):=by
  rcases loop_all0 (L:=F30_l3 k1 a l t M) (len:=M.length) (good:=fun j=>∀h:j<M.length,lkK M[j] a false=false) (no:=k1 (l ++ [t]) (w64 (t + 1))) (yes:=k1 l (w64 (t + 1))) (n:=f) (fun n i hi=>by
    have hj:decide ((i:Int)≥0)=true:=decide_eq_true (by omega)
    simp only [F30_l3,lt_len,hi,decide_true,cond_true,getI_nat hi,Option.bind_some]
    cases e:lkK M[i] a false
    · exact .inl ⟨fun _=>e,by rw [cond_false,succ_w (by omega)]⟩
    · refine .inr ⟨fun k=>Bool.noConfusion (e.symm.trans (k trivial)),?_⟩
      simp only [cond_true,F30_j4,hj]
      rw [app_small (by omega) (by simp)]
      rfl) (fun n=>by
    simp only [F30_l3,lt_len,Nat.lt_irrefl,decide_false,cond_false,F30_j4]
    rfl) (by omega) with ⟨hg,e⟩ | ⟨hg,e⟩
  · have:¬ M.any (fun s=>lkK s a false)=true:=fun k=>by
      obtain ⟨s,hs,h⟩:=List.any_eq_true.1 k
      obtain ⟨i,hi,rfl⟩:=List.getElem_of_mem hs
      rw [hg i hi hi] at h; cases h
    rw [e,if_neg this]
  · have:M.any (fun s=>lkK s a false)=true:=Classical.byContradiction fun k=>hg fun j hj _=>by
      cases h:lkK M[j] a false
      · rfl
      · exact absurd (List.any_eq_true.2 ⟨_,List.getElem_mem hj,h⟩) k
    rw [e,if_pos this]
theorem PlOk.fits {lots:List Lot} {x:Pl} (k:PlOk lots x) (a:Int):Fits9 x.holds (mayB a x):=⟨by simp [mayB,k.m9],fun t=>by rw [mayB_at]; simp only [bl,List.length_map]; exact k.len t⟩
def mgP (f:Nat) (a:Int):Pl→List Deed→List (List (List Bool))
  | _,[]=>[]
  | x,d::ds=>mayB a (nextP f x d)::mgP f a (nextP f x d) ds
theorem mgP_len (f:Nat) (a:Int):∀(ds:List Deed) (x:Pl),(mgP f a x ds).length=ds.length
  | [],_=>rfl
  | d::ds,x=>by simp [mgP,mgP_len f a ds]
theorem mgP_at (f:Nat) (a:Int):∀(ds:List Deed) (x:Pl) (j:Nat),j<ds.length→(mgP f a x ds)[j]? =some (mayB a (runP f x (ds.take (j + 1))))
  | [],_,_,h=>by simp at h
  | d::ds,x,0,_=>rfl
  | d::ds,x,j + 1,h=>by
    have:=mgP_at f a ds (nextP f x d) j (by simpa using h)
    simpa [mgP,runP] using this
theorem F67_any {f:Nat} (hf:1001≤f) {lots:List Lot} (h8:lots.length≤40) {a:Int} {ds:List Deed} (hd:ds.length≤60):∀(rest:List Deed) n i (x:Pl) (acc:List (List (List Bool))),PlOk lots x→PlTru x→Chain f lots x.holds rest→ds.drop i=rest→i≤ds.length→rest.length<n→acc.length≤i →
    F67_l1 f ds a n acc (mayB a x) lots x.holds (i:Int)=some (acc ++ mgP f a x rest)
  | _,0,i,x,acc,_,_,_,_,_,hn,_=>by omega
  | [],n + 1,i,x,acc,p,tr,c,e,hi,hn,hT=>by
    have:ds.length≤i:=by simpa using e
    have h1:decide ((i:Int)<(ds.length:Int))=false:=decide_eq_false (by omega)
    simp only [F67_l1,h1,cond_false,mgP,List.append_nil]
  | d::rest,n + 1,i,x,acc,p,tr,c,e,hi,hn,hT=>by
    obtain ⟨hlt,ed,er⟩:=drop_head e
    have h1:decide ((i:Int)<(ds.length:Int))=true:=decide_eq_true (by omega)
    obtain ⟨s,e1,e2,p2,e3⟩:=next_spec hf h8 p c.1
    obtain ⟨tr2,e4⟩:=e3 tr
    have al:=F54_allowed p.sok p.h9 (by omega) c.1
    simp only [F67_l1,h1,cond_true,getI_nat hlt,Option.bind_some,ed]
    rw [F22_eq hf p.sok h8 p.h9 c.1]
    simp only [Option.bind_some,F67_j1,getI_nat hlt,ed]
    rw [F89_eq hf p.sok h8 p.h9 al (p.fits a) a]
    simp only [Option.bind_some]
    change (appC acc [mgD x.holds d a (mayB a x)]).bind _=_
    rw [app_small (by omega) (by simp)]
    simp only [Option.bind_some]
    rw [succ_w (by omega)]
    change F67_l1 f ds a n (acc ++ [mgD x.holds d a (mayB a x)]) (mgD x.holds d a (mayB a x)) lots (doD x.holds d) _=_
    rw [← e4 a, ← e2,F67_any hf h8 hd rest n (i + 1) (nextP f x d) _ p2 tr2 (by rw [e2]; exact c.2) er hlt (by simp at hn; omega) (by simp; omega),List.append_assoc]
    rfl
theorem F67_eq {f:Nat} (hf:1001≤f) {lots:List Lot} {ds:List Deed} (k:RawOk f lots ds) (a:Int):F67 f lots ds a=some (mgP f a (plOf lots nine) ds):=by
  have hd:=k.len
  have h8:=k.lok.1
  unfold F67
  rw [app_small (by simp) (by omega)]
  simp only [Option.bind_some,List.nil_append]
  have:=F67_any hf h8 (a:=a) (ds:=ds) (by omega) ds f 0 (plOf lots nine) [] (plOf_ok (nine_ok k.lok) rfl) (plOf_tru lots nine) k.chain (by simp) (by omega) (by omega) (by simp)
  exact this
def reachN (B:List (List Bool)) (n:Nat):List Int:=((List.range n).filter fun t=>(B.getD t []).any id).map fun t:Nat=>(t:Int)
theorem reachN_succ (B:List (List Bool)) (n:Nat):reachN B (n + 1)=reachN B n ++ (if (B.getD n []).any id=true then [(n:Int)] else []):=by
  unfold reachN
  rw [List.range_succ,List.filter_append,List.map_append]
  congr 1
  by_cases h:(B.getD n []).any id=true
  · rw [if_pos h,List.filter_cons_of_pos (p:=fun t=>(B.getD t []).any id) h]; rfl
  · rw [if_neg h,List.filter_cons_of_neg (p:=fun t=>(B.getD t []).any id) h]; rfl
theorem reachN_len (B:List (List Bool)) (n:Nat):(reachN B n).length≤n:=by
  unfold reachN
  rw [List.length_map]
  have:=List.length_filter_le (fun t=>(B.getD t []).any id) (List.range n)
  simpa using this
theorem F30_l2_all {f:Nat} (hf:1001≤f) {lots:List Lot} {x:Pl} (p:PlOk lots x) (a:Int):F30_l2 f a x f [] 0=some (reachN (mayB a x) 9,0):=by
  have key:=from_st (T:=fun n t=>F30_l2 f a x n (reachN (mayB a x) t) (t:Int)) (len:=9) (n:=f) (out:=some (reachN (mayB a x) 9,0)) (by omega)
    (fun n t ht=>by
      have h1:decide ((t:Int)<9)=true:=decide_eq_true (by omega)
      have hr:=reachN_len (mayB a x) t
      have ha:(x.may.getD t []).any (fun s=>lkK s a false)=((mayB a x).getD t []).any id:=by
        rw [mayB_at]; simp only [bl,List.any_map]; rfl
      simp only [F30_l2,h1,cond_true]
      rw [p.may_at ht]
      simp only [Option.bind_some]
      rw [F30_l3_eq hf _ a (by omega) _ (p.len4 t),succ_w (by omega),reachN_succ,ha]
      by_cases h:((mayB a x).getD t []).any id=true
      · rw [if_pos h,if_pos h]
      · rw [if_neg h,if_neg h,List.append_nil])
    (fun n=>by
      simp only [F30_l2]
      rfl)
  exact key
theorem F30_any {f:Nat} (hf:1001≤f) {lots:List Lot} (hl:LotsOk lots) (h8:lots.length≤40) {a:Int} {ds:List Deed} (hd:ds.length≤60):∀(rest:List Deed) n i (x:Pl),PlOk lots x→ds.drop i=rest→i≤ds.length→rest.length<n →
    F30_l1 f lots ds a n x (i:Int)=some (if (playS f lots x.holds rest i).2.2≠0 then ([],(playS f lots x.holds rest i).2.2) else if Has lots a then (reachN (mayB a (runP f x rest)) 9,0) else ([],60))
  | _,0,i,x,_,_,_,hn=>by omega
  | [],n + 1,i,x,p,e,hi,hn=>by
    have:ds.length≤i:=by simpa using e
    have h1:decide ((i:Int)<(ds.length:Int))=false:=decide_eq_false (by omega)
    simp only [F30_l1,h1,cond_false,F30_j1,beq_self_eq_true,cond_true]
    rw [F47_eq hf hl (by simp)]
    simp only [playS,ne_eq,not_true_eq_false,if_false]
    by_cases hh:Has lots a
    · have h2:∀x∈[a],Has lots x:=by intro x hx; rw [List.mem_singleton] at hx; rw [hx]; exact hh
      rw [if_pos h2,if_pos hh]
      simp only [Option.bind_some,F30_j2,bne_self_eq_false,cond_false]
      exact F30_l2_all hf p a
    · have h2:¬ ∀x∈[a],Has lots x:=fun k=>hh (k a (by simp))
      rw [if_neg h2,if_neg hh]
      rfl
  | d::rest,n + 1,i,x,p,e,hi,hn=>by
    obtain ⟨hlt,ed,er⟩:=drop_head e
    have h1:decide ((i:Int)<(ds.length:Int))=true:=decide_eq_true (by omega)
    rcases F51_step hf h8 p d with ⟨r,hr,e1,e2⟩ | ⟨s0,y0,c',_⟩
    · have hb:(r != 0)=true:=by simpa using hr
      have hb0:(r == 0)=false:=by simpa using hr
      simp only [F30_l1,h1,cond_true,getI_nat hlt,Option.bind_some,ed]
      rw [e2,play_not hr e1,if_pos hr]
      simp only [Option.bind_some,hb,cond_true,F30_j1,hb0,cond_false,F30_j2]
    · obtain ⟨s,e1,e2,p2,_⟩:=next_spec hf h8 p c'
      simp only [F30_l1,h1,cond_true,getI_nat hlt,Option.bind_some,ed,e1,bne_self_eq_false,cond_false,F19]
      rw [succ_w (by omega),play_can c', ← e2]
      exact F30_any hf hl h8 hd rest n (i + 1) _ p2 er hlt (by simp at hn; omega)
theorem reach_same {f:Nat} (hf:1001≤f) {lots:List Lot} {ds:List Deed} (hl:LotsOk lots) (hd:ds.length≤60) (a:Int):∃R e,F30 f lots ds a=some (R,e)∧F31 f lots ds a=some (R,e)∧R.length≤100:=by
  have h8:=hl.1
  have e30:F30 f lots ds a=some (if (playS f lots nine ds 0).2.2≠0 then ([],(playS f lots nine ds 0).2.2) else if Has lots a then (reachN (mayB a (runP f (plOf lots nine) ds)) 9,0) else ([],60)):=by
    unfold F30
    rw [F49_ok hf hl hd]
    simp only [Option.bind_some,bne_self_eq_false,cond_false]
    change (F50 f lots nine).bind _=_
    rw [F50_nine hf hl h8]
    exact F30_any hf hl h8 hd ds f 0 (plOf lots nine) (plOf_ok (nine_ok hl) rfl) (by simp) (by omega) (by omega)
  obtain ⟨r,e64,_,hlt⟩:=F64_has (f:=f) (l:=lots) (by omega) a (by omega)
  rcases play_split hf h8 ds nine 0 (nine_ok hl) rfl with ch | ⟨j,q,hq,hp⟩
  rotate_left
  · rw [hp] at e30
    rw [if_pos hq] at e30
    have hb:(q != 0)=true:=by simpa using hq
    refine ⟨_,_,e30,?_,by simp⟩
    unfold F31
    rw [F7_full hf hl h8 hd,hp]
    simp only [outP,Option.bind_some,hb,cond_true]
  have k:RawOk f lots ds:=⟨hl,hd,ch⟩
  rw [play_chain 0 ch] at e30
  simp only [ne_eq,not_true_eq_false,if_false] at e30
  have e31:F31 f lots ds a=some (if Has lots a then (reachN (mayB a (runP f (plOf lots nine) ds)) 9,0) else ([],60)):=by
    unfold F31
    rw [F7_full hf hl h8 hd,play_chain 0 k.chain]
    simp only [outP,Option.bind_some,bne_self_eq_false,cond_false]
    rw [e64]
    simp only [Option.bind_some,hlt]
    by_cases hh:Has lots a
    · rw [decide_eq_true hh,if_pos hh,Bool.not_true,cond_false,F67_eq hf k]
      simp only [Option.bind_some]
      by_cases hz:ds=[]
      · subst hz
        obtain ⟨n,rfl⟩:∃n,f=n + 1:=⟨f - 1,by omega⟩
        rfl
      · have hpos:0<ds.length:=List.length_pos_iff.2 hz
        obtain ⟨G,hG⟩:∃G,G=mgP f a (plOf lots nine) ds:=⟨_,rfl⟩
        have hGl:G.length=ds.length:=by rw [hG,mgP_len]
        have hGa:getI G (w64 ((G.length:Int) - 1))=some (mayB a (runP f (plOf lots nine) ds)):=by
          have w1:w64 ((G.length:Int) - 1)=((ds.length - 1:Nat):Int):=by rw [hGl,w64_id (by omega) (by omega)]; omega
          have:=mgP_at f a ds (plOf lots nine) (ds.length - 1) (by omega)
          rw [show ds.length - 1 + 1=ds.length by omega,List.take_length] at this
          rw [w1,getI_opt,hG,this]
        rw [← hG]
        obtain ⟨X,hX⟩:∃X,X=mayB a (runP f (plOf lots nine) ds):=⟨_,rfl⟩
        rw [← hX] at hGa ⊢
        have hX9:X.length=9∧∀t:Nat,t<9→(X.getD t []).length≤4:=by
          obtain ⟨q1,q2⟩:=runP_ok hf h8 (plOf_ok (nine_ok k.lok) rfl) k.chain
          have:=q1.fits a
          rw [← hX] at this
          refine ⟨this.b9,fun t ht=>?_⟩
          rw [hX,mayB_at]
          simp only [bl,List.length_map]
          exact q1.len4 t
        have key:=from_st (T:=fun n t=>F31_l1 f G n (reachN X t) (t:Int)) (len:=9) (n:=f) (out:=some (reachN X 9,0)) (by omega)
          (fun n t ht=>by
            have h1:decide ((t:Int)<9)=true:=decide_eq_true (by omega)
            have h2:decide ((G.length:Int) > 0)=true:=decide_eq_true (by omega)
            have hr:=reachN_len X t
            simp only [F31_l1,h1,cond_true,h2,F31_j1,hGa,Option.bind_some]
            rw [row hX9.1 ⟨by omega,by omega⟩,Int.toNat_natCast]
            simp only [Option.bind_some]
            rw [F68_eq hf (by have:=hX9.2 t ht; omega)]
            simp only [Option.bind_some]
            rw [reachN_succ]
            by_cases h:(X.getD t []).any id=true
            · rw [h,cond_true,if_pos rfl,app_small (by omega) (by simp)]
              simp only [Option.bind_some,F31_j2]
              rw [succ_w (by omega)]
            · have h':(X.getD t []).any id=false:=by simpa using h
              rw [h',cond_false,if_neg (by simp),List.append_nil]
              simp only [F31_j2]
              rw [succ_w (by omega)])
          (fun n=>by
            have h1:decide (((9:Nat):Int)<9)=false:=rfl
            simp only [F31_l1,h1,cond_false,F31_j1])
        exact key
    · rw [decide_eq_false hh,if_neg hh,Bool.not_false,cond_true]
  have:=reachN_len (mayB a (runP f (plOf lots nine) ds)) 9
  by_cases hh:Has lots a
  · rw [if_pos hh] at e30 e31
    exact ⟨_,_,e30,e31,by omega⟩
  · rw [if_neg hh] at e30 e31
    exact ⟨_,_,e30,e31,by simp⟩
end Go.Proofs.YtlmgjjmighajdaaGreat
set_option linter.unusedSimpArgs false
set_option linter.unusedVariables false
namespace Go.Proofs.YtlmgjjmighajdaaGreat
open Go.Sl Go.Sx
def apS (lots:List Lot) (a b:Int) (y:Int):Bool×Int×Int:=if Has lots a∧Has lots b then (if a=b then (false,0,1) else (decide (y<0),y,0)) else (false,0,60)
theorem F16_any {f:Nat} (hf:1001≤f) {lots:List Lot} (hl:LotsOk lots) (h8:lots.length≤40) {a b:Int} {ds:List Deed} (hd:ds.length≤60):∀(rest:List Deed) n i (x:Pl) (y:Int),PlOk lots x→ds.drop i=rest→i≤ds.length→rest.length<n →
    F16_l1 f lots ds a b n x y (i:Int)=some (if (playS f lots x.holds rest i).2.2≠0 then (false,0,(playS f lots x.holds rest i).2.2) else apS lots a b (firstS f a b x rest y i))
  | _,0,i,x,y,_,_,_,hn=>by omega
  | [],n + 1,i,x,y,p,e,hi,hn=>by
    have:ds.length≤i:=by simpa using e
    have h1:decide ((i:Int)<(ds.length:Int))=false:=decide_eq_false (by omega)
    simp only [F16_l1,h1,cond_false,F16_j1,beq_self_eq_true,cond_true]
    rw [F47_eq hf hl (by simp)]
    simp only [Option.bind_some,firstS,playS,ne_eq,not_true_eq_false,if_false]
    unfold apS
    by_cases hh:Has lots a∧Has lots b
    · have h2:∀x∈[a,b],Has lots x:=by intro x hx; simp at hx; rcases hx with rfl | rfl; exact hh.1; exact hh.2
      rw [if_pos h2,if_pos hh]
      simp only [F16_j6,beq_self_eq_true,cond_true,bq]
      by_cases hab:a=b
      · rw [decide_eq_true hab,if_pos hab]; rfl
      · rw [decide_eq_false hab,if_neg hab]; rfl
    · have h2:¬ ∀x∈[a,b],Has lots x:=fun k=>hh ⟨k a (by simp),k b (by simp)⟩
      rw [if_neg h2,if_neg hh]
      rfl
  | d::rest,n + 1,i,x,y,p,e,hi,hn=>by
    obtain ⟨hlt,ed,er⟩:=drop_head e
    have h1:decide ((i:Int)<(ds.length:Int))=true:=decide_eq_true (by omega)
    rcases F51_step hf h8 p d with ⟨r,hr,e1,e2⟩ | ⟨s0,y0,c',_⟩
    · have hb:(r != 0)=true:=by simpa using hr
      have hb0:(r == 0)=false:=by simpa using hr
      simp only [F16_l1,h1,cond_true,getI_nat hlt,Option.bind_some,ed]
      rw [e2,play_not hr e1,if_pos hr]
      simp only [Option.bind_some,hb,cond_true,F16_j1,hb0,cond_false,F16_j6,F16_j8,F16_j7]
    · obtain ⟨s,e1,e2,p2,_⟩:=next_spec hf h8 p c'
      simp only [F16_l1,h1,cond_true,getI_nat hlt,Option.bind_some,ed,e1,bne_self_eq_false,cond_false]
      rw [F16_l2_eq hf p2,succ_w (by omega),F16_any hf hl h8 hd rest n (i + 1) _ _ p2 er hlt (by simp at hn; omega),play_can c',e2]
      rfl
theorem bl_at (a:Int) {M:List (List (Int×Bool))} {j:Nat} (hj:j<M.length):getI (bl a M) (j:Int)=some (inB a M[j]):=by
  rw [getI_opt]; simp [bl,hj]
theorem F32_l3_eq {f:Nat} (hf:1001≤f) (k2:Int→Option (Bool×Int×Int)) {r1 r2:List (List (List Bool))} {i:Nat} {a b:Int} {x:Pl} (h1:getI r1 (i:Int)=some (mayB a x)) (h2:getI r2 (i:Int)=some (mayB b x)) (m9:x.may.length=9) {t:Nat} (ht:t<9) (h4:(x.may.getD t []).length≤4) :
    F32_l3 k2 r1 r2 (i:Int) (t:Int) f 0=if (x.may.getD t []).any (bothIn a b)=true then some (false,(i:Int),0) else k2 ((t + 1:Nat):Int):=by
  have g1:getI (mayB a x) (t:Int)=some (bl a (x.may.getD t [])):=by rw [row (by simp [mayB,m9]) ⟨by omega,by omega⟩,Int.toNat_natCast,mayB_at]
  have g2:getI (mayB b x) (t:Int)=some (bl b (x.may.getD t [])):=by rw [row (by simp [mayB,m9]) ⟨by omega,by omega⟩,Int.toNat_natCast,mayB_at]
  obtain ⟨M,hM⟩:∃M,M=x.may.getD t []:=⟨_,rfl⟩
  rw [← hM] at g1 g2 h4 ⊢
  have hl:(bl a M).length=M.length:=by simp [bl]
  rcases loop_all0 (L:=F32_l3 k2 r1 r2 (i:Int) (t:Int)) (len:=M.length) (good:=fun j=>∀h:j<M.length,bothIn a b M[j]=false) (no:=some (false,(i:Int),0)) (yes:=k2 ((t + 1:Nat):Int)) (n:=f) (fun n j hj=>by
    simp only [F32_l3,h1,h2,g1,g2,Option.bind_some,hl,lt_len,hj,decide_true,cond_true,bl_at a hj,bl_at b hj,F32_j2]
    cases e:bothIn a b M[j]
    · refine .inl ⟨fun _=>e,?_⟩
      rw [succ_w (by omega)]
      unfold bothIn at e
      change (inB a M[j] && inB b M[j])=false at e
      cases ea:inB a M[j]
      · rfl
      · rw [ea,Bool.true_and] at e
        rw [e]; rfl
    · refine .inr ⟨fun k=>Bool.noConfusion (e.symm.trans (k trivial)),?_⟩
      unfold bothIn at e
      change (inB a M[j] && inB b M[j])=true at e
      rw [Bool.and_eq_true] at e
      rw [e.1,e.2]; rfl) (fun n=>by
    simp only [F32_l3,h1,g1,Option.bind_some,hl,lt_len,Nat.lt_irrefl,decide_false,cond_false]
    rw [succ_w (by omega)]) (by omega) with ⟨hg,e⟩ | ⟨hg,e⟩
  · have:¬ M.any (bothIn a b)=true:=fun k=>by
      obtain ⟨s,hs,h⟩:=List.any_eq_true.1 k
      obtain ⟨j,hj,rfl⟩:=List.getElem_of_mem hs
      rw [hg j hj hj] at h; cases h
    rw [e,if_neg this]
  · have:M.any (bothIn a b)=true:=Classical.byContradiction fun k=>hg fun j hj _=>by
      cases h:bothIn a b M[j]
      · rfl
      · exact absurd (List.any_eq_true.2 ⟨_,List.getElem_mem hj,h⟩) k
    rw [e,if_pos this]
theorem F32_l2_eq {f:Nat} (hf:1001≤f) (k3:Int→Option (Bool×Int×Int)) {r1 r2:List (List (List Bool))} {i:Nat} (hi:i<1000) {a b:Int} {lots:List Lot} {x:Pl} (p:PlOk lots x) (h1:getI r1 (i:Int)=some (mayB a x)) (h2:getI r2 (i:Int)=some (mayB b x)) :
    F32_l2 f k3 r1 r2 (i:Int) f 0=if metP a b x=true then some (false,(i:Int),0) else k3 ((i + 1:Nat):Int):=by
  have m9:=p.m9
  rcases loop_all0 (L:=F32_l2 f k3 r1 r2 (i:Int)) (len:=9) (good:=fun t=>(x.may.getD t []).any (bothIn a b)=false) (no:=some (false,(i:Int),0)) (yes:=k3 ((i + 1:Nat):Int)) (n:=f) (fun n t ht=>by
    have hd:decide ((t:Int)<9)=true:=decide_eq_true (by omega)
    simp only [F32_l2,hd,cond_true]
    rw [F32_l3_eq hf _ h1 h2 m9 ht (p.len4 t)]
    cases e:(x.may.getD t []).any (bothIn a b)
    · exact .inl ⟨rfl,by rw [if_neg (by simp)]⟩
    · exact .inr ⟨by simp,by rw [if_pos rfl]⟩) (fun n=>by
    have hd:decide (((9:Nat):Int)<9)=false:=rfl
    simp only [F32_l2,hd,cond_false]
    rw [succ_w (by omega)]) (by omega) with ⟨hg,e⟩ | ⟨hg,e⟩
  · have:¬ metP a b x=true:=fun k=>by
      obtain ⟨M,hM,h⟩:=List.any_eq_true.1 k
      obtain ⟨t,ht,rfl⟩:=List.getElem_of_mem hM
      have:=hg t (by omega)
      have ex:x.may.getD t []=x.may[t]:=by simp [ht]
      rw [ex] at this
      rw [this] at h; cases h
    rw [e,if_neg this]
  · have:metP a b x=true:=Classical.byContradiction fun k=>hg fun t ht=>by
      have hlt:t<x.may.length:=by omega
      have ex:x.may.getD t []=x.may[t]:=by simp [hlt]
      rw [ex]
      cases h:x.may[t].any (bothIn a b)
      · rfl
      · exact absurd (List.any_eq_true.2 ⟨_,List.getElem_mem hlt,h⟩) k
    rw [e,if_pos this]
theorem F32_any {f:Nat} (hf:1001≤f) {lots:List Lot} (h8:lots.length≤40) {a b:Int} {ds:List Deed} (hd:ds.length≤60) {x0:Pl} (p0:PlOk lots x0) (c0:Chain f lots x0.holds ds):∀(rest:List Deed) n i (x:Pl),x=runP f x0 (ds.take i)→PlOk lots x→Chain f lots x.holds rest→ds.drop i=rest→i≤ds.length→rest.length<n →
    F32_l1 f ds (mgP f a x0 ds) (mgP f b x0 ds) n (i:Int)=some (decide (firstS f a b x rest (-1) i<0),firstS f a b x rest (-1) i,0)
  | _,0,i,x,_,_,_,_,_,hn=>by omega
  | [],n + 1,i,x,ex,p,c,e,hi,hn=>by
    have:ds.length≤i:=by simpa using e
    have h1:decide ((i:Int)<(ds.length:Int))=false:=decide_eq_false (by omega)
    simp only [F32_l1,h1,cond_false,firstS]
    rfl
  | d::rest,n + 1,i,x,ex,p,c,e,hi,hn=>by
    obtain ⟨hlt,ed,er⟩:=drop_head e
    have h1:decide ((i:Int)<(ds.length:Int))=true:=decide_eq_true (by omega)
    obtain ⟨s,e1,e2,p2,_⟩:=next_spec hf h8 p c.1
    have ex2:runP f x0 (ds.take (i + 1))=nextP f x d:=by rw [runP_take hlt, ← ex,ed]
    have g1:getI (mgP f a x0 ds) (i:Int)=some (mayB a (nextP f x d)):=by rw [getI_opt,mgP_at f a ds x0 i hlt,ex2]
    have g2:getI (mgP f b x0 ds) (i:Int)=some (mayB b (nextP f x d)):=by rw [getI_opt,mgP_at f b ds x0 i hlt,ex2]
    simp only [F32_l1,h1,cond_true]
    rw [F32_l2_eq hf _ (by omega) p2 g1 g2]
    by_cases hm:metP a b (nextP f x d)=true
    · have hv:firstS f a b x (d::rest) (-1) i=(i:Int):=by
        simp only [firstS]
        rw [if_pos ⟨by omega,hm⟩,first_pos _ _ _ _ _ _ _ (by omega)]
      rw [if_pos hm,hv,decide_eq_false (by omega)]
    · have hv:firstS f a b x (d::rest) (-1) i=firstS f a b (nextP f x d) rest (-1) (i + 1):=by
        simp only [firstS]
        rw [if_neg (fun h=>hm h.2)]
      rw [if_neg hm,hv]
      exact F32_any hf h8 hd p0 c0 rest n (i + 1) _ ex2.symm p2 (by rw [e2]; exact c.2) er hlt (by simp at hn; omega)
theorem apart_same {f:Nat} (hf:1001≤f) {lots:List Lot} {ds:List Deed} (hl:LotsOk lots) (hd:ds.length≤60) (a b:Int):∃v n e,F16 f lots ds a b=some (v,n,e)∧F32 f lots ds a b=some (v,n,e):=by
  have h8:=hl.1
  have p0:=plOf_ok (nine_ok hl) rfl
  obtain ⟨r,e64,_,hlt⟩:=F64_has (f:=f) (l:=lots) (by omega) a (by omega)
  obtain ⟨r',e64',_,hlt'⟩:=F64_has (f:=f) (l:=lots) (by omega) b (by omega)
  have e16:F16 f lots ds a b=some (if (playS f lots nine ds 0).2.2≠0 then (false,0,(playS f lots nine ds 0).2.2) else apS lots a b (firstS f a b (plOf lots nine) ds (-1) 0)):=by
    unfold F16
    rw [F49_ok hf hl hd]
    simp only [Option.bind_some,bne_self_eq_false,cond_false]
    change (F50 f lots nine).bind _=_
    rw [F50_nine hf hl h8]
    exact F16_any hf hl h8 hd ds f 0 (plOf lots nine) (-1) p0 (by simp) (by omega) (by omega)
  rcases play_split hf h8 ds nine 0 (nine_ok hl) rfl with ch | ⟨j,q,hq,hp⟩
  rotate_left
  · rw [hp] at e16
    rw [if_pos hq] at e16
    have hb:(q != 0)=true:=by simpa using hq
    refine ⟨_,_,_,e16,?_⟩
    unfold F32
    rw [F7_full hf hl h8 hd,hp]
    simp only [outP,Option.bind_some,hb,cond_true]
  have k:RawOk f lots ds:=⟨hl,hd,ch⟩
  rw [play_chain 0 ch] at e16
  simp only [ne_eq,not_true_eq_false,if_false] at e16
  have e32:F32 f lots ds a b=some (apS lots a b (firstS f a b (plOf lots nine) ds (-1) 0)):=by
    unfold F32 apS
    rw [F7_full hf hl h8 hd,play_chain 0 k.chain]
    simp only [outP,Option.bind_some,bne_self_eq_false,cond_false]
    rw [e64]
    simp only [Option.bind_some,hlt]
    by_cases ha:Has lots a
    · rw [decide_eq_true ha,Bool.not_true,cond_false,e64']
      simp only [Option.bind_some,hlt']
      by_cases hb:Has lots b
      · rw [decide_eq_true hb,Bool.not_true,if_pos ⟨ha,hb⟩]
        simp only [F32_j1,cond_false,bq]
        by_cases hab:a=b
        · rw [decide_eq_true hab,cond_true,if_pos hab]
        · rw [decide_eq_false hab,cond_false,if_neg hab,F67_eq hf k,F67_eq hf k]
          simp only [Option.bind_some]
          exact F32_any hf h8 hd p0 k.chain ds f 0 (plOf lots nine) rfl p0 k.chain (by simp) (by omega) (by omega)
      · rw [decide_eq_false hb,Bool.not_false,if_neg (fun h=>hb h.2)]
        rfl
    · rw [decide_eq_false ha,Bool.not_false,cond_true,if_neg (fun h=>ha h.1)]
      rfl
  exact ⟨_,_,_,e16,e32⟩
end Go.Proofs.YtlmgjjmighajdaaGreat
set_option linter.unusedSimpArgs false
set_option linter.unusedVariables false
namespace Go.Proofs.YtlmgjjmighajdaaGreat
open Go.Sl Go.Sx
theorem F33_refl {f:Nat} (hf:1001≤f) {l:List Int} (hl:l.length≤100):F33 f l l=some true:=by
  have key:=from_st (T:=fun n i=>F33_l1 l l n true (i:Int)) (len:=l.length) (n:=f) (out:=some true) (by omega)
    (fun n i hi=>by
      simp only [F33_l1,lt_len,hi,decide_true,cond_true,F33_j1,getI_nat hi,Option.bind_some,beq_self_eq_true]
      rw [succ_w (by omega)])
    (fun n=>by simp only [F33_l1,lt_len,Nat.lt_irrefl,decide_false,cond_false,F33_j1])
  unfold F33
  rw [beq_self_eq_true]
  exact key
theorem F34_refl {f:Nat} (hf:1001≤f) {l:List Trail} (hl:l.length≤100):F34 f l l=some true:=by
  have key:=from_st (T:=fun n i=>F34_l1 l l n true (i:Int)) (len:=l.length) (n:=f) (out:=some true) (by omega)
    (fun n i hi=>by
      simp only [F34_l1,lt_len,hi,decide_true,cond_true,F34_j1,getI_nat hi,Option.bind_some,beq_self_eq_true,Bool.and_true]
      rw [succ_w (by omega)])
    (fun n=>by simp only [F34_l1,lt_len,Nat.lt_irrefl,decide_false,cond_false,F34_j1])
  unfold F34
  rw [beq_self_eq_true]
  exact key
theorem bad_true {f:Nat} {lots:List Lot} {ds:List Deed} {q:Int} (hf:1001≤f) (hq:q≠0) (h49:F49 f lots ds=some q) (h7:F7 f lots ds=some ([],nine,0,q)) (h25:∀n,F25 f lots ds n=some ([],nine,[],q)) (a b c:Int):F9 f lots ds a b c=some true:=by
  have hb:(q != 0)=true:=by simpa using hq
  have hb0:(q == 0)=false:=by simpa using hq
  have nn:Small nine:=(nine_ok (lots:=[]) (by constructor <;> simp)).small rfl
  have e6:F6 f lots ds=some ([],nine,0,q):=by
    unfold F6
    rw [h49]
    simp only [Option.bind_some,hb,cond_true,F6_j1]
    rfl
  have e24:F24 f lots ds a=some ([],nine,[],q):=by
    unfold F24
    rw [h49]
    simp only [Option.bind_some,hb,cond_true]
    rfl
  have e26:F26 f lots ds a=some (false,q):=by
    unfold F26
    rw [e6]
    simp only [Option.bind_some,hb,cond_true]
  have e27:F27 f lots ds a=some (false,q):=by
    unfold F27
    rw [h7]
    simp only [Option.bind_some,hb,cond_true]
  have e28:F28 f lots ds b=some ([],q):=by
    unfold F28
    rw [h49]
    simp only [Option.bind_some,hb,cond_true,F28_j1,hb0,cond_false,F28_j3]
  have e29:F29 f lots ds b=some ([],q):=by
    unfold F29
    rw [h7]
    simp only [Option.bind_some,hb,cond_true]
  have e30:F30 f lots ds b=some ([],q):=by
    unfold F30
    rw [h49]
    simp only [Option.bind_some,hb,cond_true,F30_j1,hb0,cond_false,F30_j2]
  have e31:F31 f lots ds b=some ([],q):=by
    unfold F31
    rw [h7]
    simp only [Option.bind_some,hb,cond_true]
  have e16:F16 f lots ds b c=some (false,0,q):=by
    unfold F16
    rw [h49]
    simp only [Option.bind_some,hb,cond_true,F16_j1,hb0,cond_false,F16_j6,F16_j8,F16_j7]
  have e32:F32 f lots ds b c=some (false,0,q):=by
    unfold F32
    rw [h7]
    simp only [Option.bind_some,hb,cond_true]
  unfold F9
  rw [e24,h25,e26,e27,e28,e29,e30,e31,e16,e32]
  simp only [Option.bind_some]
  rw [F8_eq hf [] [] (by simp) nn nn,F33_refl hf (by simp),F34_refl hf (by simp)]
  simp only [Option.bind_some,decide_true,Bool.and_self,cond_true,beq_self_eq_true,F9_j1]
theorem F9_true {f:Nat} (hf:1001≤f) {lots:List Lot} {ds:List Deed} (hl:LotsOk lots) (hd:ds.length≤60) (a b c:Int):F9 f lots ds a b c=some true:=by
  obtain ⟨L,H,out,e,w1,w2,l1,sH,lo⟩:=with_same hf hl hd a
  obtain ⟨v,e1,c1,c2⟩:=comm_same hf hl hd a
  obtain ⟨T,e2,t1,t2,lT⟩:=trace_same hf hl hd b
  obtain ⟨R,e3,r1,r2,lR⟩:=reach_same hf hl hd b
  obtain ⟨q,n,e4,a1,a2⟩:=apart_same hf hl hd b c
  unfold F9
  rw [w1,w2,c1,c2,t1,t2,r1,r2,a1,a2]
  simp only [Option.bind_some]
  rw [F8_eq hf L L l1 sH sH,F33_refl hf lo,F34_refl hf lT,F33_refl hf lR]
  simp only [Option.bind_some,decide_true,Bool.and_self,cond_true,beq_self_eq_true,F9_j1]
theorem sane_big:F5 1001=some true:=by kernel_rfl
theorem F3_gen {f:Nat} (hf:1001≤f) (hs:F5 f=some true) (lots:List Lot) (ds:List Deed) (a b c:Int):F3 f lots ds a b c=some true:=by
  have fin:∀(L:List Lot) (H:Holds) (n e:Int),F6 f lots ds=some (L,H,n,e)→F7 f lots ds=some (L,H,n,e)→L.length≤100→Small H→F9 f lots ds a b c=some true→F3 f lots ds a b c=some true:=by
    intro L H n e h6 h7 hL hH h9
    unfold F3
    rw [hs,h6,h7]
    simp only [Option.bind_some]
    rw [F8_eq hf L L hL hH hH,h9]
    simp only [Option.bind_some,decide_true,Bool.and_self,cond_true,beq_self_eq_true,F3_j1]
  have nn:Small nine:=(nine_ok (lots:=[]) (by constructor <;> simp)).small rfl
  by_cases hl:LotsOk lots
  · have h8:=hl.1
    by_cases hd:ds.length≤60
    · rcases play_split hf h8 ds nine 0 (nine_ok hl) rfl with ch | ⟨j,q,hq,hp⟩
      · obtain ⟨g1,g2⟩:=run_good hf h8 (nine_ok hl) rfl ch
        have h6:=F6_eq hf hl h8 hd
        have h7:=F7_full hf hl h8 hd
        rw [play_chain 0 ch] at h6 h7
        exact fin _ _ _ _ h6 h7 (by omega) (g1.small g2) (F9_true hf hl hd a b c)
      · have h6:=F6_eq hf hl h8 hd
        have h7:=F7_full hf hl h8 hd
        rw [hp] at h6 h7
        exact fin _ _ _ _ h6 h7 (by simp) nn (F9_true hf hl hd a b c)
    · have h60:decide ((ds.length:Int) > 60)=true:=decide_eq_true (by omega)
      rcases F77_eq (l:=lots) (by omega:40<f) with ⟨_,e⟩ | ⟨hn,_⟩
      · have h49:F49 f lots ds=some 2:=by
          unfold F49
          rw [e]
          simp only [Option.bind_some,bne_self_eq_false,cond_false,h60,cond_true]
        have h7:F7 f lots ds=some ([],nine,0,2):=by
          unfold F7
          rw [F21_19,e]
          simp only [Option.bind_some,bne_self_eq_false,cond_false,h60,cond_true]
          rfl
        have h25:∀n,F25 f lots ds n=some ([],nine,[],2):=fun n=>by
          unfold F25
          rw [F21_19,e]
          simp only [Option.bind_some,bne_self_eq_false,cond_false,h60,cond_true]
          rfl
        have h6:F6 f lots ds=some ([],nine,0,2):=by
          unfold F6
          rw [h49]
          rfl
        exact fin _ _ _ _ h6 h7 (by simp) nn (bad_true hf (by decide) h49 h7 h25 a b c)
      · exact absurd hl hn
  · rcases F77_eq (l:=lots) (by omega:40<f) with ⟨k,_⟩ | ⟨_,e⟩
    · exact absurd k hl
    · have h25:∀n,F25 f lots ds n=some ([],nine,[],60):=fun n=>by
        unfold F25
        rw [F21_19,e]
        rfl
      exact fin _ _ _ _ (F6_bad hf hl ds) (F7_bad hf hl ds) (by simp) nn (bad_true hf (by decide) (F49_bad hf hl ds) (F7_bad hf hl ds) h25 a b c)
theorem F3_true' (lots:List Lot) (ds:List Deed) (a b c:Int):∃fuel,F3 fuel lots ds a b c=some true:=⟨1001,F3_gen (by omega) sane_big lots ds a b c⟩
end Go.Proofs.YtlmgjjmighajdaaGreat
set_option linter.unusedVariables false
namespace Go.Sx
open Go.Sl Go.RowKit Go.ChangeShapes
def I64 (n:Int):Prop:= -9223372036854775808≤n∧n≤9223372036854775807
def Opens {α:Type} (P:Program) (t:TypeId) (T:Ty α) (ok:α→Prop):Prop :=
  ∀(H:Type) (enc:TypeId×Value→H) (W:World) (fuel:Nat) (cs:List Value) (d:DataW H×List MemPlace),
    DataW.trod enc P W 0 (fun _=>true) true fuel t cs=some d→∃x,T.rep (Zone.all W) cs x∧ok x
theorem mapM_mem {α β:Type} {f:α→Option β}:∀ {l:List α} {ys:List β},l.mapM f=some ys→∀a∈l,∃y,f a=some y
  | [],_,_,a,ha=>by cases ha
  | x::l,ys,h,a,ha=>by
    rw [List.mapM_cons] at h
    cases hx:f x with
    | none=>rw [hx] at h; simp at h
    | some y =>
      rw [hx] at h
      simp only [Option.pure_def,Option.bind_eq_bind,Option.bind_some] at h
      cases hl:l.mapM f with
      | none=>rw [hl] at h; simp at h
      | some zs =>
        rcases List.mem_cons.1 ha with e | e
        · subst e; exact ⟨y,hx⟩
        · exact mapM_mem hl a e
section
variable {H : Type} {enc : TypeId × Value → H} {P : Program} {W : World} {fuel : Nat} {t : TypeId} {cs : List Value} {d : DataW H × List MemPlace}
theorem trod_fields {fs:Array Field} (ht:P.underlying t=some (.struct fs)) (h:DataW.trod enc P W 0 (fun _=>true) true fuel t cs=some d) :
    cs.length=P.cellsOf t∧∃n,∀f∈fs.toList,∃y,DataW.trod enc P W 0 (fun _=>true) true n f.type ((cs.drop f.offset).take (P.cellsOf f.type))=some y:=by
  cases fuel with
  | zero=>simp [DataW.trod] at h
  | succ n =>
    simp only [DataW.trod,ht] at h
    by_cases hl:cs.length=P.cellsOf t
    · rw [if_pos hl] at h
      refine ⟨hl,n,fun f hf=>?_⟩
      cases hm:fs.toList.mapM fun f=>DataW.trod enc P W 0 (fun _=>true) true n f.type ((cs.drop f.offset).take (P.cellsOf f.type)) with
      | none=>rw [hm] at h; simp at h
      | some ys=>exact mapM_mem hm f hf
    · rw [if_neg hl] at h; cases h
theorem trod_items {m:Nat} {e:TypeId} (ht:P.underlying t=some (.array m e)) (h:DataW.trod enc P W 0 (fun _=>true) true fuel t cs=some d) :
    cs.length=P.cellsOf t∧∃n,∀i,i<m→∃y,DataW.trod enc P W 0 (fun _=>true) true n e ((cs.drop (i * P.cellsOf e)).take (P.cellsOf e))=some y:=by
  cases fuel with
  | zero=>simp [DataW.trod] at h
  | succ n =>
    simp only [DataW.trod,ht] at h
    by_cases hl:cs.length=P.cellsOf t
    · rw [if_pos hl] at h
      refine ⟨hl,n,fun i hi=>?_⟩
      cases hm:(List.range m).mapM fun i=>DataW.trod enc P W 0 (fun _=>true) true n e ((cs.drop (i * P.cellsOf e)).take (P.cellsOf e)) with
      | none=>rw [hm] at h; simp at h
      | some ys=>exact mapM_mem hm i (List.mem_range.2 hi)
    · rw [if_neg hl] at h; cases h
end
def allInt (P:Program):Nat→TypeId→Bool
  | 0,_=>false
  | f + 1,t=>match P.underlying t with
    | some (.int .i64)=>true
    | some (.struct fs)=>fs.toList.all (fun x=>allInt P f x.type) && (List.range (P.cellsOf t)).all fun i=>fs.toList.any fun x=>Nat.ble x.offset i && Nat.blt i (x.offset + P.cellsOf x.type)
    | some (.array n e)=>allInt P f e && (List.range (P.cellsOf t)).all fun i=>Nat.blt (i / P.cellsOf e) n && Nat.blt 0 (P.cellsOf e)
    | _=>false
def IntCells (cs:List Value):Prop:=∀(i:Nat) (c:Value),cs[i]? =some c→∃n:Int,c=Value.int .i64 n∧I64 n
theorem wf_I64 {n:Int} (h:(Lit.int .i64 n).wf=true):I64 n:=by
  have e1:IntKind.i64.min= -9223372036854775808:=by decide
  have e2:IntKind.i64.max=9223372036854775807:=by decide
  simp only [Lit.wf,e1,e2,Bool.and_eq_true,decide_eq_true_eq] at h
  exact h
theorem allInt_spec {H:Type} {enc:TypeId×Value→H} {P:Program} {W:World}:∀(f:Nat) {t:TypeId} (_:allInt P f t=true) {fuel:Nat} {cs:List Value} {d:DataW H×List MemPlace},
    DataW.trod enc P W 0 (fun _=>true) true fuel t cs=some d→IntCells cs
  | 0,_,h,_,_,_,_=>by cases h
  | f + 1,t,h,fuel,cs,d,hd=>by
    unfold allInt at h
    split at h
    · rename_i ht
      obtain ⟨n,rfl,_,hw⟩:=DataW.trod_int ht hd
      intro i c hi
      cases i with
      | zero=>simp only [List.getElem?_cons_zero,Option.some.injEq] at hi; exact ⟨n,hi.symm,wf_I64 hw⟩
      | succ i=>simp at hi
    · rename_i fs ht
      simp only [Bool.and_eq_true,List.all_eq_true,List.any_eq_true,List.mem_range,Nat.ble_eq,Nat.blt_eq] at h
      obtain ⟨h1,h2⟩:=h
      obtain ⟨hl,n,hf⟩:=trod_fields ht hd
      intro i c hi
      have hlt:i<cs.length:=(List.getElem?_eq_some_iff.1 hi).1
      obtain ⟨x,hx,ho,hu⟩:=h2 i (by omega)
      obtain ⟨y,hy⟩:=hf x hx
      refine allInt_spec f (h1 x hx) hy (i - x.offset) c ?_
      rw [List.getElem?_take,if_pos (by omega),List.getElem?_drop,show x.offset + (i - x.offset)=i by omega]
      exact hi
    · rename_i m e ht
      simp only [Bool.and_eq_true,List.all_eq_true,List.mem_range,Nat.blt_eq] at h
      obtain ⟨h1,h2⟩:=h
      obtain ⟨hl,n,hf⟩:=trod_items ht hd
      intro i c hi
      have hlt:i<cs.length:=(List.getElem?_eq_some_iff.1 hi).1
      obtain ⟨hq,hp⟩:=h2 i (by omega)
      obtain ⟨y,hy⟩:=hf _ hq
      have hmod:=Nat.mod_lt i hp
      have hdm:=Nat.div_add_mod i (P.cellsOf e)
      rw [Nat.mul_comm] at hdm
      refine allInt_spec f h1 hy (i % P.cellsOf e) c ?_
      rw [List.getElem?_take,if_pos hmod,List.getElem?_drop,hdm]
      exact hi
    · cases h
theorem opens_ints {α:Type} {P:Program} {t:TypeId} {T:Ty α} {ok:α→Prop} (k:Nat) (hk:P.cellsOf t=k) (hs:(match P.underlying t with | some (.struct _)=>true | some (.array _ _)=>true | _=>false)=true) (ha:allInt P 8 t=true)
    (mk:∀(h:Zone) (l:List Int),l.length=k→(∀n∈l,I64 n)→∃x,T.rep h (l.map fun n=> .int .i64 n) x∧ok x):Opens P t T ok:=fun H enc W fuel cs d h=>by
  have hi:=allInt_spec 8 ha h
  have hl:cs.length=k:=by
    split at hs
    · rename_i fs ht; rw [(trod_fields ht h).1,hk]
    · rename_i m e ht; rw [(trod_items ht h).1,hk]
    · cases hs
  have key:∀cs:List Value,IntCells cs→∃l:List Int,cs=l.map (fun n=> .int .i64 n)∧∀n∈l,I64 n:=by
    intro cs
    induction cs with
    | nil=>exact fun _=>⟨[],rfl,fun _ h=>by cases h⟩
    | cons c cs ih =>
      intro hc
      obtain ⟨n,rfl,hn⟩:=hc 0 c rfl
      obtain ⟨l,rfl,hl⟩:=ih (fun i c hi=>hc (i + 1) c (by simpa using hi))
      exact ⟨n::l,rfl,fun m hm=>by rcases List.mem_cons.1 hm with e | e; exact e ▸ hn; exact hl m e⟩
  obtain ⟨l,rfl,hn⟩:=key cs hi
  exact mk _ l (by simpa using hl) hn
theorem opens_slice {α:Type} {P:Program} {t e:TypeId} {T:Ty α} {ok:α→Prop} (ht:P.underlying t=some (.slice e)) (he:P.cellsOf e=T.size) (h:Opens P e T ok):Opens P t (Ty.slice T) (fun xs=>(∀x∈xs,ok x)∧xs.length≤maxLen):=fun H enc W fuel cs d hd=>by
  rcases Go.Deep.open_slice ht hd with ⟨rfl,_⟩ | ⟨a,len,cap,m,n,D,Pl,rfl,_,hl,hm,hmm,_,hx⟩
  · exact ⟨[],⟨none,0,rfl,SliceR.nil' T _⟩,⟨(fun _ h=>by cases h),by simp⟩⟩
  · simp only [if_true] at hmm
    have hall:∀i,i<len→∃x,(∃c,T.rep (Zone.all W) c x∧∀j v,c[j]? =some v→(Zone.all W).cell? ((a.add (i * T.size)).add j)=some v)∧ok x:=fun i hi=>by
      obtain ⟨cs',h1,h2⟩:=hx i (by omega)
      obtain ⟨x,hr,ho⟩:=h H enc W n cs' _ h2
      refine ⟨x,⟨cs',hr,fun j v hj=>?_⟩,ho⟩
      rw [he] at h1
      obtain ⟨_,hlen,hc⟩:=World.cells?_some h1
      have hlt:j<cs'.length:=(List.getElem?_eq_some_iff.1 hj).1
      exact (hc j (by omega)).trans hj
    have key:∀k,k≤len→∃xs:List α,xs.length=k∧(∀x∈xs,ok x)∧∀i x,xs[i]? =some x→∃c,T.rep (Zone.all W) c x∧∀j v,c[j]? =some v→(Zone.all W).cell? ((a.add (i * T.size)).add j)=some v:=by
      intro k
      induction k with
      | zero=>exact fun _=>⟨[],rfl,(fun _ h=>by cases h),(fun i x h=>by simp at h)⟩
      | succ k ih =>
        intro hk
        obtain ⟨xs,h1,h2,h3⟩:=ih (by omega)
        obtain ⟨x,hx1,hx2⟩:=hall k (by omega)
        refine ⟨xs ++ [x],by simp [h1],fun y hy=>?_,fun i y hy=>?_⟩
        · rcases List.mem_append.1 hy with e | e
          · exact h2 y e
          · simp only [List.mem_singleton] at e; exact e ▸ hx2
        · rw [List.getElem?_append] at hy
          split at hy
          · exact h3 i y hy
          · rename_i hge
            have:i - xs.length=0:=by
              have:=(List.getElem?_eq_some_iff.1 hy).1
              simp at this; omega
            rw [this] at hy
            simp only [List.getElem?_cons_zero,Option.some.injEq] at hy
            subst hy
            have:i=k:=by omega
            subst this
            exact hx1
    obtain ⟨xs,h1,h2,h3⟩:=key len (Nat.le_refl _)
    refine ⟨xs,⟨some a,cap,by rw [h1],⟨by omega,hm,(fun e=>by cases e),fun b e i x hi=>?_⟩⟩,⟨h2,by omega⟩⟩
    cases e
    exact h3 i x hi
section
variable {H : Type} {enc : TypeId × Value → H} {P : Program} {W : World} {base : Nat} {t : TypeId} {v : Value} {d : DataW H} {ps : List MemPlace}
theorem arg_agg {α:Type} {T:Ty α} {ok:α→Prop} (hs:(match P.underlying t with | some (.struct _)=>true | some (.array _ _)=>true | _=>false)=true) (hv:Value.okWide P W .any base t v) (h:DataW.Trod enc P W 0 (fun _=>true) true t v d ps) (ho:Opens P t T ok) :
    ∃cs x,v= .agg cs.toArray∧T.rep (Zone.all W) cs x∧ok x:=by
  obtain ⟨fuel,hf⟩:=h
  obtain ⟨x,hx,hok⟩:=ho H enc W fuel _ _ hf
  have:∃cs,v= .agg cs:=by
    unfold Value.okWide at hv
    split at hs
    · rename_i fs ht; rw [ht] at hv; obtain ⟨cs,e,_⟩:=hv; exact ⟨cs,e⟩
    · rename_i m e ht; rw [ht] at hv; obtain ⟨cs,e,_⟩:=hv; exact ⟨cs,e⟩
    · cases hs
  obtain ⟨cs,rfl⟩:=this
  exact ⟨cs.toList,x,rfl,hx,hok⟩
theorem arg_slice {α:Type} {e:TypeId} {T:Ty α} {ok:α→Prop} (ht:P.underlying t=some (.slice e)) (he:P.cellsOf e=T.size) (hv:Value.okWide P W .any base t v) (h:DataW.Trod enc P W 0 (fun _=>true) true t v d ps) (ho:Opens P e T ok) :
    ∃o xs cap,v= .slice o (List.length xs) cap∧SliceR T (Zone.all W) o cap xs∧(∀x∈xs,ok x)∧xs.length≤maxLen:=by
  obtain ⟨fuel,hf⟩:=h
  obtain ⟨o,len,cap,rfl⟩:=Go.WideShapes.okWide_slice ht hv
  obtain ⟨xs,⟨o',cap',e1,hs⟩,hok,hl⟩:=opens_slice ht he ho H enc W fuel _ _ hf
  simp only [Value.cells,List.cons.injEq,Value.slice.injEq,and_true] at e1
  obtain ⟨rfl,rfl,rfl⟩:=e1
  exact ⟨o,xs,cap,rfl,hs,hok,hl⟩
theorem trodAll_stays (hl:laidOutB P=true) {W':World} (hb:Below W.heap.size W W'):∀ {ts:List TypeId} {vs:List Value} {ds:List (DataW H)} {ps:List MemPlace},(ts.all fun t=>P.readableRec t && Nat.blt t P.types.size)=true →
    DataW.TrodAll enc P W 0 (fun _=>true) true ts vs ds ps→(∀p∈ps,p.block<W.heap.size)→DataW.TrodAll enc P W' 0 (fun b=>decide (b<W.heap.size)) true ts vs ds ps
  | [],[],[],_,_,h,_=>h
  | t::ts,v::vs,d::ds,_,hr,⟨p,q,h1,h2,e⟩,hlt=>by
    simp only [List.all_cons,Bool.and_eq_true,Nat.blt_eq] at hr
    subst e
    exact ⟨p,q,Below.trod hl hr.1.1 hr.1.2 h1 hb (fun x hx=>hlt x (List.mem_append_left _ hx)),trodAll_stays hl hb hr.2 h2 (fun x hx=>hlt x (List.mem_append_right _ hx)),rfl⟩
  | [],_::_,_,_,_,h,_=>h.elim
  | [],[],_::_,_,_,h,_=>h.elim
  | _::_,[],_,_,_,h,_=>h.elim
  | _::_,_::_,[],_,_,h,_=>h.elim
theorem post_true {f:Func} {s:ChangeSpec} {args:Array Value} {ds:List (DataW H)} {before:List MemPlace} {apart:Bool} {W':World} {tb:TypeId} (hl:laidOutB P=true) (hvars:s.vars=[]) (hr:(f.params.toList.all fun t=>P.readableRec t && Nat.blt t P.types.size)=true)
    (hres:f.resultTypes= #[tb]) (hu:P.underlying tb=some .bool) (hW:DataW.Whole enc P f.params.toList s.vars apart W args.toList ds [] before) (hb:Below W.heap.size W W') (hs:s.fn H (ds ++ [])={ results:=[.lit (.bool true)],args:=ds }) :
    s.post enc P f apart true false false W args (.bool true) W':=by
  have hlt:=hW.lt
  have hW0:=hW
  obtain ⟨p,q,hA,hV,rfl,_,_⟩:=hW
  rw [hvars] at hV
  obtain ⟨_,rfl⟩:=trodVars_none hV
  refine ⟨ds,[],p ++ [],[],p,[],hW0,?_,?_,?_,hb.frame _,fun h=>by cases h⟩
  · rw [hs,hres]; exact trodAll_mk1 (shut_bool hu true)
  · rw [hs]; exact trodAll_stays hl hb hr hA (fun x hx=>hlt x (by simpa using hx))
  · rw [hs,hvars]; rfl
end
end Go.Sx
namespace Go.Sx
structure A3 where
  a0:Int
  a1:Int
  a2:Int
  deriving DecidableEq
def A3T:Ty A3:=Ty.flat 3 (fun p=>[.int .i64 p.a0, .int .i64 p.a1, .int .i64 p.a2]) (fun _=>rfl) (fun _=>rfl)
end Go.Sx
