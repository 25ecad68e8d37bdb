/-
  A part of the walk and of the plain law of one given statement. No condition.
-/
import Derived.Test.YtlmgjjmighajdaaSp
import Derived.Test.YtlmgjjmighajdaaProg
set_option linter.unusedVariables false
namespace Go.Sx
open Go.Sl
variable {P : Program} {a : Act} {N : Nat} {fl : FL} {ds : List Nat} {w : World} {R : Array Oper} {m : List Nat} {S : World → Prop} {K K' : Act → World → Prop} {pl : List (Nat × Bool)} {ro : Option Nat} {c : Code} {Q : Exit → Act → World → Prop} {oF oC : List Obl} {h : Zone} {L : List Atom}
theorem look_sub {fl r:FL} (e:∀t v,look r t=some v→look fl t=some v) (hf:Fr a N fl ds):Fr a N r ds:=⟨hf.size,hf.defers,fun t v hl=>hf.look t v (e t v hl)⟩
theorem Fr.lit (hf:Fr a N fl ds) {b l:Bool} (k:Nat) (e:b=l) (hk:Sx.look fl k=some (.bool b):=by kernel_rfl):Fr a N ((k, .bool l)::fl) ds:=by
  subst e
  refine look_sub (fun t v hl=>?_) hf
  simp only [Sx.look] at hl
  cases hb:Nat.beq k t with
  | true=>rw [hb] at hl; have:=Nat.eq_of_beq_eq_true hb; subst this; simpa [hk] using hl
  | false=>rw [hb] at hl; exact hl
theorem Fr.to {r:FL} (hf:Fr a N fl ds) (hk:keepF fl (keys r)=some r:=by kernel_rfl):Fr a N r ds:=hf.keep hk
def fr3:Option (FL×List Obl×List Obl)→FL
  | some (r,_)=>r
  | none=>[]
def ob3:Option (FL×List Obl×List Obl)→Option (List Obl×List Obl)
  | some (_,o)=>some o
  | none=>none
theorem keepF_keys {fl:FL}:∀ {ks:List Nat} {r:FL},keepF fl ks=some r→keys r=ks
  | [],r,h=>by simp only [keepF,Option.some.injEq] at h; subst h; rfl
  | k::ks,r,h=>by
    simp only [keepF] at h
    split at h
    · rename_i h1 h2
      simp only [Option.some.injEq] at h
      subst h
      have:=keepF_keys h2
      simp only [keys,List.map_cons] at this ⊢
      rw [this]
    · cases h
def Keyed (X:List Nat→Option (FL×List Obl×List Obl)):Prop:=∀ks r o,X ks=some (r,o)→keys r=ks
theorem Keyed.use {X:List Nat→Option (FL×List Obl×List Obl)} (hX:Keyed X) {ks:List Nat} (e:ob3 (X ks)=some (oF,oC)):X (keys (fr3 (X ks)))=some (fr3 (X ks),oF,oC):=by
  cases h1:X ks with
  | none=>rw [h1] at e; cases e
  | some t =>
    obtain ⟨r,o⟩:=t
    rw [h1] at e
    simp only [ob3,Option.some.injEq] at e
    subst e
    show X (keys r)=some (r,oF,oC)
    rw [hX _ _ _ h1,h1]
theorem keyed_XK {os:List Value}:Keyed (evXK P R N m pl fl os):=fun ks r o e=>by
  obtain ⟨oF,oC⟩:=o
  obtain ⟨fl1,_,h2⟩:=evXK_spec e
  exact keepF_keys h2
theorem keyed_if {b:Bool} {X:List Nat→Option (FL×List Obl×List Obl)} (hX:Keyed X):Keyed (fun ks=>bif b then X ks else none):=fun ks r o e=>by
  cases b with
  | false=>cases e
  | true=>exact hX ks r o e
theorem keyed_R {os:List Value}:Keyed (evR P c N fl os):=keyed_if keyed_XK
theorem keyed_SR {os:List Value}:Keyed (evSR P c N fl os):=keyed_if keyed_R
theorem keyed_RD {os:List Value}:Keyed (evRD P c pl m N fl os):=keyed_if keyed_XK
theorem keyed_SRD {os:List Value}:Keyed (evSRD P c pl m N fl os):=keyed_if keyed_RD
theorem c_S (n:Nat) (os:List Value) (ks:List Nat) (hSw:S w) (hf:Fr a N fl ds) (hF:∀w',S w'→HA w' oF) (hC:HA w oC)
    (k:∀a',Fr a' N (fr3 (evXK P R N m (pl.take n) fl os ks)) ds→wpPlan P R m S K (pl.drop n) a' w) (he:ob3 (evXK P R N m (pl.take n) fl os ks)=some (oF,oC):=by kernel_rfl):wpPlan P R m S K pl a w :=
  p_qS n os _ oF oC hSw hf (keyed_XK.use he) hF hC k
theorem c_E (n:Nat) (os:List Value) (ks:List Nat) (hf:Fr a N fl ds) (hF:HA w oF) (hC:HA w oC)
    (k:∀a',Fr a' N (fr3 (evXK P R N m (pl.take n) fl os ks)) ds→wpPlan P R m (fun x=>x=w) K (pl.drop n) a' w) (he:ob3 (evXK P R N m (pl.take n) fl os ks)=some (oF,oC):=by kernel_rfl):wpPlan P R m (fun x=>x=w) K pl a w :=
  p_qE n os _ oF oC hf (keyed_XK.use he) hF hC k
theorem c_n (n:Nat) (os:List Value) (ks:List Nat) (hf:Fr a N fl ds) (hC:HA w oC)
    (k:∀a',Fr a' N (fr3 (evXK P R N m (pl.take n) fl os ks)) ds→wpPlan P R m (fun _=>True) K (pl.drop n) a' w) (he:ob3 (evXK P R N m (pl.take n) fl os ks)=some ([],oC):=by kernel_rfl):wpPlan P R m (fun _=>True) K pl a w :=
  p_qn n os _ oC hf (keyed_XK.use he) hC k
theorem c_z (os:List Value) (ks:List Nat) (hf:Fr a N fl ds) (hC:HA w oC)
    (k:∀a',Fr a' N (fr3 (evXK P R N m pl fl os ks)) ds→K a' w) (he:ob3 (evXK P R N m pl fl os ks)=some ([],oC):=by kernel_rfl):wpPlan P R m (fun _=>True) K pl a w :=
  p_qz os _ oC hf (keyed_XK.use he) hC k
theorem c_t (os:List Value) (ks:List Nat) (hf:Fr a N fl ds) (hC:HA w oC)
    (k:∀a',Fr a' N (fr3 (evXK P R N m pl fl os ks)) ds→K' a' w) (he:ob3 (evXK P R N m pl fl os ks)=some ([],oC):=by kernel_rfl):wpPlan P R m (fun _=>True) (fun a w=>Exit.then K' Q .normal a w) pl a w :=
  p_qt os _ oC hf (keyed_XK.use he) hC k
theorem c_tE (os:List Value) (ks:List Nat) (hf:Fr a N fl ds) (hF:HA w oF) (hC:HA w oC)
    (k:∀a',Fr a' N (fr3 (evXK P R N m pl fl os ks)) ds→K' a' w) (he:ob3 (evXK P R N m pl fl os ks)=some (oF,oC):=by kernel_rfl):wpPlan P R m (fun x=>x=w) (fun a w=>Exit.then K' Q .normal a w) pl a w :=
  p_qtE os _ oF oC hf (keyed_XK.use he) hF hC k
theorem c_q (os:List Value) (ks:List Nat) (hf:Fr a N fl ds) (hC:HA w oC)
    (k:∀a',Fr a' N (fr3 (evR P c N fl os ks)) ds→Q .normal a' w) (he:ob3 (evR P c N fl os ks)=some ([],oC):=by kernel_rfl):c.cw ro P Q a w :=
  w_q os _ oC hf (keyed_R.use he) hC k
theorem c_sq (os:List Value) (ks:List Nat) (hf:Fr a N fl ds) (hC:HA w oC)
    (k:∀a',Fr a' N (fr3 (evSR P c N fl os ks)) ds→(cr c).cw ro P Q a' w) (he:ob3 (evSR P c N fl os ks)=some ([],oC):=by kernel_rfl):c.cw ro P Q a w :=
  w_sq os _ oC hf (keyed_SR.use he) hC k
theorem c_qD (pl:List (Nat×Bool)) (m:List Nat) (os:List Value) (ks:List Nat) (hf:Fr a N fl ds) (hF:HA w.drew oF) (hC:HA w.drew oC)
    (k:∀a',Fr a' N (fr3 (evRD P c pl m N fl os ks)) ds→Q .normal a' w.drew) (he:ob3 (evRD P c pl m N fl os ks)=some (oF,oC):=by kernel_rfl):c.cw ro P Q a w :=
  w_qD pl m os _ oF oC hf (keyed_RD.use he) hF hC k
theorem c_sqD (pl:List (Nat×Bool)) (m:List Nat) (os:List Value) (ks:List Nat) (hf:Fr a N fl ds) (hF:HA w.drew oF) (hC:HA w.drew oC)
    (k:∀a',Fr a' N (fr3 (evSRD P c pl m N fl os ks)) ds→(cr c).cw ro P Q a' w.drew) (he:ob3 (evSRD P c pl m N fl os ks)=some (oF,oC):=by kernel_rfl):c.cw ro P Q a w :=
  w_sqD pl m os _ oF oC hf (keyed_SRD.use he) hF hC k
def iAt:List (Nat×Bool)→Nat
  | []=>0
  | (i,_)::_=>i
def dAt (R:Array Oper) (pl:List (Nat×Bool)):Option Nat:=match R[iAt pl]? with
  | some o=>o.dst
  | none=>none
theorem c_call {f:FuncId} {args:Array Value} (hf:Fr a N fl ds)
    {Φ:Value→World→Prop} (hc:Calls P f args w fun e w'=>∃v,e= .returned v∧Φ v w')
    (k:∀v w' a',Φ v w'→Fr a' N (putF fl (dAt R pl) v) ds→(m.contains (iAt pl)=false→S w')∧wpPlan P R m S K pl.tail a' w')
    (ho:callAt P R N pl fl=some (iAt pl,dAt R pl,f,args):=by kernel_rfl):wpPlan P R m S K pl a w:=p_call hf ho hc k
theorem c_box (cs:List Value) (T:TypeId) (hS:St h L w) (hf:Fr a N fl ds)
    (k:∀b w' a',St h (box b cs T::L) w'→Fr a' N (putF fl (dAt R pl) (.pointer (some ⟨b,0,none⟩))) ds→(m.contains (iAt pl)=false→S w')∧wpPlan P R m S K pl.tail a' w')
    (he:∀b,newAt P R N pl fl b=some (iAt pl,dAt R pl, .cells cs.toArray T (0,0), .pointer (some ⟨b,0,none⟩)):=by intro b; kernel_rfl):wpPlan P R m S K pl a w:=p_box hS hf he k
def offAt (P:Program) (R:Array Oper) (N:Nat) (pl:List (Nat×Bool)) (fl:FL):Nat:=match storeAt P R N pl fl with
  | some (_,A,_)=>A.off
  | none=>0
def vsAt (P:Program) (R:Array Oper) (N:Nat) (pl:List (Nat×Bool)) (fl:FL):List Value:=match storeAt P R N pl fl with
  | some (_,_,vs)=>vs
  | none=>[]
theorem c_st (j:Nat) (cs':List Value) {b:Nat} {cs:List Value} {T:TypeId} (hS:St h L w) (hf:Fr a N fl ds) (hj:L[j]? =some (box b cs T))
    (k:∀w' a',St h (L.set j (box b cs' T)) w'→Fr a' N fl ds→(m.contains (iAt pl)=false→S w')∧wpPlan P R m S K pl.tail a' w')
    (ho:storeAt P R N pl fl=some (iAt pl,⟨b,offAt P R N pl fl,none⟩,vsAt P R N pl fl):=by kernel_rfl)
    (hfit:(Nat.ble (offAt P R N pl fl + (vsAt P R N pl fl).length) cs.length && oneCells (vsAt P R N pl fl))=true:=by kernel_rfl)
    (hcs:splice cs (offAt P R N pl fl) (vsAt P R N pl fl)=cs':=by kernel_rfl):wpPlan P R m S K pl a w:=p_store_eq hS hf hj ho hfit hcs k
theorem c_rt (os:List Value) (v:Value) {fn:Func} {R':Ending→World→Prop} {obs:List Obl} (hf:Fr a N fl) (hob:HA w obs) (k:R' (.returned v) w) (he:resAt P fn fl os=some (v,obs):=by kernel_rfl):postM P fn R' .ret a w:=p_ret hf he hob k
theorem c_fall (os:List Value) (v:Value) {fn:Func} {R':Ending→World→Prop} {obs:List Obl} (hf:Fr a N fl) (hob:HA w obs) (k:R' (.returned v) w) (he:resAt P fn fl os=some (v,obs):=by kernel_rfl):postM P fn R' .normal a w:=p_fall hf he hob k
theorem c_seq (k:(cl c).cw ro P (Exit.then (fun a w=>(cr c).cw ro P Q a w) Q) a w) (hc:isSeq c=true:=by kernel_rfl):c.cw ro P Q a w:=w_seq hc k
theorem c_block (id:Nat) (k:(cl c).cw ro P (Exit.inBlock id Q) a w) (hc:blockId c=some id:=by kernel_rfl):c.cw ro P Q a w:=w_block hc k
theorem c_exit (id:Nat) (k:Q (.exit id) a w) (hc:exitId c=some id:=by kernel_rfl):c.cw ro P Q a w:=w_exit hc k
theorem c_ret (k:Q .ret a w) (hc:isRet c=true:=by kernel_rfl):c.cw ro P Q a w:=w_ret hc k
theorem c_skip (k:Q .normal a w) (hc:isSkip c=true:=by kernel_rfl):c.cw ro P Q a w:=w_skip hc k
theorem c_if (b:Bool) (hf:Fr a N fl ds) (kt:b=true→(cl c).cw ro P Q a w) (ke:b=false→(cr c).cw ro P Q a w) (hc:condV c fl=some (.bool b):=by kernel_rfl):c.cw ro P Q a w:=w_if hf hc kt ke
theorem c_mid (M:Act→World→Prop) (k1:(cl c).cw ro P (Exit.then M Q) a w) (k2:∀a w,M a w→(cr c).cw ro P Q a w) (hc:isSeq c=true:=by kernel_rfl):c.cw ro P Q a w:=w_mid hc M k1 k2
theorem c_sr (k:wpPlan P (cops (cl c)) [] (fun _=>True) (fun a w=>Exit.then (fun a w=>(cr c).cw ro P Q a w) Q .normal a w) (planSeq (cl c)) a w) (hc:(isSeq c && (isReg false (cl c) && noDefer (cops (cl c))))=true:=by kernel_rfl):c.cw ro P Q a w:=w_sr hc k
theorem c_reg (k:wpPlan P (cops c) [] (fun _=>True) (fun a w=>Q .normal a w) (planSeq c) a w) (hc:(isReg false c && noDefer (cops c))=true:=by kernel_rfl):c.cw ro P Q a w:=w_reg hc k
theorem c_dt (k:K' a w) (hp:pl.isEmpty=true:=by kernel_rfl):wpPlan P R m S (fun a w=>Exit.then K' Q .normal a w) pl a w:=p_dt hp k
theorem c_done (k:K a w) (hp:pl.isEmpty=true:=by kernel_rfl):wpPlan P R m S K pl a w:=p_done hp k
theorem c_loop (T:Nat→Act→World→Prop) (n:Nat) (h0:T n a w)
    (k:∀n a w,T n a w→(cl c).cw ro P (Exit.then (fun a' w'=>∃j,j<n∧T j a' w') Q) a w) (hc:isLoop c=true:=by kernel_rfl):c.cw ro P Q a w:=w_loop hc T n h0 k
theorem c_regD (pl:List (Nat×Bool)) (m:List Nat) (S:World→Prop) (hS0:S w.drew)
    (k:wpPlan P (cops c) m S (fun a w=>Q .normal a w) pl a w.drew) (hm:P.follows .mixedOrders=true:=by kernel_rfl) (hB:drawOK c pl m=true:=by kernel_rfl):c.cw ro P Q a w:=w_regD hm pl m S hB hS0 k
theorem zr {h:Zone}:h.le h:=Zone.le_refl _
theorem zt {a b c:Zone} (h:a.le b) (k:b.le c):a.le c:=Zone.le_trans h k
theorem bft (b:Bool):b=true∨b=false:=Bool.eq_false_or_eq_true b
end Go.Sx
set_option linter.unusedVariables false
namespace Go.Sx
open Go.Sl
def groupB (ops:Array Oper) (is:List Nat):Nat→Array Bool→List Bool→Bool
  | 0,listed,goal=>listed.toList == goal
  | n + 1,listed,goal=> !(Region.ready .any ops listed).isEmpty && (Region.ready .any ops listed).all fun i=>is.contains i && groupB ops is n (listed.setIfInBounds i true) goal
theorem k_puts {β:Type} {f:β→Value} {P:Program} {ops:Array Oper} {m:List Nat} {S:World→Prop} {K:Act→World→Prop} {h:Zone} {L:List Atom} {r N:Nat} {fl:FL} {ds:List Nat}
    (G:List (Nat×Int×β)) (t:TypeId) {z:Value} (hM:MapOK P t z)
    (hput:∀g∈G,putAt ops N [(g.1,false)] fl=some (g.1,t,r,g.2.1,f g.2.2))
    (hkey:∀g∈G,∀g'∈G,g.2.1=g'.2.1→g=g') (hidx:∀g∈G,∀g'∈G,g.1=g'.1→g=g')
    (hS:∀D w,St h (mapA f r D::L) w→S w) (goal:Array Bool) (hall:∀g∈G,goal.getD g.1 false=true) (k:Nat)
    (fin:∀a w D,St h (mapA f r D::L) w→Fr a N fl ds→At ops m S goal w→(∀j u,getK D j=some u↔∃g∈G,g.2.1=j∧g.2.2=u)→anyK P ops K m S k goal a w) :
    ∀n (listed:Array Bool) D a w,groupB ops (G.map (·.1)) n listed goal.toList=true→At ops m S listed w→St h (mapA f r D::L) w→Fr a N fl ds →
      (∀j u,(j,u)∈D↔∃g∈G,listed.getD g.1 false=true∧g.2.1=j∧g.2.2=u)→anyK P ops K m S (n + k) listed a w
  | 0,listed,D,a,w,hB,hA,hS0,hf,hD=>by
    have e:listed.toList=goal.toList:=eq_of_beq hB
    have e2:listed=goal:=by
      have:=congrArg List.toArray e
      simpa using this
    subst e2
    rw [Nat.zero_add]
    refine fin a w D hS0 hf hA fun j u=>?_
    rw [getK_mem (hS0.mapRise (j:=0) rfl),hD]
    exact ⟨fun ⟨g,h1,_,h3⟩=>⟨g,h1,h3⟩,fun ⟨g,h1,h3⟩=>⟨g,h1,hall g h1,h3⟩⟩
  | n + 1,listed,D,a,w,hB,hA,hS0,hf,hD=>by
    simp only [groupB,Bool.and_eq_true,Bool.not_eq_true',List.all_eq_true] at hB
    obtain ⟨hne,hB⟩:=hB
    have e0:n + 1 + k=(n + k) + 1:=by omega
    rw [e0]
    refine k_any _ hA rfl hne fun i hi=>?_
    obtain ⟨hc,hB'⟩:=hB i hi
    have hc':i∈G.map (·.1):=by simpa using hc
    obtain ⟨g,hg,rfl⟩:=List.mem_map.1 hc'
    have hlt:=unlisted_lt (mem_ready.1 hi).1
    refine p_put (j:=0) hS0 hf rfl (hput g hg) hM fun w' a' hS' hf'=>⟨fun _=>hS _ _ hS',fun hA'=>?_⟩
    refine k_puts G t hM hput hkey hidx hS goal hall k fin n _ _ a' w' hB' hA' hS' hf' fun j u=>?_
    rw [putK_mem (hS0.mapRise (j:=0) rfl),hD]
    constructor
    · rintro (⟨rfl,rfl⟩ | ⟨hj,g',h1,h2,h3⟩)
      · exact ⟨g,hg,by simp [Array.getD_eq_getD_getElem?,hlt],rfl,rfl⟩
      · exact ⟨g',h1,getD_set_true h2,h3⟩
    · rintro ⟨g',h1,h2,h3,h4⟩
      by_cases e:g'.1=g.1
      · have:=hidx _ h1 _ hg e
        subst this
        exact .inl ⟨h3.symm,h4.symm⟩
      · rw [getD_set_ne false (fun x=>e x.symm)] at h2
        refine .inr ⟨fun hj=>e ?_,g',h1,h2,h3,h4⟩
        rw [hkey _ h1 _ hg (by rw [h3,hj])]
end Go.Sx
set_option linter.unusedVariables false
namespace Go.Proofs.Ytlmgjjmighajdaa
open Go.Sl Go.Sx
theorem el22:ElemOK Try.prog 22 33 4 (.agg #[.int .i64 0, .int .i64 0, .int .i64 0, .int .i64 0]):=ElemOK.of (i:=(Try.prog.info? 33).getD default) (by kernel_rfl) (by kernel_rfl) (by kernel_rfl) (by kernel_rfl)
theorem el23:ElemOK Try.prog 23 40 1 (.agg #[.slice none 0 0]):=ElemOK.of (i:=(Try.prog.info? 40).getD default) (by kernel_rfl) (by kernel_rfl) (by kernel_rfl) (by kernel_rfl)
theorem el38:ElemOK Try.prog 38 56 2 (.agg #[.int .i64 0, .int .i64 0]):=ElemOK.of (i:=(Try.prog.info? 56).getD default) (by kernel_rfl) (by kernel_rfl) (by kernel_rfl) (by kernel_rfl)
theorem el53:ElemOK Try.prog 53 3 1 (.int .i64 0):=ElemOK.of (i:=(Try.prog.info? 3).getD default) (by kernel_rfl) (by kernel_rfl) (by kernel_rfl) (by kernel_rfl)
theorem el64:ElemOK Try.prog 64 28 5 (.agg #[.int .i64 0, .int .i64 0, .int .i64 0, .int .i64 0, .int .i64 0]):=ElemOK.of (i:=(Try.prog.info? 28).getD default) (by kernel_rfl) (by kernel_rfl) (by kernel_rfl) (by kernel_rfl)
theorem el78:ElemOK Try.prog 78 83 5 (.agg #[.int .i64 0, .int .i64 0, .int .i64 0, .int .i64 0, .int .i64 0]):=ElemOK.of (i:=(Try.prog.info? 83).getD default) (by kernel_rfl) (by kernel_rfl) (by kernel_rfl) (by kernel_rfl)
theorem el123:ElemOK Try.prog 123 117 1 (.map none):=ElemOK.of (i:=(Try.prog.info? 117).getD default) (by kernel_rfl) (by kernel_rfl) (by kernel_rfl) (by kernel_rfl)
theorem el178:ElemOK Try.prog 178 4 1 (.bool false):=ElemOK.of (i:=(Try.prog.info? 4).getD default) (by kernel_rfl) (by kernel_rfl) (by kernel_rfl) (by kernel_rfl)
theorem mp117:MapOK Try.prog 117 (Value.bool false):=MapOK.of (kt:=3) (et:=4) (by kernel_rfl) (by kernel_rfl) (by kernel_rfl)
theorem mp164:MapOK Try.prog 164 (rowV zrow):=MapOK.of (kt:=3) (et:=163) (by kernel_rfl) (by kernel_rfl) (by kernel_rfl)
end Go.Proofs.Ytlmgjjmighajdaa
set_option linter.unusedVariables false
namespace Go.Proofs.Ytlmgjjmighajdaa
open Go.Sl Go.Sx
theorem mp144:MapOK Try.prog 144 (Value.int .i64 (0:Int)):=MapOK.of (kt:=3) (et:=3) (by kernel_rfl) (by kernel_rfl) (by kernel_rfl)
theorem mp145:MapOK Try.prog 145 (Value.map none):=MapOK.of (kt:=3) (et:=144) (by kernel_rfl) (by kernel_rfl) (by kernel_rfl)
def goalL:Array Bool:= #[true,true,true,true,true,true,true,true,true,false,true,true,true,true,true,false,false]
def pickM (k:Int) (mA mB mC:Option Nat):Option Nat:=if k=1∨k=2 then mA else if k=3 then mB else if k=5 then mC else none
set_option maxRecDepth 100000 in
theorem pick_ok {ro:Option Nat} {Q:Exit→Act→World→Prop} {c:Code} {h:Zone} {L:List Atom} {w:World} {a:Act} {ds:List Nat} {i:Int} {bA bB bC bD jA jB jC jD cap:Nat} {mA mB mC:Option Nat} {vA:Value} {o:Option Addr} {xs:List Deed} {p:Deed}
    (hS:St h L w) (hf:Fr a 43 [(0,vI i),(3,pB bA 0),(4,pB bB 0),(5,pB bC 0),(6,pB bD 0),(8,vA)] ds)
    (h3:L[jA]? =some (box bA [.map mA] 144)) (h4:L[jB]? =some (box bB [.map mB] 144)) (h5:L[jC]? =some (box bC [.map mC] 144)) (h6:L[jD]? =some (box bD [.slice o xs.length cap] 64))
    (hx:SliceR DeedT h o cap xs) (hp:getI xs i=some p)
    (k:∀w' a',St h L w'→Fr a' 43 [(10, .map (pickM p.kind mA mB mC)),(0,vI i),(3,pB bA 0),(4,pB bB 0),(5,pB bC 0),(6,pB bD 0),(8,vA)] ds→Q .normal a' w')
    (hc:c=cl (cr (Try.f104.body.getD .skip)):=by kernel_rfl):c.cw ro Try.prog Q a w:=by
  subst hc
  obtain ⟨ad,ho,hb,cc,hcc,hk⟩:=hx.getI hp
  subst hcc
  have hS1:=hS.drew
  have s1:Sub h L _:=Sub.of zr hS1
  refine w_regB (by kernel_rfl) [15,16] (Sub h L) (by kernel_rfl) ?_
  refine k_seg' 7 [(1,true),(3,true),(5,true),(7,true),(10,true),(11,true),(12,true),(13,true),(14,true),(0,false)] (by kernel_rfl) (by kernel_rfl) (At.start s1) (by kernel_rfl) ?_
  refine c_S 9 [.map mA, .map mA, .map mB, .map mC, .slice o xs.length cap, .pointer (some ad),vI p.kind] [0,3,4,5,6,8,14,15,16,17,23] s1 hf (fun _ s=>(.cell (s.box h3 (j:=0) rfl) (.cell (s.box h3 (j:=0) rfl) (.cell (s.box h4 (j:=0) rfl) (.cell (s.box h5 (j:=0) rfl) (.cell (s.box h6 (j:=0) rfl) (.prop ho (.prop hb (.cell (s.cell (hk 0 _ rfl)) .nil))))))))) .nil fun a1 hf1=>?_
  refine p_makeMap (i:=0) (d:=some 13) Value.map hS1 hf1 (fun b=>by kernel_rfl) fun b w1 a2 hS2 hf2=>⟨fun _=>Sub.of zr (St.drop 1 hS2),?_⟩
  refine p_done (by kernel_rfl) ?_
  intro hA1
  have hf3:Fr a2 43 [(13, .map (some b)),(0,vI i),(3,pB bA 0),(4,pB bB 0),(5,pB bC 0),(6,pB bD 0),(8,vA),(14, .map mA),(15, .map mA),(16, .map mB),(17, .map mC),(23,vI p.kind)] ds:=hf2.to
  refine k_puts (f:=Value.map) (ops:=cops (cl (cr (Try.f104.body.getD .skip)))) (m:=[15,16]) (S:=Sub h L) (L:=L) (h:=h) [(2,1,mA),(4,2,mA),(6,3,mB),(8,5,mC)] 145 mp145 ?_ ?_ ?_ (fun D w hs=>Sub.of zr (St.drop 1 hs)) goalL ?_ 3 ?_ 4 _ [] a2 w1 (by kernel_rfl) hA1 hS2 hf3 ?_
  · intro g hg
    rcases List.mem_cons.1 hg with rfl | hg
    · kernel_rfl
    · rcases List.mem_cons.1 hg with rfl | hg
      · kernel_rfl
      · rcases List.mem_cons.1 hg with rfl | hg
        · kernel_rfl
        · rw [List.mem_singleton] at hg; subst hg; kernel_rfl
  · intro g hg g' hg' e
    simp only [List.mem_cons,List.not_mem_nil,or_false] at hg hg'
    rcases hg with rfl | rfl | rfl | rfl <;> rcases hg' with rfl | rfl | rfl | rfl <;> first | rfl | (simp at e)
  · intro g hg g' hg' e
    simp only [List.mem_cons,List.not_mem_nil,or_false] at hg hg'
    rcases hg with rfl | rfl | rfl | rfl <;> rcases hg' with rfl | rfl | rfl | rfl <;> first | rfl | (simp at e)
  · intro g hg
    simp only [List.mem_cons,List.not_mem_nil,or_false] at hg
    rcases hg with rfl | rfl | rfl | rfl <;> rfl
  · intro a3 w3 D hS3 hf4 hA3 hD
    have s3:Sub h L _:=Sub.of zr (St.drop 1 hS3)
    refine k_seg' 0 [(9,false),(15,false),(16,false)] (by kernel_rfl) (by kernel_rfl) hA3 (by kernel_rfl) ?_
    refine c_S 1 [] [0,3,4,5,6,8,18,23] s3 hf4 (fun _ _=> .nil) .nil fun a4 hf5=>?_
    refine p_lookup (i:=15) (d:=some 24) (t:=145) (o:=some b) (k:=p.kind) (c:=false) (z:=none) (D:=D) hf5 (by kernel_rfl) mp145 (hS3.mapLook (j:=0) rfl) fun a5 hf6=>⟨fun e=>absurd e (by decide),?_⟩
    have el:lkK D p.kind none=pickM p.kind mA mB mC:=by
      unfold lkK pickM
      have hno:∀u,getK D p.kind=some u→∃g∈([(2,1,mA),(4,2,mA),(6,3,mB),(8,5,mC)]:List (Nat×Int×Option Nat)),g.2.1=p.kind∧g.2.2=u:=fun u hu=>(hD _ _).1 hu
      by_cases h1:p.kind=1
      · rw [(hD p.kind mA).2 ⟨(2,1,mA),by simp,h1.symm,rfl⟩,if_pos (.inl h1)]; rfl
      · by_cases h2:p.kind=2
        · rw [(hD p.kind mA).2 ⟨(4,2,mA),by simp,h2.symm,rfl⟩,if_pos (.inr h2)]; rfl
        · by_cases h3:p.kind=3
          · rw [(hD p.kind mB).2 ⟨(6,3,mB),by simp,h3.symm,rfl⟩,if_neg (by omega),if_pos h3]; rfl
          · by_cases h5:p.kind=5
            · rw [(hD p.kind mC).2 ⟨(8,5,mC),by simp,h5.symm,rfl⟩,if_neg (by omega),if_neg h3,if_pos h5]; rfl
            · rw [if_neg (by omega),if_neg h3,if_neg h5]
              cases hg:getK D p.kind with
              | none=>rfl
              | some u =>
                exfalso
                obtain ⟨g,hgm,e1,e2⟩:=hno u hg
                simp only [List.mem_cons,List.not_mem_nil,or_false] at hgm
                rcases hgm with rfl | rfl | rfl | rfl <;> simp at e1 <;> omega
    have hf7:Fr a5 43 [(24, .map (pickM p.kind mA mB mC)),(0,vI i),(3,pB bA 0),(4,pB bB 0),(5,pB bC 0),(6,pB bD 0),(8,vA)] ds:=by
      have:=hf6
      simp only [cond_false] at this
      rw [el] at this
      exact this.to
    refine c_S 1 [] [10,0,3,4,5,6,8] s3 hf7 (fun _ _=> .nil) .nil fun a6 hf8=>?_
    refine p_done (by kernel_rfl) ?_
    intro hA4
    refine k_done' (by kernel_rfl) (by kernel_rfl) ?_
    exact k _ _ (St.drop 1 hS3) hf8.to
  · intro j u
    constructor
    · intro e; cases e
    · rintro ⟨g,hg,h1,_⟩
      exfalso
      simp only [List.mem_cons,List.not_mem_nil,or_false] at hg
      rcases hg with rfl | rfl | rfl | rfl <;> cases h1
theorem pick1 {k:Int} {mA mB mC:Option Nat} (h:((k == 1) || (k == 2))=true):pickM k mA mB mC=mA:=by
  unfold pickM; rw [if_pos (by simpa using h)]
theorem pick2 {k:Int} {mA mB mC:Option Nat} (h:((k == 1) || (k == 2))=false) (h3:(k == 3)=true):pickM k mA mB mC=mB:=by
  unfold pickM; rw [if_neg (by simpa using h),if_pos (by simpa using h3)]
theorem pick3 {k:Int} {mA mB mC:Option Nat} (h:((k == 1) || (k == 2))=false) (h3:(k == 3)=false) (h5:(k == 5)=true):pickM k mA mB mC=mC:=by
  unfold pickM; rw [if_neg (by simpa using h),if_neg (by simpa using h3),if_pos (by simpa using h5)]
theorem pick4 {k:Int} {mA mB mC:Option Nat} (h:((k == 1) || (k == 2))=false) (h3:(k == 3)=false) (h5:(k == 5)=false):pickM k mA mB mC=none:=by
  unfold pickM; rw [if_neg (by simpa using h),if_neg (by simpa using h3),if_neg (by simpa using h5)]
end Go.Proofs.Ytlmgjjmighajdaa
