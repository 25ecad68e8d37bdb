/-
  A part of the walk and of the plain law of one given statement. No condition.
-/
import Derived.Test.YtlmgjjmighajdaaPB
import Derived.Test.YtlmgjjmighajdaaDC
set_option linter.unusedSimpArgs false
set_option linter.unusedVariables false
namespace Go.Proofs.Ytlmgjjmighajdaa
open Go.Sl Go.Sx
theorem F22_l2_eq {f:Nat} {k3:Int→Option Int} {lots:List Lot} (hl:LotsOk lots) (y:Int) {hold:List (List Part)} (h4:hold.length≤4) (hf:40<f) :
    ((∀p∈hold,GoodHeap lots p)∧F22_l2 f k3 lots y hold f 0=(if sumH hold≤100000000 then k3 (w64 (y + 1)) else some 62))∨((¬ ∀p∈hold,GoodHeap lots p)∧F22_l2 f k3 lots y hold f 0=some 62):=by
  by_cases hall:∀p∈hold,GoodHeap lots p
  · left
    refine ⟨hall,?_⟩
    have key:=loop_all0 (L:=F22_l2 f k3 lots y hold) (len:=hold.length) (good:=fun j=>True) (no:=some 62) (yes:=(if sumH hold≤100000000 then k3 (w64 (y + 1)) else some 62)) (fun n i hi=>by
      have hg:=hall _ (List.getElem_mem hi)
      simp only [F22_l2,lt_len,hi,decide_true,cond_true,getI_nat hi,Option.bind_some,F76_73]
      rcases F73_eq (f:=f) (l:=hold[i]) hf with ⟨_,e⟩ | ⟨hn,_⟩
      · rw [e]
        have hne:¬ hold[i].length=0:=fun e=>hg.ne (List.eq_nil_of_length_eq_zero e)
        have hne':((hold[i].length:Int) == 0)=false:=by simpa using (show ¬ (hold[i].length:Int)=0 by omega)
        simp only [Option.bind_some,Bool.not_true,cond_false,F22_j1,hne']
        rcases F22_l3_eq (k1:=F22_l2 f k3 lots y hold n) hl hi hg.ok.1 hf with ⟨_,e2⟩ | ⟨hn,_⟩
        · exact .inl ⟨trivial,by rw [e2,succ_w (by omega)]⟩
        · exact absurd hg.lots hn
      · exact absurd hg.ok hn) (fun n=>by
        have e:=F75_eq (f:=f) h4 (fun x hx=>(hall x hx).ok) hf
        simp only [F22_l2,lt_len,Nat.lt_irrefl,decide_false,cond_false,F77_75,e,Option.bind_some]
        by_cases hs:sumH hold≤100000000
        · have:¬ sumH hold > 100000000:=by omega
          simp [hs,this]
        · have:sumH hold > 100000000:=by omega
          simp [hs,this]) (n:=f) (by omega)
    rcases key with ⟨_,e⟩ | ⟨hn,_⟩
    · exact e
    · exact absurd (fun _ _=>trivial) hn
  · right
    refine ⟨hall,?_⟩
    have key:=loop_all0 (L:=F22_l2 f k3 lots y hold) (len:=hold.length) (good:=fun j=>∀h:j<hold.length,GoodHeap lots hold[j]) (no:=some 62) (yes:=F22_l2 f k3 lots y hold 1 (hold.length:Int)) (fun n i hi=>by
      simp only [F22_l2,lt_len,hi,decide_true,cond_true,getI_nat hi,Option.bind_some,F76_73]
      rcases F73_eq (f:=f) (l:=hold[i]) hf with ⟨hok,e⟩ | ⟨hn,e⟩
      · rw [e]
        by_cases hne:hold[i]=[]
        · exact .inr ⟨fun k=>(k trivial).ne hne,by simp [hne,F22_j1]⟩
        · have hne':((hold[i].length:Int) == 0)=false:=by
            have:¬ hold[i].length=0:=fun e=>hne (List.eq_nil_of_length_eq_zero e)
            simpa using (show ¬ (hold[i].length:Int)=0 by omega)
          simp only [Option.bind_some,Bool.not_true,cond_false,F22_j1,hne']
          rcases F22_l3_eq (k1:=F22_l2 f k3 lots y hold n) hl hi hok.1 hf with ⟨hp,e2⟩ | ⟨hn,e2⟩
          · exact .inl ⟨fun _=>⟨hok,hne,hp⟩,by rw [e2,succ_w (by omega)]⟩
          · exact .inr ⟨fun k=>hn (k trivial).lots,e2⟩
      · exact .inr ⟨fun k=>hn (k trivial).ok,by simp [e,F22_j1]⟩) (fun n=>by simp [F22_l2]) (n:=f) (by omega)
    rw [allMem] at key
    rcases key with ⟨h,_⟩ | ⟨_,e⟩
    · exact absurd h hall
    · exact e
structure StockOk (lots:List Lot) (holds:List (List (List Part))):Prop where
  lok:LotsOk lots
  hok:∀l∈holds,GoodHold lots l
theorem F22_eq {f:Nat} {lots:List Lot} {holds:List (List (List Part))} (h9:holds.length=9) (hf:40<f):(StockOk lots holds∧F22 f lots holds=some 0)∨(¬ StockOk lots holds∧F22 f lots holds=some 62):=by
  unfold F22
  rcases F19_eq (l:=lots) hf with ⟨hl,e⟩ | ⟨hl,e⟩
  · rw [F20_19,e]
    have key:=loop_all0 (L:=F22_l1 f lots holds) (len:=9) (good:=fun j=>∀h:j<holds.length,GoodHold lots holds[j]) (no:=some 62) (yes:=some 0) (fun n i hi=>by
      have hi':i<holds.length:=by omega
      have hlt:decide ((i:Int)<9)=true:=by simpa using (show (i:Int)<9 by omega)
      simp only [F22_l1,hlt,cond_true,getI_nat hi',Option.bind_some]
      by_cases h4:holds[i].length≤4
      · have h4':decide ((holds[i].length:Int) > 4)=false:=by simpa using (show (holds[i].length:Int)≤4 by omega)
        rw [h4',cond_false]
        rcases F22_l2_eq (k3:=F22_l1 f lots holds n) hl (i:Int) h4 hf with ⟨hg,e⟩ | ⟨hg,e⟩
        · by_cases hs:sumH holds[i]≤100000000
          · exact .inl ⟨fun _=>⟨h4,hg,hs⟩,by rw [e,if_pos hs,succ_w (by omega)]⟩
          · exact .inr ⟨fun k=>hs (k hi').sum,by rw [e,if_neg hs]⟩
        · exact .inr ⟨fun k=>hg (k hi').heaps,e⟩
      · have h4':decide ((holds[i].length:Int) > 4)=true:=by simpa using (show (holds[i].length:Int) > 4 by omega)
        exact .inr ⟨fun k=>h4 (k hi').len,by rw [h4',cond_true]⟩) (fun n=>by simp [F22_l1]) (n:=f) (by omega)
    rw [← h9,allMem] at key
    rcases key with ⟨h,e⟩ | ⟨h,e⟩
    · exact .inl ⟨⟨hl,h⟩,by simpa using e⟩
    · exact .inr ⟨fun k=>h k.hok,by simpa using e⟩
  · exact .inr ⟨fun k=>hl k.lok,by rw [F20_19,e]; simp⟩
def deeds:List (Int×DRow):=putK (putK (putK (putK (putK (putK ([]) 1 (⟨true,false,true,true,(some 138)⟩:DRow)) 2 (⟨true,false,true,true,(some 139)⟩:DRow)) 3 (⟨false,true,false,true,(some 140)⟩:DRow)) 4 (⟨false,true,true,true,(some 141)⟩:DRow)) 5 (⟨false,true,false,true,(some 142)⟩:DRow)) 6 (⟨false,true,false,false,(some 143)⟩:DRow)
theorem F125_eq (f:Nat):F125 f=some deeds:=rfl
theorem deeds_at (k:Int):(k=1∧getK deeds k=some ⟨true,false,true,true,some 138⟩)∨(k=2∧getK deeds k=some ⟨true,false,true,true,some 139⟩)∨(k=3∧getK deeds k=some ⟨false,true,false,true,some 140⟩) ∨
    (k=4∧getK deeds k=some ⟨false,true,true,true,some 141⟩)∨(k=5∧getK deeds k=some ⟨false,true,false,true,some 142⟩)∨(k=6∧getK deeds k=some ⟨false,true,false,false,some 143⟩)∨((k<1∨6<k)∧getK deeds k=none):=by
  by_cases h1:k=1
  · subst h1; exact .inl ⟨rfl,rfl⟩
  by_cases h2:k=2
  · subst h2; exact .inr (.inl ⟨rfl,rfl⟩)
  by_cases h3:k=3
  · subst h3; exact .inr (.inr (.inl ⟨rfl,rfl⟩))
  by_cases h4:k=4
  · subst h4; exact .inr (.inr (.inr (.inl ⟨rfl,rfl⟩)))
  by_cases h5:k=5
  · subst h5; exact .inr (.inr (.inr (.inr (.inl ⟨rfl,rfl⟩))))
  by_cases h6:k=6
  · subst h6; exact .inr (.inr (.inr (.inr (.inr (.inl ⟨rfl,rfl⟩)))))
  refine .inr (.inr (.inr (.inr (.inr (.inr ⟨by omega,?_⟩)))))
  have g:∀j:Int,k≠j→((j == k)=false):=fun j h=>by simpa using fun e=>h e.symm
  show getK [(1,_),(2,_),(3,_),(4,_),(5,_),(6,_)] k=none
  simp [getK,g 1 h1,g 2 h2,g 3 h3,g 4 h4,g 5 h5,g 6 h6]
theorem F130_eq (f:Nat) (x:Int):F130 f x=some (decide (0≤x∧x≤8)):=by unfold F130; simp only [F71_eq,Option.bind_some]
theorem F118_eq (f:Nat) (x:Int):F118 f x=some (decide (0≤x∧x≤8)):=by unfold F118; simp only [F72_eq,Option.bind_some]
end Go.Proofs.Ytlmgjjmighajdaa
set_option linter.unusedSimpArgs false
set_option linter.unusedVariables false
namespace Go.Proofs.Ytlmgjjmighajdaa
open Go.Sl Go.Sx
theorem F56_has {f:Nat} {l:List Lot} (hl:l.length≤40) (x:Int) (hf:40<f):∃r,F56 f l x=some r∧(decide (r≥0)=decide (Has l x))∧(decide (r<0)= !decide (Has l x)):=by
  rcases F56_eq (f:=f) hl x hf with ⟨p,_,hh,e⟩ | ⟨hh,e⟩
  · exact ⟨p,e,by have:(p:Int)≥0:=by omega
                  simp [this,hh],by have:¬ (p:Int)<0:=by omega
                                    simp [this,hh]⟩
  · exact ⟨-1,e,by simp [hh],by simp [hh]⟩
theorem bq (a b:Int):(a == b)=decide (a=b):=by by_cases h:a=b <;> simp [h]
theorem bn (a b:Int):(a != b)= !decide (a=b):=by by_cases h:a=b <;> simp [h]
theorem named_eq {f:Nat} {lots:List Lot} {holds:List (List (List Part))} (hl:LotsOk lots) (hf:40<f) (k l fr to m:Int):F124 f lots holds k l fr to m=F79 f lots holds k l fr to m:=by
  obtain ⟨p,e74,_⟩:=F74_eq (f:=f) hl l hf
  obtain ⟨q,e56,eq0,eq1⟩:=F56_has (f:=f) hl.1 l hf
  unfold F124
  rw [F125_eq]
  simp only [Option.bind_some]
  rcases deeds_at k with ⟨rfl,e⟩ | ⟨rfl,e⟩ | ⟨rfl,e⟩ | ⟨rfl,e⟩ | ⟨rfl,e⟩ | ⟨rfl,e⟩ | ⟨hk,e⟩
  all_goals
    simp only [hasK,lkK,e,Option.isSome_some,Option.getD_some,Option.isSome_none,Option.getD_none,zrow,F124_j1,F124_j2,F124_j3,F79,F79_j1,F79_j2,F79_j3,F79_j4,F79_j5,F79_j6,F79_j7,F71_eq,F72_eq,F130_eq,F118_eq,Option.bind_some,Bool.not_true,Bool.not_false,cond_true,cond_false,e74,e56,eq0,bq,bn]
  case inr.inr.inr.inr.inr.inr =>
    rcases hk with hk | hk
    · have h1:decide (k<1)=true:=by simpa using hk
      simp [h1]
    · have h1:decide (k<1)=false:=by simpa using (show 1≤k by omega)
      have h2:decide (k > 6)=true:=by simpa using hk
      simp [h1,h2]
  all_goals
    by_cases a1:l=0 <;> by_cases a2:fr=0 <;> by_cases a3:to=0 <;> by_cases a4:m=0 <;> by_cases b1:0≤fr∧fr≤8 <;> by_cases b2:0≤to∧to≤8 <;> by_cases b3:1≤m∧m≤100000000 <;> by_cases b4:fr=to <;>
    first
    | (exfalso; omega)
    | (simp [a1,a2,a3,a4,b1,b2,b3,b4]; done)
    | (simp [a1,a2,a3,a4,b1,b2,b3,b4]; cases decide (0=to) <;> rfl)
theorem named_true {f:Nat} {lots:List Lot} (hl:LotsOk lots) (hf:40<f) {holds:List (List (List Part))} {k l fr to m:Int} (h:F79 f lots holds k l fr to m=some true):(1≤k∧k≤6)∧(0≤fr∧fr≤8)∧(0≤to∧to≤8)∧(k≠6→1≤m∧m≤100000000)∧(k=6→m=0):=by
  obtain ⟨q,e56,eq0,eq1⟩:=F56_has (f:=f) hl.1 l hf
  simp only [F79,F79_j1,F79_j2,F79_j3,F79_j4,F79_j5,F79_j6,F79_j7,F72_eq,F118_eq,Option.bind_some,e56,eq0,bq,bn] at h
  by_cases k1:k<1
  · simp [k1] at h
  by_cases k6:k > 6
  · simp [k1,k6] at h
  refine ⟨by omega,?_⟩
  by_cases h6:k=6
  · subst h6
    by_cases a1:l=0 <;> by_cases a3:to=0 <;> by_cases a4:m=0 <;> by_cases b1:0≤fr∧fr≤8 <;> simp [a1,a3,a4,b1] at h ⊢
  · by_cases b3:1≤m∧m≤100000000 <;> by_cases b1:0≤fr∧fr≤8 <;> by_cases b2:0≤to∧to≤8
    · exact ⟨b1,b2,fun _=>b3,fun h=>absurd h h6⟩
    all_goals simp [k1,k6,h6,b1,b2,b3] at h
theorem named_some {f:Nat} {lots:List Lot} (hl:LotsOk lots) (hf:40<f) (holds:List (List (List Part))) (k l fr to m:Int):∃b,F79 f lots holds k l fr to m=some b:=by
  obtain ⟨q,e56,eq0,eq1⟩:=F56_has (f:=f) hl.1 l hf
  simp only [F79,F79_j1,F79_j2,F79_j3,F79_j4,F79_j5,F79_j6,F79_j7,F72_eq,F118_eq,Option.bind_some,e56,eq0,bq,bn]
  have hc:∀(c:Bool) (x y:Option Bool),(∃b,x=some b)→(∃b,y=some b)→∃b,cond c x y=some b:=fun c x y hx hy=>by cases c; exact hy; exact hx
  repeat' (first | exact ⟨_,rfl⟩ | apply hc)
theorem check_eq {f:Nat} {lots:List Lot} {holds:List (List (List Part))} (hs:StockOk lots holds) (h9:holds.length=9) (hf:40<f) (k l fr to m:Int) :
    ∃r,F78 f lots holds k l fr to m=some r∧(F22 f lots holds=some 0→F24 f lots holds k l fr to m=some r):=by
  obtain ⟨b,eb⟩:=named_some (f:=f) hs.lok hf holds k l fr to m
  unfold F78
  rw [named_eq hs.lok hf,eb,F125_eq]
  simp only [Option.bind_some]
  cases b with
  | false=>exact ⟨61,by simp,fun h=>by unfold F24; rw [h,eb]; simp⟩
  | true =>
    obtain ⟨hk,hfr,hto,hm,hm6⟩:=named_true hs.lok hf eb
    have hfr':fr.toNat<holds.length:=by omega
    have hto':to.toNat<holds.length:=by omega
    have efr:getI holds fr=some holds[fr.toNat]:=by have:=getI_nat hfr'; rwa [Int.toNat_of_nonneg hfr.1] at this
    have eto:getI holds to=some holds[to.toNat]:=by have:=getI_nat hto'; rwa [Int.toNat_of_nonneg hto.1] at this
    have gfr:=hs.hok _ (List.getElem_mem hfr')
    have gto:=hs.hok _ (List.getElem_mem hto')
    have sfr:=F75_eq (f:=f) gfr.len (fun x hx=>(gfr.heaps x hx).ok) hf
    have sto:=F75_eq (f:=f) gto.len (fun x hx=>(gto.heaps x hx).ok) hf
    have hs0:=(sumH_bound fun x hx=>(gfr.heaps x hx).ok).1
    have hm7:k=6→decide (m > sumH holds[fr.toNat])=false:=fun e=>by rw [hm6 e]; simpa using hs0
    have hc:∀(c:Bool) (x y z u:Option Int),(∃r,x=some r∧z=some r)→(∃r,y=some r∧u=some r)→∃r,cond c x y=some r∧cond c z u=some r:=fun c x y z u hx hy=>by cases c; exact hy; exact hx
    suffices ∃r,(F78_j1 f holds k fr to m (lkK deeds k zrow).lot (lkK deeds k zrow).frm (lkK deeds k zrow).to (lkK deeds k zrow).mass (lkK deeds k zrow).fn=some r) ∧
        (cond (k == 3) (F24_j1 f holds k fr to m true) (cond (k == 4) (F24_j1 f holds k fr to m true) (F24_j1 f holds k fr to m (k == 5)))=some r) by
      obtain ⟨r,h1,h2⟩:=this
      refine ⟨r,by simpa using h1,fun h=>?_⟩
      unfold F24
      rw [h,eb]
      simpa using h2
    rcases deeds_at k with ⟨rfl,e⟩ | ⟨rfl,e⟩ | ⟨rfl,e⟩ | ⟨rfl,e⟩ | ⟨rfl,e⟩ | ⟨rfl,e⟩ | ⟨hk,e⟩
    case inr.inr.inr.inr.inr.inr=>omega
    all_goals
      simp only [lkK,e,Option.getD_some,F78_j1,F78_j2,F78_j3,F78_j4,F24_j1,F24_j2,F24_j3,F24_j4,F24_j5,efr,eto,F77_75,sfr,sto,Option.bind_some,cond_true,cond_false,bq,decide_true,Int.reduceEq,decide_false]
      try simp only [hm7 rfl,cond_false]
      repeat' (first | exact ⟨_,rfl,rfl⟩ | apply hc)
end Go.Proofs.Ytlmgjjmighajdaa
set_option linter.unusedSimpArgs false
set_option linter.unusedVariables false
namespace Go.Proofs.Ytlmgjjmighajdaa
open Go.Sl Go.Sx
section
variable {α : Type} (lt : α → α → Bool)
def insRev (x:α):List α→List α
  | []=>[x]
  | y::r=>bif lt x y then y::insRev x r else x::y::r
def sortRev (l:List α):List α:=l.foldl (fun r x=>insRev lt x r) []
theorem insRev_perm (x:α):∀r:List α,(insRev lt x r).Perm (x::r)
  | []=>List.Perm.refl _
  | y::r=>by
    unfold insRev
    cases lt x y with
    | true=>exact ((insRev_perm x r).cons y).trans (List.Perm.swap x y r)
    | false=>exact List.Perm.refl _
theorem sortRev_perm_aux:∀(l r:List α),(l.foldl (fun r x=>insRev lt x r) r).Perm (l ++ r)
  | [],r=>List.Perm.refl _
  | x::l,r=>by
    refine (sortRev_perm_aux l (insRev lt x r)).trans ?_
    refine ((insRev_perm lt x r).append_left l).trans ?_
    exact List.perm_middle
theorem sortRev_perm (l:List α):(sortRev lt l).Perm l:=by
  have:=sortRev_perm_aux lt l []
  rwa [List.append_nil] at this
end
theorem insRev_sorted {α:Type} {lt:α→α→Bool} {bf:α→α→Prop} (tr:∀a b c,bf a b→bf b c→bf a c) {x:α}:∀ {r:List α},r.Pairwise (fun a b=>bf b a)→(∀y∈r,lt x y=true→bf x y)→(∀y∈r,lt x y=false→bf y x) →
    (insRev lt x r).Pairwise (fun a b=>bf b a)
  | [],_,_,_=>List.pairwise_singleton _ _
  | y::r,hp,h1,h2=>by
    have hp':=List.pairwise_cons.1 hp
    unfold insRev
    cases e:lt x y with
    | true =>
      simp only [cond_true]
      refine List.pairwise_cons.2 ⟨fun z hz=>?_,insRev_sorted tr hp'.2 (fun z hz=>h1 z (List.mem_cons_of_mem _ hz)) (fun z hz=>h2 z (List.mem_cons_of_mem _ hz))⟩
      rcases List.mem_cons.1 ((insRev_perm lt x r).mem_iff.1 hz) with rfl | hz
      · exact h1 y (by simp) e
      · exact hp'.1 z hz
    | false =>
      simp only [cond_false]
      refine List.pairwise_cons.2 ⟨fun z hz=>?_,hp⟩
      have hy:=h2 y (by simp) e
      rcases List.mem_cons.1 hz with rfl | hz
      · exact hy
      · exact tr _ _ _ (hp'.1 z hz) hy
theorem take_iff {α:Type} [DecidableEq α] {bf:α→α→Prop} [DecidableRel bf] (irr:∀a,¬ bf a a) (asy:∀a b,bf a b→¬ bf b a):∀ {l:List α} {k:Nat} {x:α},l.Pairwise bf→x∈l→(x∈l.take k↔l.countP (fun y=>decide (bf y x))<k)
  | [],k,x,_,hx=>by cases hx
  | y::l,0,x,_,_=>by simp
  | y::l,k + 1,x,hp,hx=>by
    have hp':=List.pairwise_cons.1 hp
    by_cases e:x=y
    · subst e
      have hz:(x::l).countP (fun z=>decide (bf z x))=0:=by
        rw [List.countP_eq_zero]
        intro z hz
        simp only [decide_eq_true_eq]
        rcases List.mem_cons.1 hz with rfl | hz
        · exact irr _
        · exact asy _ _ (hp'.1 z hz)
      rw [hz]
      simp
    · have hxl:x∈l:=by rcases List.mem_cons.1 hx with h | h; exact absurd h e; exact h
      have hb:bf y x:=hp'.1 x hxl
      have ih:=take_iff irr asy (k:=k) hp'.2 hxl
      rw [List.take_succ_cons,List.mem_cons,List.countP_cons_of_pos (by simpa using hb)]
      constructor
      · rintro (h | h)
        · exact absurd h e
        · have:=ih.1 h; omega
      · intro h
        exact .inr (ih.2 (by omega))
def rem_ (m s:Int) (a:List Int) (i:Int):Int:=(m * a.getD i.toNat 0) % s
def ahead (m s:Int) (a:List Int) (i j:Int):Prop:=rem_ m s a i > rem_ m s a j∨(rem_ m s a i=rem_ m s a j∧i<j)
instance (m s:Int) (a:List Int):DecidableRel (ahead m s a):=fun i j=>inferInstanceAs (Decidable (_∨_))
theorem ahead_irr (m s:Int) (a:List Int) (i:Int):¬ ahead m s a i i:=by unfold ahead; omega
theorem ahead_asy (m s:Int) (a:List Int) (i j:Int) (h:ahead m s a i j):¬ ahead m s a j i:=by unfold ahead at *; omega
theorem ahead_tr (m s:Int) (a:List Int) (i j k:Int) (h:ahead m s a i j) (h':ahead m s a j k):ahead m s a i k:=by unfold ahead at *; omega
def less (m s:Int) (a:List Int) (i j:Int):Bool:=decide (rem_ m s a i > rem_ m s a j)
def places (n:Nat):List Int:=(List.range n).map fun i:Nat=>(i:Int)
def orderS (m s:Int) (a:List Int):List Int:=(sortRev (less m s a) (places a.length)).reverse
theorem sortRev_aux (m s:Int) (a:List Int):∀(l r:List Int),(∀y∈r,∀x∈l,y<x)→l.Pairwise (· < ·)→r.Pairwise (fun x y=>ahead m s a y x) →
    (l.foldl (fun r x=>insRev (less m s a) x r) r).Pairwise (fun x y=>ahead m s a y x)
  | [],r,_,_,h=>h
  | x::l,r,h1,h2,h3=>by
    have h2':=List.pairwise_cons.1 h2
    refine sortRev_aux m s a l _ (fun y hy z hz=>?_) h2'.2 (insRev_sorted (ahead_tr m s a) h3 (fun y hy e=>?_) (fun y hy e=>?_))
    · rcases List.mem_cons.1 ((insRev_perm _ x r).mem_iff.1 hy) with rfl | hy
      · exact h2'.1 z hz
      · exact h1 y hy z (List.mem_cons_of_mem _ hz)
    · have:=of_decide_eq_true e
      exact .inl this
    · have e':=of_decide_eq_false e
      have:=h1 y hy x (by simp)
      unfold ahead
      omega
theorem places_rising (n:Nat):(places n).Pairwise (· < ·):=by
  unfold places
  rw [List.pairwise_map]
  exact List.pairwise_lt_range.imp fun h=>by omega
theorem mem_places {n:Nat} {x:Int}:x∈places n↔0≤x∧x<n:=by
  unfold places
  simp only [List.mem_map,List.mem_range]
  constructor
  · rintro ⟨i,hi,rfl⟩; omega
  · rintro ⟨h1,h2⟩; exact ⟨x.toNat,by omega,by omega⟩
theorem orderS_sorted (m s:Int) (a:List Int):(orderS m s a).Pairwise (ahead m s a):=by
  unfold orderS
  rw [List.pairwise_reverse]
  exact sortRev_aux m s a _ [] (fun y hy=>by cases hy) (places_rising _) List.Pairwise.nil
theorem orderS_perm (m s:Int) (a:List Int):(orderS m s a).Perm (places a.length):=(List.reverse_perm _).trans (sortRev_perm _ _)
def rank (m s:Int) (a:List Int) (i:Int):Nat:=(places a.length).countP fun j=>decide (ahead m s a j i)
theorem first_iff (m s:Int) (a:List Int) {i:Int} (hi:i∈places a.length) (k:Nat):i∈(orderS m s a).take k↔rank m s a i<k:=by
  have hp:=orderS_perm m s a
  rw [take_iff (ahead_irr m s a) (ahead_asy m s a) (orderS_sorted m s a) (hp.mem_iff.2 hi),hp.countP_eq]
  rfl
end Go.Proofs.Ytlmgjjmighajdaa
set_option linter.unusedSimpArgs false
set_option linter.unusedVariables false
namespace Go.Proofs.Ytlmgjjmighajdaa
open Go.Sl Go.Sx
theorem sum_nonneg:∀ {a:List Int},(∀x∈a,0≤x)→0≤a.sum
  | [],_=>by simp
  | x::a,h=>by have:=sum_nonneg (a:=a) fun y hy=>h y (List.mem_cons_of_mem _ hy); have:=h x (by simp); simp only [List.sum_cons]; omega
theorem le_sum:∀ {a:List Int},(∀x∈a,0≤x)→∀x∈a,x≤a.sum
  | [],_,x,hx=>by cases hx
  | y::a,h,x,hx=>by
    have h0:=h y (by simp)
    have h1:=sum_nonneg (a:=a) fun z hz=>h z (List.mem_cons_of_mem _ hz)
    simp only [List.sum_cons]
    rcases List.mem_cons.1 hx with rfl | hx
    · omega
    · have:=le_sum (a:=a) (fun z hz=>h z (List.mem_cons_of_mem _ hz)) x hx; omega
structure DealOk (m:Int) (a:List Int):Prop where
  nn:∀x∈a,0≤x
  s0:0<a.sum
  s1:a.sum≤100000000
  m0:0≤m
  m1:m≤100000000
  len:a.length<20
def baseS (m:Int) (a:List Int) (i:Nat):Int:=m * a.getD i 0 / a.sum
def baseL (m:Int) (a:List Int):List Int:=a.map fun x=>m * x / a.sum
def leftS (m:Int) (a:List Int):Int:=m - (baseL m a).sum
def dealS (m:Int) (a:List Int):List Int:=(List.range a.length).map fun i=>baseS m a i + (if rank m a.sum a (i:Int)<(leftS m a).toNat then 1 else 0)
theorem div_sum (m s:Int) (hs:s≠0):∀b:List Int,s * (b.map fun x=>m * x / s).sum + (b.map fun x=>m * x % s).sum=m * b.sum
  | []=>by simp
  | x::b=>by
    have ih:=div_sum m s hs b
    have e:=Int.mul_ediv_add_emod (m * x) s
    simp only [List.map_cons,List.sum_cons]
    grind
theorem rem_sum {m s:Int} (hs:0<s):∀b:List Int,0≤(b.map fun x=>m * x % s).sum∧(b.map fun x=>m * x % s).sum≤(s - 1) * b.length
  | []=>by simp
  | x::b=>by
    have ih:=rem_sum (m:=m) hs b
    have h1:=Int.emod_nonneg (m * x) (show s≠0 by omega)
    have h2:=Int.emod_lt_of_pos (m * x) hs
    simp only [List.map_cons,List.sum_cons,List.length_cons]
    have e:(s - 1) * ((b.length + 1:Nat):Int)=(s - 1) * b.length + (s - 1):=by push_cast; grind
    omega
theorem left_bounds {m:Int} {a:List Int} (h:DealOk m a):0≤leftS m a∧leftS m a≤a.length∧a.sum * leftS m a=(a.map fun x=>m * x % a.sum).sum:=by
  have h1:=div_sum m a.sum (by have:=h.s0; omega) a
  have h2:=rem_sum (m:=m) h.s0 a
  have e:a.sum * leftS m a=(a.map fun x=>m * x % a.sum).sum:=by unfold leftS baseL; grind
  have hs:=h.s0
  refine ⟨?_,?_,e⟩
  · rcases Int.lt_or_le (leftS m a) 0 with hl | hl
    · have:a.sum * leftS m a<0:=Int.mul_neg_of_pos_of_neg hs hl
      omega
    · exact hl
  · rcases Int.lt_or_le (a.length:Int) (leftS m a) with hl | hl
    · have h3:a.sum * a.length<a.sum * leftS m a:=Int.mul_lt_mul_of_pos_left hl hs
      have h4:(a.sum - 1) * a.length≤a.sum * a.length:=Int.mul_le_mul_of_nonneg_right (by omega) (by omega)
      omega
    · exact hl
theorem getD_mem {a:List Int} {i:Nat} (h:i<a.length):a.getD i 0=a[i]:=by simp [h]
theorem base_bounds {m:Int} {a:List Int} (h:DealOk m a) {i:Nat} (hi:i<a.length):0≤baseS m a i∧baseS m a i≤m:=by
  have h0:=h.nn _ (List.getElem_mem hi)
  have h1:=le_sum h.nn _ (List.getElem_mem hi)
  unfold baseS
  rw [getD_mem hi]
  have hm:=h.m0
  have hs:=h.s0
  refine ⟨Int.ediv_nonneg (Int.mul_nonneg hm h0) (by omega),?_⟩
  refine Int.ediv_le_of_le_mul hs ?_
  exact Int.mul_le_mul_of_nonneg_left h1 hm
theorem prod_bounds {m:Int} {a:List Int} (h:DealOk m a) {i:Nat} (hi:i<a.length):0≤m * a[i]∧m * a[i]≤10000000000000000:=by
  have h0:=h.nn _ (List.getElem_mem hi)
  have h1:=le_sum h.nn _ (List.getElem_mem hi)
  have:=h.s1; have:=h.m0; have:=h.m1
  refine ⟨Int.mul_nonneg h.m0 h0,?_⟩
  have:m * a[i]≤100000000 * 100000000:=Int.mul_le_mul (by omega) (by omega) h0 (by omega)
  omega
theorem F123_eq (f:Nat) (x y:Int):F123 f x y=some (if x<y then -1 else if x > y then 1 else 0):=by
  unfold F123 F137
  by_cases h1:x<y <;> by_cases h2:x > y <;> simp [h1,h2]
theorem nzS {n:Int} (h:n≠0):nz n=some ():=by unfold nz; rw [if_pos h]
theorem tmod_eq {m:Int} {a:List Int} (h:DealOk m a) {i:Nat} (hi:i<a.length):Int.tmod (w64 (m * a[i])) a.sum=rem_ m a.sum a (i:Int):=by
  have hp:=prod_bounds h hi
  rw [w64_id (by omega) (by omega),Int.tmod_eq_emod_of_nonneg hp.1]
  unfold rem_
  have e:((i:Int)).toNat=i:=by omega
  rw [e,getD_mem hi]
theorem setI_mid {pre post:List Int} {x y:Int} {j:Int} (hj:j=pre.length):setI (pre ++ x::post) j y=some (pre ++ y::post):=by
  subst hj
  unfold setI
  have h1:(0:Int)≤pre.length∧(pre.length:Int)<(pre ++ x::post).length:=by simp; omega
  rw [if_pos h1]
  simp
theorem getI_mid {pre post:List Int} {x:Int} {j:Int} (hj:j=pre.length):getI (pre ++ x::post) j=some x:=by
  subst hj
  unfold getI
  rw [if_pos (by omega)]
  simp
def Good (n:Nat) (l:List Int):Prop:=∀x∈l,0≤x∧x<n
theorem F127_l7_eq {f:Nat} {k4:List Int→Int→Option (List Int)} {m:Int} {a:List Int} (h:DealOk m a) (i:Int) (x:Int):∀n (r tl:List Int),Good a.length (x::r)→r.length<n→r.length<100 →
    F127_l7 f k4 m a a.sum 0 i n (r.reverse ++ x::tl) (r.length:Int)=k4 ((insRev (less m a.sum a) x r).reverse ++ tl) (w64 (i + 1))
  | 0,r,tl,_,hn,_=>by omega
  | n + 1,[],tl,hg,hn,hl=>by simp [F127_l7,F127_j3,insRev]
  | n + 1,y::r,tl,hg,hn,hl=>by
    have hx:=hg x (by simp)
    have hy:=hg y (by simp)
    have hxl:x.toNat<a.length:=by omega
    have hyl:y.toNat<a.length:=by omega
    have ex:getI a x=some a[x.toNat]:=by have:=getI_nat hxl; rwa [Int.toNat_of_nonneg hx.1] at this
    have ey:getI a y=some a[y.toNat]:=by have:=getI_nat hyl; rwa [Int.toNat_of_nonneg hy.1] at this
    have hs:a.sum≠0:=by have:=h.s0; omega
    have hpos:decide (((y::r).length:Int) > 0)=true:=by simp
    have hlen:(((y::r).length:Nat):Int)=(r.reverse ++ [y]).length:=by simp
    have hpred:w64 (((y::r).length:Int) - 1)=(r.reverse.length:Nat):=by rw [pred_w (by omega) (by simp)]; simp
    have e0:(y::r).reverse ++ x::tl=(r.reverse ++ [y]) ++ x::tl:=by simp
    have e1:(y::r).reverse ++ x::tl=r.reverse ++ y::(x::tl):=by simp
    have g1:getI ((y::r).reverse ++ x::tl) ((y::r).length:Int)=some x:=by rw [e0]; exact getI_mid hlen
    have g2:getI ((y::r).reverse ++ x::tl) (w64 (((y::r).length:Int) - 1))=some y:=by rw [e1]; exact getI_mid hpred
    have t1:=tmod_eq h hxl
    have t2:=tmod_eq h hyl
    rw [Int.toNat_of_nonneg hx.1] at t1
    rw [Int.toNat_of_nonneg hy.1] at t2
    simp only [F127_l7,hpos,cond_true,g1,g2,Option.bind_some,ex,ey,nzS hs,t1,t2,F123_eq,F127_j3]
    by_cases hl2:rem_ m a.sum a y<rem_ m a.sum a x
    · have hc:decide ((if rem_ m a.sum a y<rem_ m a.sum a x then (-1:Int) else if rem_ m a.sum a y > rem_ m a.sum a x then 1 else 0)<0)=true:=by rw [if_pos hl2]; rfl
      have hless:less m a.sum a x y=true:=by unfold less; simpa using hl2
      have s1:setI ((y::r).reverse ++ x::tl) ((y::r).length:Int) y=some ((r.reverse ++ [y]) ++ y::tl):=by rw [e0]; exact setI_mid hlen
      have e2:(r.reverse ++ [y]) ++ y::tl=r.reverse ++ y::(y::tl):=by simp
      have g3:getI ((r.reverse ++ [y]) ++ y::tl) (w64 (((y::r).length:Int) - 1))=some y:=by rw [e2]; exact getI_mid hpred
      have s2:setI ((r.reverse ++ [y]) ++ y::tl) (w64 (((y::r).length:Int) - 1)) x=some (r.reverse ++ x::(y::tl)):=by rw [e2]; exact setI_mid hpred
      rw [hc]
      simp only [cond_true,s1,Option.bind_some,g3,s2]
      have ih:=F127_l7_eq (f:=f) (k4:=k4) h i x n r (y::tl) (fun z hz=>hg z (by rcases List.mem_cons.1 hz with e | e; simp [e]; simp [e])) (by simp at hn; omega) (by simp at hl; omega)
      have e3:((r.reverse.length:Nat):Int)=(r.length:Int):=by simp
      rw [hpred,e3,ih]
      simp [insRev,hless]
    · have hc:decide ((if rem_ m a.sum a y<rem_ m a.sum a x then (-1:Int) else if rem_ m a.sum a y > rem_ m a.sum a x then 1 else 0)<0)=false:=by rw [if_neg hl2]; split <;> rfl
      have hless:less m a.sum a x y=false:=by unfold less; simpa using hl2
      rw [hc]
      simp [insRev,hless]
theorem insRev_len {α:Type} (lt:α→α→Bool) (x:α) (r:List α):(insRev lt x r).length=r.length + 1:=by rw [(insRev_perm lt x r).length_eq]; rfl
theorem F127_l6_eq {f:Nat} {m:Int} {a:List Int} (h:DealOk m a) (hf:100<f) (y17 y13:List Int) (y18:Int) (hy:y13.length=a.length):∀n (r tl:List Int),Good a.length (r ++ tl)→r.length + tl.length=a.length→tl.length<n →
    F127_l6 f m a a.sum y17 y13 y18 0 n (r.reverse ++ tl) (r.length:Int)=F127_l8 f y17 y13 y18 ((tl.foldl (fun r x=>insRev (less m a.sum a) x r) r).reverse) f 20
  | 0,r,tl,_,_,hn=>by omega
  | n + 1,r,[],hg,hl,hn=>by
    have hlt:decide ((r.length:Int)<(y13.length:Int))=false:=by simpa using (show (y13.length:Int)≤r.length by simp at hl; omega)
    simp only [F127_l6,hlt,cond_false,List.append_nil,List.foldl_nil]
  | n + 1,r,x::tl,hg,hl,hn=>by
    have hlen:=h.len
    have hlt:decide ((r.length:Int)<(y13.length:Int))=true:=by simpa using (show (r.length:Int)<y13.length by simp at hl; omega)
    simp only [F127_l6,hlt,cond_true]
    rw [F127_l7_eq (f:=f) h (r.length:Int) x f r tl (fun z hz=>hg z (by rcases List.mem_cons.1 hz with e | e; simp [e]; simp [e])) (by simp at hl; omega) (by simp at hl; omega)]
    have e:w64 ((r.length:Int) + 1)=((insRev (less m a.sum a) x r).length:Int):=by rw [succ_w (by simp at hl; omega),insRev_len]
    rw [e,F127_l6_eq h hf y17 y13 y18 hy n (insRev (less m a.sum a) x r) tl (fun z hz=>hg z (by
      rcases List.mem_append.1 hz with hz | hz
      · rcases List.mem_cons.1 ((insRev_perm _ x r).mem_iff.1 hz) with e | e
        · simp [e]
        · simp [e]
      · simp [hz])) (by rw [insRev_len]; simp at hl; omega) (by simp at hn; omega)]
    rfl
theorem good_places (n:Nat):Good n (places n):=fun x hx=>mem_places.1 hx
theorem sorted_places {f:Nat} {m:Int} {a:List Int} (h:DealOk m a) (hf:100<f) (y17:List Int) (y18:Int) :
    F127_l3 f m a a.sum y17 (places a.length) y18 f (places a.length) 0 20=F127_l8 f y17 (places a.length) y18 (orderS m a.sum a) f 20:=by
  have hlen:=h.len
  obtain ⟨n,rfl⟩:∃n,f=n + 1:=⟨f - 1,by omega⟩
  have hpl:(places a.length).length=a.length:=by simp [places]
  have h20:decide ((20:Int)≤((places a.length).length:Int))=false:=by rw [hpl]; simpa using (show (a.length:Int)<20 by omega)
  simp only [F127_l3,h20,cond_false]
  have e1:w64 ((0:Int) + 1)=1:=rfl
  rw [e1]
  rcases hp:places a.length with _ | ⟨x,tl⟩
  · -- no numbers at all
    have:a.length=0:=by rw [← hpl,hp]; rfl
    have:a=[]:=List.eq_nil_of_length_eq_zero this
    have:=h.s0
    simp_all
  · have hg:Good a.length (x::tl):=hp ▸ good_places a.length
    have hl2:tl.length + 1=a.length:=by rw [← hpl,hp]; rfl
    have:=F127_l6_eq (f:=n + 1) h hf y17 (x::tl) y18 (by simpa using hl2) (n + 1) [x] tl (by simpa using hg) (by simp; omega) (by omega)
    simp only [List.reverse_cons,List.reverse_nil,List.nil_append,List.length_cons,List.length_nil,List.singleton_append] at this
    have e2:((0 + 1:Nat):Int)=1:=rfl
    rw [e2] at this
    rw [this]
    unfold orderS sortRev
    rw [hp]
    rfl
end Go.Proofs.Ytlmgjjmighajdaa
set_option linter.unusedSimpArgs false
set_option linter.unusedVariables false
namespace Go.Proofs.Ytlmgjjmighajdaa
open Go.Sl Go.Sx
theorem baseL_len (m:Int) (a:List Int):(baseL m a).length=a.length:=by simp [baseL]
theorem places_len (n:Nat):(places n).length=n:=by simp [places]
theorem baseL_at {m:Int} {a:List Int} {i:Nat} (h:i<a.length):(baseL m a)[i]'(by rw [baseL_len]; exact h)=baseS m a i:=by
  unfold baseL baseS
  rw [List.getElem_map,getD_mem h]
theorem places_at {n i:Nat} (h:i<n):(places n)[i]'(by rw [places_len]; exact h)=(i:Int):=by simp [places]
theorem sum_take_bound {m:Int} (hm:0≤m):∀ {l:List Int},(∀x∈l,0≤x∧x≤m)→0≤l.sum∧l.sum≤m * l.length
  | [],_=>by simp
  | x::l,h=>by
    have ih:=sum_take_bound hm (l:=l) fun y hy=>h y (List.mem_cons_of_mem _ hy)
    have hx:=h x (by simp)
    simp only [List.sum_cons,List.length_cons]
    have e:m * ((l.length + 1:Nat):Int)=m * l.length + m:=by push_cast; grind
    omega
theorem base_mem {m:Int} {a:List Int} (h:DealOk m a):∀x∈baseL m a,0≤x∧x≤m:=fun x hx=>by
  obtain ⟨i,hi,rfl⟩:=List.getElem_of_mem hx
  rw [baseL_len] at hi
  rw [baseL_at hi]
  exact base_bounds h hi
theorem F127_l2_eq {f:Nat} {m:Int} {a:List Int} (h:DealOk m a):∀k i n,i + k=a.length→k<n →
    F127_l2 f m a a.sum n ((baseL m a).take i ++ List.replicate k 0) ((places a.length).take i ++ List.replicate k 0) (m - ((baseL m a).take i).sum) (i:Int)=F127_l3 f m a a.sum (baseL m a) (places a.length) (leftS m a) f (places a.length) 0 20
  | _,_,0,_,hn=>by omega
  | 0,i,n + 1,hi,_=>by
    have hlt:decide ((i:Int)<(a.length:Int))=false:=by simpa using (show (a.length:Int)≤i by omega)
    simp only [F127_l2,hlt,cond_false,List.replicate_zero,List.append_nil]
    rw [List.take_of_length_le (by rw [baseL_len]; omega),List.take_of_length_le (by rw [places_len]; omega)]
    rfl
  | k + 1,i,n + 1,hi,hn=>by
    have hia:i<a.length:=by omega
    have hb:=base_bounds h hia
    have hp:=prod_bounds h hia
    have hlen:=h.len
    have hs:a.sum≠0:=by have:=h.s0; omega
    have hm1:=h.m1
    have hm0:=h.m0
    have l1:((baseL m a).take i).length=i:=by rw [List.length_take,baseL_len]; omega
    have l2:((places a.length).take i).length=i:=by rw [List.length_take,places_len]; omega
    have eb:w64 (Int.tdiv (w64 (m * a[i])) a.sum)=baseS m a i:=by
      have e3:w64 (m * a[i])=m * a[i]:=w64_id (by omega) (by omega)
      rw [e3,Int.tdiv_eq_ediv_of_nonneg hp.1]
      have e2:m * a[i] / a.sum=baseS m a i:=by unfold baseS; rw [getD_mem hia]
      rw [e2,w64_id (by omega) (by omega)]
    have hsum:=sum_take_bound h.m0 (l:=(baseL m a).take i) fun x hx=>base_mem h x (List.mem_of_mem_take hx)
    rw [l1] at hsum
    have hmi:m * (i:Int)≤100000000 * 20:=Int.mul_le_mul hm1 (by omega) (by omega) (by omega)
    have s1:setI ((baseL m a).take i ++ 0::List.replicate k 0) (i:Int) (baseS m a i)=some ((baseL m a).take i ++ baseS m a i::List.replicate k 0):=setI_mid (by rw [l1])
    have s2:setI ((places a.length).take i ++ 0::List.replicate k 0) (i:Int) (i:Int)=some ((places a.length).take i ++ (i:Int)::List.replicate k 0):=setI_mid (by rw [l2])
    have g1:getI ((baseL m a).take i ++ 0::List.replicate k 0) (i:Int)=some 0:=getI_mid (by rw [l1])
    have g2:getI ((places a.length).take i ++ 0::List.replicate k 0) (i:Int)=some 0:=getI_mid (by rw [l2])
    have g3:getI ((baseL m a).take i ++ baseS m a i::List.replicate k 0) (i:Int)=some (baseS m a i):=getI_mid (by rw [l1])
    have t1:(baseL m a).take (i + 1)=(baseL m a).take i ++ [baseS m a i]:=by
      rw [List.take_succ_eq_append_getElem (by rw [baseL_len]; exact hia),baseL_at hia]
    have t2:(places a.length).take (i + 1)=(places a.length).take i ++ [(i:Int)]:=by
      rw [List.take_succ_eq_append_getElem (by rw [places_len]; exact hia),places_at hia]
    simp only [F127_l2,lt_len,hia,decide_true,cond_true,getI_nat hia,Option.bind_some,nzS hs,List.replicate_succ,g1,eb,s1,g2,s2,g3]
    have ih:=F127_l2_eq (f:=f) h k (i + 1) n (by omega) (by omega)
    rw [t1,t2,sum_app] at ih
    simp only [List.append_assoc,List.singleton_append,List.sum_cons,List.sum_nil,Int.add_zero] at ih
    rw [succ_w (by omega),w64_id (by omega) (by omega)]
    have e:m - ((baseL m a).take i).sum - baseS m a i=m - (((baseL m a).take i).sum + baseS m a i):=by omega
    rw [e]
    exact ih
def outS (m:Int) (a D:List Int):List Int:=(List.range a.length).map fun i:Nat=>baseS m a i + (if (i:Int)∈D then 1 else 0)
theorem outS_len (m:Int) (a D:List Int):(outS m a D).length=a.length:=by simp [outS]
theorem outS_at {m:Int} {a D:List Int} {i:Nat} (h:i<a.length):(outS m a D)[i]'(by rw [outS_len]; exact h)=baseS m a i + (if (i:Int)∈D then 1 else 0):=by simp [outS]
theorem outS_nil (m:Int) (a:List Int):outS m a []=baseL m a:=by
  refine List.ext_getElem (by rw [outS_len,baseL_len]) fun i h1 h2=>?_
  rw [outS_len] at h1
  rw [outS_at h1,baseL_at h1]
  simp
theorem outS_set {m:Int} {a D:List Int} {p:Int} (hp:p∈places a.length) (hD:p∉D):getI (outS m a D) p=some (baseS m a p.toNat)∧setI (outS m a D) p (baseS m a p.toNat + 1)=some (outS m a (D ++ [p])):=by
  have hb:=mem_places.1 hp
  have hi:p.toNat<a.length:=by omega
  have hpn:((p.toNat:Nat):Int)=p:=Int.toNat_of_nonneg hb.1
  constructor
  · have:=getI_nat (xs:=outS m a D) (i:=p.toNat) (by rw [outS_len]; exact hi)
    rw [hpn] at this
    rw [this,outS_at hi,hpn,if_neg hD,Int.add_zero]
  · unfold setI
    rw [if_pos ⟨hb.1,by rw [outS_len]; exact hb.2⟩]
    congr 1
    refine List.ext_getElem (by simp [outS]) fun i h1 h2=>?_
    rw [outS_len] at h2
    rw [outS_at h2]
    by_cases e:p.toNat=i
    · subst e
      rw [List.getElem_set_self,hpn]
      simp
    · rw [List.getElem_set_ne e,outS_at h2]
      have:(i:Int)≠p:=fun k=>e (by omega)
      simp [this]
theorem F127_l10_eq {m:Int} {a d5:List Int} (h:DealOk m a) (hd:∀x∈d5,x∈places a.length) (hn:d5.Nodup) (hl:d5.length≤20):∀n j,j≤d5.length→d5.length - j<n→F127_l10 d5 n (outS m a (d5.take j)) (j:Int)=some (outS m a d5)
  | 0,j,_,hn=>by omega
  | n + 1,j,hj,hn'=>by
    rcases Nat.lt_or_ge j d5.length with hlt | hge
    · have hp:=hd _ (List.getElem_mem hlt)
      have hnot:d5[j]∉d5.take j:=fun hm=>by
        obtain ⟨i,hi,e⟩:=List.getElem_of_mem hm
        rw [List.getElem_take] at e
        rw [List.length_take] at hi
        have:=(List.getElem_inj hn).1 e
        omega
      obtain ⟨g,st⟩:=outS_set (m:=m) (D:=d5.take j) hp hnot
      have hb:=mem_places.1 hp
      have hbb:=base_bounds h (i:=d5[j].toNat) (by omega)
      have hm1:=h.m1
      simp only [F127_l10,lt_len,hlt,decide_true,cond_true,getI_nat hlt,Option.bind_some,g]
      rw [w64_id (n:=baseS m a d5[j].toNat + 1) (by omega) (by omega),st]
      simp only [Option.bind_some]
      rw [succ_w (by omega), ← List.take_succ_eq_append_getElem hlt]
      exact F127_l10_eq h hd hn hl n (j + 1) (by omega) (by omega)
    · have:j=d5.length:=by omega
      subst this
      simp [F127_l10]
theorem orderS_len (m s:Int) (a:List Int):(orderS m s a).length=a.length:=by rw [(orderS_perm m s a).length_eq,places_len]
theorem outS_deal (m:Int) (a:List Int):outS m a ((orderS m a.sum a).take (leftS m a).toNat)=dealS m a:=by
  refine List.ext_getElem (by simp [outS,dealS]) fun i h1 h2=>?_
  rw [outS_len] at h1
  have e2:(dealS m a)[i]=baseS m a i + (if rank m a.sum a (i:Int)<(leftS m a).toNat then 1 else 0):=by simp [dealS]
  rw [outS_at h1,e2]
  congr 1
  have hp:(i:Int)∈places a.length:=mem_places.2 ⟨by omega,by omega⟩
  have:=first_iff m a.sum a hp (leftS m a).toNat
  by_cases hr:rank m a.sum a (i:Int)<(leftS m a).toNat
  · rw [if_pos (this.2 hr),if_pos hr]
  · rw [if_neg fun k=>hr (this.1 k),if_neg hr]
theorem F127_l1_eq {f:Nat} {m:Int} {a:List Int} (hnn:∀x∈a,0≤x) (hs:a.sum≤100000000) (hl:a.length<20):∀n i,i≤a.length→a.length - i<n→F127_l1 f m a n (a.take i).sum (i:Int)=F127_j1 f m a a.sum (List.replicate a.length 0)
  | 0,i,_,hn=>by omega
  | n + 1,i,hi,hn=>by
    rcases Nat.lt_or_ge i a.length with hlt | hge
    · have e:(a.take (i + 1)).sum=(a.take i).sum + a[i]:=by rw [List.take_succ_eq_append_getElem hlt,sum_app]; simp
      have b1:=sum_nonneg (a:=a.take (i + 1)) fun x hx=>hnn x (List.mem_of_mem_take hx)
      have b2:a.sum=(a.take (i + 1)).sum + (a.drop (i + 1)).sum:=by rw [← sum_app,List.take_append_drop]
      have b3:=sum_nonneg (a:=a.drop (i + 1)) fun x hx=>hnn x (List.mem_of_mem_drop hx)
      simp only [F127_l1,lt_len,hlt,decide_true,cond_true,getI_nat hlt,Option.bind_some]
      rw [succ_w (by omega), ← e,w64_id (by omega) (by omega)]
      exact F127_l1_eq hnn hs hl n (i + 1) (by omega) (by omega)
    · have:i=a.length:=by omega
      subst this
      have hmk:mkC (a.length:Int) (0:Int)=some (List.replicate a.length 0):=by unfold mkC; rw [if_pos (by omega)]; simp
      simp [F127_l1,hmk]
theorem F127_eq {f:Nat} {m:Int} {a:List Int} (h:DealOk m a) (hf:100<f):F127 f m a=some (dealS m a):=by
  have hlen:=h.len
  unfold F127
  have e1:=F127_l1_eq (f:=f) (m:=m) h.nn h.s1 h.len f 0 (by omega) (by omega)
  simp only [List.take_zero,List.sum_nil] at e1
  have e0:((0:Nat):Int)=0:=rfl
  rw [e0] at e1
  rw [e1]
  unfold F127_j1
  have hs:(a.sum == 0)=false:=by simpa using (show ¬ a.sum=0 by have:=h.s0; omega)
  rw [hs,cond_false]
  have e2:=F127_l2_eq (f:=f) h a.length 0 f (by omega) (by omega)
  simp only [List.take_zero,List.sum_nil,List.nil_append,Int.sub_zero] at e2
  rw [e0] at e2
  rw [e2,sorted_places h hf]
  obtain ⟨hb0,hb1,_⟩:=left_bounds h
  have hpl:(places a.length).length=a.length:=places_len _
  obtain ⟨n,rfl⟩:∃n,f=n + 1:=⟨f - 1,by omega⟩
  have h20:decide ((20:Int)<((places a.length).length:Int))=false:=by rw [hpl]; simpa using (show (a.length:Int)≤20 by omega)
  simp only [F127_l8,h20,cond_false]
  have hsub:subI (orderS m a.sum a) 0 (leftS m a)=some ((orderS m a.sum a).take (leftS m a).toNat):=by
    unfold subI
    rw [if_pos ⟨by omega,hb0,by rw [orderS_len]; exact hb1⟩]
    simp
  rw [hsub]
  simp only [Option.bind_some]
  have hperm:=orderS_perm m a.sum a
  have hnod:(orderS m a.sum a).Nodup:=hperm.nodup_iff.2 ((places_rising _).imp fun h=>by omega)
  have e3:=F127_l10_eq h (d5:=(orderS m a.sum a).take (leftS m a).toNat) (fun x hx=>hperm.mem_iff.1 (List.mem_of_mem_take hx)) (hnod.sublist (List.take_sublist _ _)) (by rw [List.length_take,orderS_len]; omega) (n + 1) 0 (by omega) (by rw [List.length_take,orderS_len]; omega)
  rw [List.take_zero,outS_nil] at e3
  rw [e0] at e3
  rw [e3,outS_deal]
end Go.Proofs.Ytlmgjjmighajdaa
set_option linter.unusedSimpArgs false
set_option linter.unusedVariables false
namespace Go.Proofs.Ytlmgjjmighajdaa
open Go.Sl Go.Sx
def mergeP:List Part→List Part→List Part
  | [],b=>b
  | p::a,[]=>p::a
  | p::a,q::b=>if p.lot<q.lot then p::mergeP a (q::b) else if q.lot<p.lot then q::mergeP (p::a) b else ⟨p.lot,p.mass + q.mass⟩::mergeP a b
termination_by a b=>a.length + b.length
theorem merge_nil (a:List Part):mergeP a []=a:=by cases a <;> simp [mergeP]
theorem nil_merge (a:List Part):mergeP [] a=a:=by simp [mergeP]
theorem merge_lt {p q:Part} {a b:List Part} (h:p.lot<q.lot):mergeP (p::a) (q::b)=p::mergeP a (q::b):=by simp [mergeP,h]
theorem merge_gt {p q:Part} {a b:List Part} (h:q.lot<p.lot):mergeP (p::a) (q::b)=q::mergeP (p::a) b:=by
  have h1:¬ p.lot<q.lot:=by omega
  simp [mergeP,h,h1]
theorem merge_eq {p q:Part} {a b:List Part} (h:p.lot=q.lot):mergeP (p::a) (q::b)=⟨p.lot,p.mass + q.mass⟩::mergeP a b:=by
  have h1:¬ p.lot<q.lot:=by omega
  have h2:¬ q.lot<p.lot:=by omega
  simp [mergeP,h1,h2]
theorem drop_cons {α:Type} {l:List α} {i:Nat} (h:i<l.length):l.drop i=l[i]::l.drop (i + 1):=List.drop_eq_getElem_cons h
theorem F80_loop {a b:List Part} (ha:HeapOk a) (hb:HeapOk b):∀n (out:List Part) i k,i≤a.length→k≤b.length→(a.length - i) + (b.length - k)<n→out.length + (a.length - i) + (b.length - k)≤100 →
    F80_l1 a b n out (i:Int) (k:Int)=some (out ++ mergeP (a.drop i) (b.drop k))
  | 0,out,i,k,_,_,hn,_=>by omega
  | n + 1,out,i,k,hi,hk,hn,ho=>by
    have la:=ha.1
    have lb:=hb.1
    have app:∀x:Part,appC out [x]=some (out ++ [x]):=fun x=>by unfold appC; rw [if_pos (by simp only [List.length_cons,List.length_nil]; omega)]
    have eqk:∀ {x y:Nat},((x:Int) == (y:Int))=decide (x=y):=fun {x y}=>by
      by_cases h:x=y
      · simp [h]
      · have:¬ (x:Int)=y:=by omega
        simp [h,this]
    simp only [F80_l1,F80_j1,F80_j2,F80_j3,lt_len,eqk]
    rcases Nat.lt_or_ge i a.length with hia | hia
    · have h1:a.drop i=a[i]::a.drop (i + 1):=drop_cons hia
      have pa:=ha.2.1 _ (List.getElem_mem hia)
      rcases Nat.lt_or_ge k b.length with hkb | hkb
      · have h2:b.drop k=b[k]::b.drop (k + 1):=drop_cons hkb
        have pb:=hb.2.1 _ (List.getElem_mem hkb)
        have n1:¬ k=b.length:=by omega
        have n2:¬ i=a.length:=by omega
        simp only [hia,hkb,n1,n2,decide_true,decide_false,cond_true,cond_false,getI_nat hia,getI_nat hkb,Option.bind_some,app,succ_w (i:=i) (by omega),succ_w (i:=k) (by omega)]
        rcases Int.lt_trichotomy a[i].lot b[k].lot with e | e | e
        · have e':¬ b[k].lot<a[i].lot:=by omega
          simp only [e,e',decide_true,decide_false,cond_true,cond_false]
          rw [F80_loop ha hb n (out ++ [a[i]]) (i + 1) k (by omega) hk (by omega) (by simp only [List.length_append,List.length_cons,List.length_nil]; omega),h1,h2,merge_lt e, ← h2,List.append_assoc]
          rfl
        · have e1:¬ a[i].lot<b[k].lot:=by omega
          have e2:¬ b[k].lot<a[i].lot:=by omega
          have:=pa.m0; have:=pa.m1; have:=pb.m0; have:=pb.m1
          simp only [e1,e2,decide_true,decide_false,cond_true,cond_false,w64_id (n:=a[i].mass + b[k].mass) (by omega) (by omega)]
          rw [F80_loop ha hb n (out ++ [(⟨a[i].lot,a[i].mass + b[k].mass⟩:Part)]) (i + 1) (k + 1) (by omega) (by omega) (by omega) (by simp only [List.length_append,List.length_cons,List.length_nil]; omega),h1,h2,merge_eq e,List.append_assoc]
          rfl
        · have e1:¬ a[i].lot<b[k].lot:=by omega
          simp only [e,e1,decide_true,decide_false,cond_true,cond_false]
          rw [F80_loop ha hb n (out ++ [b[k]]) i (k + 1) hi (by omega) (by omega) (by simp only [List.length_append,List.length_cons,List.length_nil]; omega),h1,h2,merge_gt e, ← h1,List.append_assoc]
          rfl
      · have n1:k=b.length:=by omega
        simp only [hia,n1,decide_true,cond_true,getI_nat hia,Option.bind_some,app,succ_w (i:=i) (by omega)]
        have:=F80_loop ha hb n (out ++ [a[i]]) (i + 1) k (by omega) hk (by omega) (by simp only [List.length_append,List.length_cons,List.length_nil]; omega)
        rw [n1] at this
        rw [this,h1,List.drop_length,merge_nil,merge_nil,List.append_assoc]
        rfl
    · have n2:i=a.length:=by omega
      have n2':¬ i<a.length:=by omega
      rcases Nat.lt_or_ge k b.length with hkb | hkb
      · have h2:b.drop k=b[k]::b.drop (k + 1):=drop_cons hkb
        have n1:¬ k=b.length:=by omega
        simp only [n2',hkb,n1,decide_true,decide_false,cond_true,cond_false,n2,getI_nat hkb,Option.bind_some,app,succ_w (i:=k) (by omega),Nat.lt_irrefl]
        have:=F80_loop ha hb n (out ++ [b[k]]) i (k + 1) hi (by omega) (by omega) (by simp only [List.length_append,List.length_cons,List.length_nil]; omega)
        rw [n2] at this
        rw [this,h2,List.drop_length,nil_merge,nil_merge,List.append_assoc]
        rfl
      · have n1:k=b.length:=by omega
        simp [n1,n2,nil_merge]
theorem F80_eq {f:Nat} {a b:List Part} (ha:HeapOk a) (hb:HeapOk b) (hf:90<f):F80 f a b=some (mergeP a b):=by
  have:=F80_loop ha hb f [] 0 0 (by omega) (by omega) (by have:=ha.1; have:=hb.1; omega) (by have:=ha.1; have:=hb.1; simp; omega)
  simpa [F80] using this
end Go.Proofs.Ytlmgjjmighajdaa
set_option linter.unusedSimpArgs false
set_option linter.unusedVariables false
namespace Go.Proofs.Ytlmgjjmighajdaa
open Go.Sl Go.Sx
def takenL:List Part→List Int→List Part
  | p::h,n::d=>(if n > 0 then [⟨p.lot,n⟩] else []) ++ takenL h d
  | _,_=>[]
def leftL:List Part→List Int→List Part
  | p::h,n::d=>(if n<p.mass then [⟨p.lot,p.mass - n⟩] else []) ++ leftL h d
  | _,_=>[]
def massesL (h:List Part):List Int:=h.map (·.mass)
def dealH (m:Int) (h:List Part):List Int:=if h=[] then [] else dealS m (massesL h)
theorem dealS_len (m:Int) (a:List Int):(dealS m a).length=a.length:=by simp [dealS]
theorem dealH_len (m:Int) (h:List Part):(dealH m h).length=h.length:=by
  unfold dealH
  split
  · rename_i e; rw [e]; rfl
  · rw [dealS_len]; simp [massesL]
theorem sum_masses (h:List Part):(massesL h).sum=sumM h:=rfl
theorem heap_pos {h:List Part} (hk:HeapOk h) (hne:h≠[]):0<sumM h:=by
  cases h with
  | nil=>exact absurd rfl hne
  | cons p h =>
    have hp:=(hk.2.1 p (by simp)).m0
    have:=(sumM_bound (l:=h) fun q hq=>hk.2.1 q (List.mem_cons_of_mem _ hq)).1
    simp only [sumM,List.map_cons,List.sum_cons] at this ⊢
    omega
theorem dealOk_heap {h:List Part} {m:Int} (hk:HeapOk h) (hne:h≠[]) (hm0:0≤m) (hm:m≤sumM h) (hl:h.length<20):DealOk m (massesL h) where
  nn x hx:=by obtain ⟨p,hp,rfl⟩:=List.mem_map.1 hx; have:=(hk.2.1 p hp).m0; omega
  s0:=by rw [sum_masses]; exact heap_pos hk hne
  s1:=by rw [sum_masses]; exact hk.2.2.2
  m0:=hm0
  m1:=by have:=hk.2.2.2; omega
  len:=by simpa [massesL] using hl
theorem F127_nil (f:Nat) (hf:0<f) (m:Int):F127 f m []=some []:=by
  obtain ⟨n,rfl⟩:∃n,f=n + 1:=⟨f - 1,by omega⟩
  simp [F127,F127_l1,F127_j1,mkC]
theorem F127_heap {f:Nat} {h:List Part} {m:Int} (hk:HeapOk h) (hm0:0≤m) (hm:m≤sumM h) (hl:h.length<20) (hf:100<f):F127 f m (massesL h)=some (dealH m h):=by
  unfold dealH
  split
  · rename_i e; subst e; exact F127_nil f (by omega) m
  · rename_i e; exact F127_eq (dealOk_heap hk e hm0 hm hl) hf
theorem deal_bounds {a:List Int} {m:Int} (h:DealOk m a) {i:Nat} (hi:i<a.length):0≤(dealS m a)[i]'(by rw [dealS_len]; exact hi)∧(dealS m a)[i]'(by rw [dealS_len]; exact hi)≤100000001:=by
  have hb:=base_bounds h hi
  have hm:=h.m1
  have e:(dealS m a)[i]'(by rw [dealS_len]; exact hi)=baseS m a i + (if rank m a.sum a (i:Int)<(leftS m a).toNat then 1 else 0):=by simp [dealS]
  rw [e]
  split <;> omega
theorem dealH_bounds {h:List Part} {m:Int} (hk:HeapOk h) (hm0:0≤m) (hm:m≤sumM h) (hl:h.length<20):∀x∈dealH m h,0≤x∧x≤100000001:=fun x hx=>by
  unfold dealH at hx
  split at hx
  · cases hx
  · rename_i e
    obtain ⟨i,hi,rfl⟩:=List.getElem_of_mem hx
    rw [dealS_len] at hi
    exact deal_bounds (dealOk_heap hk e hm0 hm hl) hi
theorem F91_l2_eq {h:List Part} {d:List Int} (hd:d.length=h.length) (hl:h.length<20) (hk:∀p∈h,PartOk p) (hb:∀x∈d,0≤x∧x≤100000001):∀n i (tk lf:List Part),i≤h.length→h.length - i<n→tk.length + (h.length - i)≤40→lf.length + (h.length - i)≤40 →
    F91_l2 h d n tk lf (i:Int)=some (tk ++ takenL (h.drop i) (d.drop i),lf ++ leftL (h.drop i) (d.drop i))
  | 0,i,_,_,_,hn,_,_=>by omega
  | n + 1,i,tk,lf,hi,hn,h1,h2=>by
    rcases Nat.lt_or_ge i h.length with hlt | hge
    · have hid:i<d.length:=by omega
      have app:∀(l:List Part) (x:Part),l.length≤60→appC l [x]=some (l ++ [x]):=fun l x hl=>by unfold appC; rw [if_pos (by simp only [List.length_cons,List.length_nil]; omega)]
      have hp:=hk _ (List.getElem_mem hlt)
      have hx:=hb _ (List.getElem_mem hid)
      have e1:h.drop i=h[i]::h.drop (i + 1):=drop_cons hlt
      have e2:d.drop i=d[i]::d.drop (i + 1):=drop_cons hid
      have:=hp.m0; have:=hp.m1
      have hw:w64 (h[i].mass - d[i])=h[i].mass - d[i]:=w64_id (by omega) (by omega)
      have lt2:decide ((i:Int)<(d.length:Int))=true:=by simpa using (show (i:Int)<d.length by omega)
      simp only [F91_l2,F91_j1,F91_j2,lt2,cond_true,getI_nat hlt,getI_nat hid,Option.bind_some,hw,succ_w (i:=i) (by omega)]
      rw [e1,e2]
      simp only [takenL,leftL]
      by_cases c1:d[i] > 0 <;> by_cases c2:d[i]<h[i].mass
      · simp only [c1,c2,decide_true,cond_true,app tk _ (by omega),app lf _ (by omega),Option.bind_some,if_true]
        rw [F91_l2_eq hd hl hk hb n (i + 1) _ _ (by omega) (by omega) (by simp only [List.length_append,List.length_cons,List.length_nil]; omega) (by simp only [List.length_append,List.length_cons,List.length_nil]; omega)]
        simp only [List.append_assoc]
      · simp only [c1,c2,decide_true,decide_false,cond_true,cond_false,app tk _ (by omega),Option.bind_some,if_true,if_false]
        rw [F91_l2_eq hd hl hk hb n (i + 1) _ _ (by omega) (by omega) (by simp only [List.length_append,List.length_cons,List.length_nil]; omega) (by omega)]
        simp only [List.append_assoc,List.nil_append]
      · simp only [c1,c2,decide_true,decide_false,cond_true,cond_false,app lf _ (by omega),Option.bind_some,if_true,if_false]
        rw [F91_l2_eq hd hl hk hb n (i + 1) _ _ (by omega) (by omega) (by omega) (by simp only [List.length_append,List.length_cons,List.length_nil]; omega)]
        simp only [List.append_assoc,List.nil_append]
      · simp only [c1,c2,decide_false,cond_false,if_false]
        rw [F91_l2_eq hd hl hk hb n (i + 1) _ _ (by omega) (by omega) (by omega) (by omega)]
        simp only [List.nil_append]
    · have:i=h.length:=by omega
      subst this
      have lt2:decide ((h.length:Int)<(d.length:Int))=false:=by simp [hd]
      simp only [F91_l2,lt2,cond_false,List.drop_length]
      simp [takenL,leftL]
theorem F91_l1_eq {f:Nat} {h:List Part} (m:Int) (hl:h.length≤40):∀n i,i≤h.length→h.length - i<n→F91_l1 f h m n (massesL (h.take i)) (i:Int)=((F127 f m (massesL h)).bind fun r=>F91_l2 h r f [] [] 0)
  | 0,i,_,hn=>by omega
  | n + 1,i,hi,hn=>by
    rcases Nat.lt_or_ge i h.length with hlt | hge
    · have app:appC (massesL (h.take i)) [h[i].mass]=some (massesL (h.take (i + 1))):=by
        unfold appC
        rw [if_pos (by simp [massesL]; omega),List.take_succ_eq_append_getElem hlt]
        unfold massesL
        rw [List.map_append]; rfl
      simp only [F91_l1,lt_len,hlt,decide_true,cond_true,getI_nat hlt,Option.bind_some,app,succ_w (i:=i) (by omega)]
      exact F91_l1_eq m hl n (i + 1) (by omega) (by omega)
    · have:i=h.length:=by omega
      subst this
      simp [F91_l1]
theorem F91_eq {f:Nat} {h:List Part} {m:Int} (hk:HeapOk h) (hm0:0≤m) (hm:m≤sumM h) (hl:h.length<20) (hf:100<f):F91 f h m=some (takenL h (dealH m h),leftL h (dealH m h)):=by
  unfold F91
  have e1:=F91_l1_eq (f:=f) (h:=h) m (by omega) f 0 (by omega) (by omega)
  have e0:((0:Nat):Int)=0:=rfl
  rw [e0] at e1
  have e2:massesL (h.take 0)=[]:=rfl
  rw [e2] at e1
  rw [e1,F127_heap hk hm0 hm hl hf]
  simp only [Option.bind_some]
  have e3:=F91_l2_eq (dealH_len m h) hl hk.2.1 (dealH_bounds hk hm0 hm hl) f 0 [] [] (by omega) (by omega) (by simp; omega) (by simp; omega)
  rw [e0] at e3
  rw [e3]
  simp
end Go.Proofs.Ytlmgjjmighajdaa
set_option linter.unusedSimpArgs false
set_option linter.unusedVariables false
namespace Go.Proofs.Ytlmgjjmighajdaa
open Go.Sl Go.Sx
theorem set_sum:∀ {l:List Int} {i:Nat} (h:i<l.length),(l.set i (l[i] + 1)).sum=l.sum + 1
  | x::l,0,_=>by simp only [List.set_cons_zero,List.sum_cons,List.getElem_cons_zero]; omega
  | x::l,i + 1,h=>by
    have:=set_sum (l:=l) (i:=i) (by simpa using h)
    simp only [List.set_cons_succ,List.sum_cons,List.getElem_cons_succ]; omega
theorem outS_sum (m:Int) (a:List Int):∀(D2 D1:List Int),(∀x∈D1 ++ D2,x∈places a.length)→(D1 ++ D2).Nodup→(outS m a (D1 ++ D2)).sum=(outS m a D1).sum + D2.length
  | [],D1,_,_=>by simp
  | p::D2,D1,h1,h2=>by
    have e:D1 ++ p::D2=(D1 ++ [p]) ++ D2:=by simp
    rw [e] at h1 h2 ⊢
    have hp:p∈places a.length:=h1 p (by simp)
    have hnot:p∉D1:=fun hm=>by
      have:=(List.nodup_append.1 ((List.nodup_append.1 h2).1)).2.2 p hm p (by simp)
      exact this rfl
    obtain ⟨g,st⟩:=outS_set (m:=m) (D:=D1) hp hnot
    have hb:=mem_places.1 hp
    have hi:p.toNat<(outS m a D1).length:=by rw [outS_len]; omega
    have e1:outS m a (D1 ++ [p])=(outS m a D1).set p.toNat ((outS m a D1)[p.toNat] + 1):=by
      have hg:(outS m a D1)[p.toNat]=baseS m a p.toNat:=by
        have h3:=(getI_spec g).2
        rw [List.getElem?_eq_getElem hi] at h3
        exact Option.some.inj h3
      rw [hg]
      exact (setI_spec st).2
    rw [outS_sum m a D2 (D1 ++ [p]) h1 h2,e1,set_sum hi]
    simp only [List.length_cons]; omega
theorem deal_sum {m:Int} {a:List Int} (h:DealOk m a):(dealS m a).sum=m:=by
  rw [← outS_deal]
  have hperm:=orderS_perm m a.sum a
  have hnod:(orderS m a.sum a).Nodup:=hperm.nodup_iff.2 ((places_rising _).imp fun h=>by omega)
  obtain ⟨hb0,hb1,_⟩:=left_bounds h
  have:=outS_sum m a ((orderS m a.sum a).take (leftS m a).toNat) [] (fun x hx=>hperm.mem_iff.1 (List.mem_of_mem_take (by simpa using hx))) (hnod.sublist (List.take_sublist _ _))
  rw [List.nil_append,outS_nil,List.length_take,orderS_len] at this
  rw [this]
  unfold leftS at *
  omega
theorem deal_at {m:Int} {a:List Int} {i:Nat} (hi:i<a.length):(dealS m a)[i]'(by rw [dealS_len]; exact hi)=baseS m a i + (if rank m a.sum a (i:Int)<(leftS m a).toNat then 1 else 0):=by simp [dealS]
theorem rem_at {m:Int} {a:List Int} {i:Nat} (hi:i<a.length):rem_ m a.sum a (i:Int)=m * a[i] % a.sum:=by
  unfold rem_
  have e:((i:Int)).toNat=i:=by omega
  rw [e,getD_mem hi]
theorem extra_rem {m:Int} {a:List Int} (h:DealOk m a) {i:Nat} (hi:i<a.length) (hr:rank m a.sum a (i:Int)<(leftS m a).toNat):0<rem_ m a.sum a (i:Int):=by
  have hs:=h.s0
  have hnn:∀j,0≤rem_ m a.sum a j:=fun j=>Int.emod_nonneg _ (by omega)
  have hlt:∀j,rem_ m a.sum a j<a.sum:=fun j=>Int.emod_lt_of_pos _ hs
  rcases Int.lt_or_le 0 (rem_ m a.sum a (i:Int)) with h0 | h0
  · exact h0
  · exfalso
    have hz:rem_ m a.sum a (i:Int)=0:=by have:=hnn i; omega
    -- whoever has a remainder comes ahead
    have hc:(places a.length).countP (fun j=>decide (0<rem_ m a.sum a j))≤rank m a.sum a (i:Int):=by
      unfold rank
      refine List.countP_mono_left fun j hj hp=>?_
      simp only [decide_eq_true_eq] at hp ⊢
      unfold ahead
      omega
    have hsum:∀l:List Int,(l.map fun j=>rem_ m a.sum a j).sum≤(a.sum - 1) * (l.countP (fun j=>decide (0<rem_ m a.sum a j)):Nat):=by
      intro l
      induction l with
      | nil=>simp
      | cons j l ih =>
        simp only [List.map_cons,List.sum_cons]
        by_cases hp:0<rem_ m a.sum a j
        · rw [List.countP_cons_of_pos (by simpa using hp)]
          have:=hlt j
          have e:(a.sum - 1) * ((l.countP (fun j=>decide (0<rem_ m a.sum a j)) + 1:Nat):Int)=(a.sum - 1) * (l.countP (fun j=>decide (0<rem_ m a.sum a j)):Nat) + (a.sum - 1):=by push_cast; grind
          omega
        · rw [List.countP_cons_of_neg (by simpa using hp)]
          have:=hnn j
          omega
    have h1:=hsum (places a.length)
    have e1:(places a.length).map (fun j=>rem_ m a.sum a j)=a.map fun x=>m * x % a.sum:=by
      refine List.ext_getElem (by simp [places]) fun k h1 h2=>?_
      rw [List.getElem_map,List.getElem_map]
      have hk:k<a.length:=by simpa [places] using h1
      rw [places_at hk]
      exact rem_at hk
    rw [e1] at h1
    obtain ⟨hb0,hb1,e2⟩:=left_bounds h
    rw [← e2] at h1
    have h3:(a.sum - 1) * ((places a.length).countP (fun j=>decide (0<rem_ m a.sum a j)):Nat)≤(a.sum - 1) * (leftS m a - 1):=Int.mul_le_mul_of_nonneg_left (by omega) (by omega)
    have h4:(a.sum - 1) * (leftS m a - 1)=a.sum * leftS m a - leftS m a - a.sum + 1:=by grind
    omega
theorem deal_le {m:Int} {a:List Int} (h:DealOk m a) (hm:m≤a.sum) {i:Nat} (hi:i<a.length):(dealS m a)[i]'(by rw [dealS_len]; exact hi)≤a[i]:=by
  rw [deal_at hi]
  have hs:=h.s0
  have h0:=h.nn _ (List.getElem_mem hi)
  have e:=Int.mul_ediv_add_emod (m * a[i]) a.sum
  have hb:baseS m a i=m * a[i] / a.sum:=by unfold baseS; rw [getD_mem hi]
  have hle:m * a[i]≤a.sum * a[i]:=Int.mul_le_mul_of_nonneg_right hm h0
  split
  · rename_i hr
    have hrem:=extra_rem h hi hr
    rw [rem_at hi] at hrem
    rw [hb]
    rcases Int.lt_or_le (m * a[i] / a.sum) a[i] with hl | hl
    · omega
    · have:a.sum * a[i]≤a.sum * (m * a[i] / a.sum):=Int.mul_le_mul_of_nonneg_left hl (by omega)
      omega
  · rw [hb]
    rcases Int.lt_or_le a[i] (m * a[i] / a.sum) with hl | hl
    · have h1:a.sum * (a[i] + 1)≤a.sum * (m * a[i] / a.sum):=Int.mul_le_mul_of_nonneg_left (by omega) (by omega)
      have h2:=Int.emod_nonneg (m * a[i]) (show a.sum≠0 by omega)
      have h3:a.sum * (a[i] + 1)=a.sum * a[i] + a.sum:=by grind
      omega
    · omega
inductive Fits:List Part→List Int→Prop
  | nil:Fits [] []
  | cons {p:Part} {h:List Part} {n:Int} {d:List Int} (h0:0≤n) (h1:n≤p.mass) (hp:1≤p.mass) (k:Fits h d):Fits (p::h) (n::d)
theorem Fits.of:∀ {h:List Part} {d:List Int},d.length=h.length→(∀i (hi:i<h.length) (hd:i<d.length),0≤d[i]∧d[i]≤h[i].mass∧1≤h[i].mass)→Fits h d
  | [],[],_,_=> .nil
  | [],_::_,e,_=>by cases e
  | _::_,[],e,_=>by cases e
  | p::h,n::d,e,k=>by
    have k0:=k 0 (by simp) (by simp)
    exact .cons k0.1 k0.2.1 k0.2.2 (Fits.of (by simpa using e) fun i hi hd=>k (i + 1) (by simpa using hi) (by simpa using hd))
theorem taken_lots:∀ {h:List Part} {d:List Int} {q:Part},q∈takenL h d→∃p∈h,p.lot=q.lot
  | [],_,q,hq=>by simp [takenL] at hq
  | _::_,[],q,hq=>by simp [takenL] at hq
  | p::h,n::d,q,hq=>by
    simp only [takenL] at hq
    rcases List.mem_append.1 hq with hq | hq
    · split at hq
      · simp only [List.mem_singleton] at hq; subst hq; exact ⟨p,by simp,rfl⟩
      · cases hq
    · obtain ⟨p',hp,e⟩:=taken_lots hq
      exact ⟨p',List.mem_cons_of_mem _ hp,e⟩
theorem left_lots:∀ {h:List Part} {d:List Int} {q:Part},q∈leftL h d→∃p∈h,p.lot=q.lot
  | [],_,q,hq=>by simp [leftL] at hq
  | _::_,[],q,hq=>by simp [leftL] at hq
  | p::h,n::d,q,hq=>by
    simp only [leftL] at hq
    rcases List.mem_append.1 hq with hq | hq
    · split at hq
      · simp only [List.mem_singleton] at hq; subst hq; exact ⟨p,by simp,rfl⟩
      · cases hq
    · obtain ⟨p',hp,e⟩:=left_lots hq
      exact ⟨p',List.mem_cons_of_mem _ hp,e⟩
theorem taken_sum:∀ {h:List Part} {d:List Int},Fits h d→sumM (takenL h d)=d.sum
  | _,_, .nil=>by simp [takenL,sumM]
  | p::h,n::d, .cons h0 h1 hp k=>by
    have ih:=taken_sum k
    simp only [takenL,List.sum_cons,sumM_app,ih]
    split
    · simp [sumM]
    · simp [sumM]; omega
theorem taken_part:∀ {h:List Part} {d:List Int},Fits h d→(∀p∈h,PartOk p)→∀q∈takenL h d,PartOk q
  | _,_, .nil,_,q,hq=>by simp [takenL] at hq
  | p::h,n::d, .cons h0 h1 hp k,hk,q,hq=>by
    simp only [takenL] at hq
    rcases List.mem_append.1 hq with hq | hq
    · split at hq
      · have hp':=hk p (by simp)
        simp only [List.mem_singleton] at hq; subst hq
        exact ⟨hp'.l0,hp'.l1,by simp only; omega,by have:=hp'.m1; simp only; omega⟩
      · cases hq
    · exact taken_part k (fun p hp=>hk p (List.mem_cons_of_mem _ hp)) q hq
theorem left_part:∀ {h:List Part} {d:List Int},Fits h d→(∀p∈h,PartOk p)→∀q∈leftL h d,PartOk q
  | _,_, .nil,_,q,hq=>by simp [leftL] at hq
  | p::h,n::d, .cons h0 h1 hp k,hk,q,hq=>by
    simp only [leftL] at hq
    rcases List.mem_append.1 hq with hq | hq
    · split at hq
      · have hp':=hk p (by simp)
        simp only [List.mem_singleton] at hq; subst hq
        exact ⟨hp'.l0,hp'.l1,by simp only; omega,by have:=hp'.m1; simp only; omega⟩
      · cases hq
    · exact left_part k (fun p hp=>hk p (List.mem_cons_of_mem _ hp)) q hq
theorem left_sum:∀ {h:List Part} {d:List Int},Fits h d→sumM (leftL h d)=sumM h - d.sum
  | _,_, .nil=>by simp [leftL,sumM]
  | p::h,n::d, .cons h0 h1 hp k=>by
    have ih:=left_sum k
    have e:sumM (p::h)=p.mass + sumM h:=by simp [sumM]
    simp only [leftL,List.sum_cons,sumM_app,ih,e]
    split
    · simp [sumM]; omega
    · simp [sumM]; omega
theorem taken_rise:∀ {h:List Part} {d:List Int},(h.Pairwise fun a b=>a.lot<b.lot)→(takenL h d).Pairwise fun a b=>a.lot<b.lot
  | [],_,_=>by simp [takenL]
  | _::_,[],_=>by simp [takenL]
  | p::h,n::d,hr=>by
    have hr':=List.pairwise_cons.1 hr
    have ih:=taken_rise (d:=d) hr'.2
    simp only [takenL]
    split
    · exact List.pairwise_cons.2 ⟨fun x hx=>by obtain ⟨q,hq,e⟩:=taken_lots hx; rw [← e]; exact hr'.1 q hq,ih⟩
    · exact ih
theorem left_rise:∀ {h:List Part} {d:List Int},(h.Pairwise fun a b=>a.lot<b.lot)→(leftL h d).Pairwise fun a b=>a.lot<b.lot
  | [],_,_=>by simp [leftL]
  | _::_,[],_=>by simp [leftL]
  | p::h,n::d,hr=>by
    have hr':=List.pairwise_cons.1 hr
    have ih:=left_rise (d:=d) hr'.2
    simp only [leftL]
    split
    · exact List.pairwise_cons.2 ⟨fun x hx=>by obtain ⟨q,hq,e⟩:=left_lots hx; rw [← e]; exact hr'.1 q hq,ih⟩
    · exact ih
theorem fits_heap {h:List Part} {m:Int} (hk:HeapOk h) (hm0:0≤m) (hm:m≤sumM h) (hl:h.length<20):Fits h (dealH m h)∧(dealH m h).sum=(if h=[] then 0 else m):=by
  unfold dealH
  split
  · rename_i e; subst e; exact ⟨.nil,rfl⟩
  · rename_i e
    have hd:=dealOk_heap hk e hm0 hm hl
    refine ⟨Fits.of (by rw [dealS_len]; simp [massesL]) fun i hi hdi=>?_,deal_sum hd⟩
    have hi2:i<(massesL h).length:=by simpa [massesL] using hi
    have e2:(massesL h)[i]=h[i].mass:=by simp [massesL]
    exact ⟨(deal_bounds hd hi2).1,e2 ▸ deal_le hd (by rw [sum_masses]; exact hm) hi2,(hk.2.1 _ (List.getElem_mem hi)).m0⟩
end Go.Proofs.Ytlmgjjmighajdaa
set_option linter.unusedSimpArgs false
set_option linter.unusedVariables false
namespace Go.Proofs.Ytlmgjjmighajdaa
open Go.Sl Go.Sx
theorem rank_at (m s:Int) (a:List Int) {p:Nat} (hp:p<(orderS m s a).length):rank m s a (orderS m s a)[p]=p:=by
  have hm:(orderS m s a)[p]∈places a.length:=(orderS_perm m s a).mem_iff.1 (List.getElem_mem hp)
  have key:∀k,rank m s a (orderS m s a)[p]<k↔p<k:=fun k=>by
    rw [← first_iff m s a hm k]
    constructor
    · intro h
      obtain ⟨q,hq,e⟩:=List.getElem_of_mem h
      rw [List.length_take] at hq
      rw [List.getElem_take] at e
      rcases Nat.lt_trichotomy q p with h1 | h1 | h1
      · have:=pairs_at (orderS_sorted m s a) (by omega) hp h1
        rw [e] at this; exact absurd this (ahead_irr _ _ _ _)
      · omega
      · have:=pairs_at (orderS_sorted m s a) hp (by omega) h1
        rw [e] at this; exact absurd this (ahead_irr _ _ _ _)
    · intro h
      rw [List.mem_take_iff_getElem]
      exact ⟨p,by omega,rfl⟩
  have h1:=(key p).1
  have h2:=(key (p + 1)).2 (by omega)
  rcases Nat.lt_or_ge (rank m s a (orderS m s a)[p]) p with h | h
  · exact absurd (h1 h) (by omega)
  · omega
theorem rank_pos (m s:Int) (a:List Int) {i:Nat} (hi:i<a.length):∃h:rank m s a (i:Int)<(orderS m s a).length,(orderS m s a)[rank m s a (i:Int)]=(i:Int):=by
  have hm:(i:Int)∈orderS m s a:=(orderS_perm m s a).mem_iff.2 (mem_places.2 (by omega))
  obtain ⟨p,hp,e⟩:=List.getElem_of_mem hm
  have:=rank_at m s a hp
  rw [e] at this
  subst this
  exact ⟨hp,e⟩
theorem rank_lt {m s:Int} {a:List Int} {i j:Nat} (hi:i<a.length) (hj:j<a.length) (h:ahead m s a (i:Int) (j:Int)):rank m s a (i:Int)<rank m s a (j:Int):=by
  obtain ⟨h1,e1⟩:=rank_pos m s a hi
  obtain ⟨h2,e2⟩:=rank_pos m s a hj
  rcases Nat.lt_trichotomy (rank m s a (i:Int)) (rank m s a (j:Int)) with k | k | k
  · exact k
  · have:(i:Int)=j:=by
      rw [← e1, ← e2]
      simp only [k]
    rw [this] at h
    exact absurd h (ahead_irr _ _ _ _)
  · have:=pairs_at (orderS_sorted m s a) h2 h1 k
    rw [e1,e2] at this
    exact absurd h (ahead_asy _ _ _ _ _ this)
theorem ahead_tot {m s:Int} {a:List Int} {i j:Int} (h:i≠j):ahead m s a i j∨ahead m s a j i:=by unfold ahead; omega
theorem rank_inj {m s:Int} {a:List Int} {i j:Nat} (hi:i<a.length) (hj:j<a.length) (h:rank m s a (i:Int)=rank m s a (j:Int)):i=j:=by
  by_cases e:(i:Int)=j
  · omega
  · rcases ahead_tot (m:=m) (s:=s) (a:=a) e with k | k
    · have:=rank_lt hi hj k; omega
    · have:=rank_lt hj hi k; omega
def givenS (m s:Int) (a:List Int) (t:Nat):List Bool:=(List.range a.length).map fun i:Nat=>decide (rank m s a (i:Int)<t)
def outT (m:Int) (a:List Int) (t:Nat):List Int:=(List.range a.length).map fun i=>baseS m a i + (if rank m a.sum a (i:Int)<t then 1 else 0)
theorem given_at {m s:Int} {a:List Int} {t i:Nat} (hi:i<a.length):getI (givenS m s a t) (i:Int)=some (decide (rank m s a (i:Int)<t)):=by
  rw [getI_nat (by simp [givenS,hi])]; simp [givenS]
theorem out_at {m:Int} {a:List Int} {t i:Nat} (hi:i<a.length):getI (outT m a t) (i:Int)=some (baseS m a i + (if rank m a.sum a (i:Int)<t then 1 else 0)):=by
  rw [getI_nat (by simp [outT,hi])]; simp [outT]
theorem given_next {m s:Int} {a:List Int} {t b:Nat} (hb:b<a.length) (hr:rank m s a (b:Int)=t):setI (givenS m s a t) (b:Int) true=some (givenS m s a (t + 1)):=by
  unfold setI
  rw [if_pos (by simp [givenS]; omega)]
  congr 1
  refine List.ext_getElem (by simp [givenS]) fun i h1 h2=>?_
  have hi:i<a.length:=by simpa [givenS] using h2
  rw [List.getElem_set]
  simp only [givenS,List.getElem_map,List.getElem_range,Int.toNat_natCast]
  by_cases e:b=i
  · subst e; simp [hr]
  · rw [if_neg e]
    have:rank m s a (i:Int)≠t:=fun k=>e (rank_inj hb hi (hr.trans k.symm))
    by_cases k:rank m s a (i:Int)<t
    · have:rank m s a (i:Int)<t + 1:=by omega
      simp [k,this]
    · have:¬ rank m s a (i:Int)<t + 1:=by omega
      simp [k,this]
theorem out_next {m:Int} {a:List Int} {t b:Nat} (hb:b<a.length) (hr:rank m a.sum a (b:Int)=t):setI (outT m a t) (b:Int) (baseS m a b + 1)=some (outT m a (t + 1)):=by
  unfold setI
  rw [if_pos (by simp [outT]; omega)]
  congr 1
  refine List.ext_getElem (by simp [outT]) fun i h1 h2=>?_
  have hi:i<a.length:=by simpa [outT] using h2
  rw [List.getElem_set]
  simp only [outT,List.getElem_map,List.getElem_range,Int.toNat_natCast]
  by_cases e:b=i
  · subst e; simp [hr]
  · rw [if_neg e]
    have:rank m a.sum a (i:Int)≠t:=fun k=>e (rank_inj hb hi (hr.trans k.symm))
    by_cases k:rank m a.sum a (i:Int)<t
    · have:rank m a.sum a (i:Int)<t + 1:=by omega
      simp [k,this]
    · have:¬ rank m a.sum a (i:Int)<t + 1:=by omega
      simp [k,this]
def best (m:Int) (a:List Int) (t j:Nat) (y:Int):Prop:=(y= -1∧∀i,i<j→rank m a.sum a (i:Int)<t) ∨
  (∃b:Nat,y=(b:Int)∧b<j∧t≤rank m a.sum a (b:Int)∧∀i:Nat,i<j→t≤rank m a.sum a (i:Int)→i≠b→ahead m a.sum a (b:Int) (i:Int))
theorem F126_l4_eq {m:Int} {a:List Int} (h:DealOk m a) {t:Nat} (ht:t<a.length) (k2:List Bool→List Int→Int→Option (List Int)) (y8:Int):∀n j y,j≤a.length→a.length - j<n→best m a t j y →
    F126_l4 k2 m a a.sum (givenS m a.sum a t) (outT m a t) y8 n y (j:Int)=k2 (givenS m a.sum a (t + 1)) (outT m a (t + 1)) (w64 (y8 - 1))
  | 0,j,y,_,hn,_=>by omega
  | n + 1,j,y,hj,hn,hb=>by
    have hlen:=h.len
    have hs0:=h.s0
    rcases Nat.lt_or_ge j a.length with hlt | hge
    · simp only [F126_l4,lt_len,hlt,decide_true,cond_true,given_at hlt,Option.bind_some]
      by_cases hg:rank m a.sum a (j:Int)<t
      · simp only [hg,decide_true,Bool.not_true,cond_false,F126_j2,F126_j1]
        rw [succ_w (by omega)]
        refine F126_l4_eq h ht k2 y8 n (j + 1) y hlt (by omega) ?_
        rcases hb with ⟨e,k⟩ | ⟨b,e,hbj,hbt,k⟩
        · exact .inl ⟨e,fun i hi=>by
            rcases Nat.lt_or_ge i j with h1 | h1
            · exact k i h1
            · have:i=j:=by omega
              subst this; exact hg⟩
        · exact .inr ⟨b,e,by omega,hbt,fun i hi hit hib=>by
            rcases Nat.lt_or_ge i j with h1 | h1
            · exact k i h1 hit hib
            · have:i=j:=by omega
              subst this; omega⟩
      · simp only [hg,decide_false,Bool.not_false,cond_true]
        rcases hb with ⟨e,k⟩ | ⟨b,e,hbj,hbt,k⟩
        · subst e
          simp only [show decide ((-1:Int)<0)=true from rfl,cond_true,F126_j2,F126_j1]
          rw [succ_w (by omega)]
          refine F126_l4_eq h ht k2 y8 n (j + 1) _ hlt (by omega) (.inr ⟨j,rfl,by omega,by omega,fun i hi hit hij=>?_⟩)
          have:=k i (by omega)
          omega
        · subst e
          have h0:decide ((b:Int)<0)=false:=by simp
          have hbl:b<a.length:=by omega
          simp only [h0,cond_false,getI_nat hlt,getI_nat hbl,Option.bind_some,nzS (show a.sum≠0 by omega),tmod_eq h hlt,tmod_eq h hbl]
          by_cases hc:rem_ m a.sum a (j:Int) > rem_ m a.sum a (b:Int)
          · simp only [hc,decide_true,F126_j2,cond_true,F126_j1]
            rw [succ_w (by omega)]
            refine F126_l4_eq h ht k2 y8 n (j + 1) _ hlt (by omega) (.inr ⟨j,rfl,by omega,by omega,fun i hi hit hij=>?_⟩)
            have hjb:ahead m a.sum a (j:Int) (b:Int):= .inl hc
            by_cases e:i=b
            · subst e; exact hjb
            · exact ahead_tr _ _ _ _ _ _ hjb (k i (by omega) hit e)
          · simp only [hc,decide_false,F126_j2,cond_false,F126_j1]
            rw [succ_w (by omega)]
            refine F126_l4_eq h ht k2 y8 n (j + 1) _ hlt (by omega) (.inr ⟨b,rfl,by omega,hbt,fun i hi hit hib=>?_⟩)
            rcases Nat.lt_or_ge i j with h1 | h1
            · exact k i h1 hit hib
            · have:i=j:=by omega
              subst this
              unfold ahead
              omega
    · have hj':j=a.length:=by omega
      subst hj'
      have hto:t<(orderS m a.sum a).length:=by rw [orderS_len]; exact ht
      have hom:=(orderS_perm m a.sum a).mem_iff.1 (List.getElem_mem hto)
      obtain ⟨o0,o1⟩:=mem_places.1 hom
      have hro:=rank_at m a.sum a hto
      generalize hoe:(orderS m a.sum a)[t]=o at *
      obtain ⟨o',rfl⟩:∃k:Nat,o=(k:Int):=⟨o.toNat,by omega⟩
      have ho:o'<a.length:=by omega
      rcases hb with ⟨e,k⟩ | ⟨b,e,hbj,hbt,k⟩
      · have:=k o' ho; omega
      · subst e
        have hbr:rank m a.sum a (b:Int)=t:=by
          by_cases e:o'=b
          · subst e; exact hro
          · have:=rank_lt hbj ho (k o' ho (by omega) e)
            omega
        have hbase:=base_bounds h hbj
        have hm1:=h.m1
        simp only [F126_l4,lt_len,Nat.lt_irrefl,decide_false,cond_false,given_at hbj,Option.bind_some,given_next hbj hbr,out_at hbj,hbr,if_false,Int.add_zero]
        rw [w64_id (n:=baseS m a b + 1) (by omega) (by omega),out_next hbj hbr]
        rfl
theorem F126_l3_eq {f:Nat} {m:Int} {a:List Int} (h:DealOk m a) (hf:200≤f):∀n t,t≤(leftS m a).toNat→(leftS m a).toNat - t<n→(leftS m a).toNat<a.length∨leftS m a=0 →
    F126_l3 f m a a.sum n (givenS m a.sum a t) (outT m a t) (leftS m a - t)=some (dealS m a)
  | 0,t,_,hn,_=>by omega
  | n + 1,t,ht,hn,hl=>by
    have hlb:=left_bounds h
    have hlen:=h.len
    by_cases hz:t=(leftS m a).toNat
    · have:decide (leftS m a - (t:Int) > 0)=false:=decide_eq_false (by omega)
      rw [F126_l3,this,cond_false,hz]
      rfl
    · have:decide (leftS m a - (t:Int) > 0)=true:=decide_eq_true (by omega)
      rw [F126_l3,this]
      simp only [cond_true]
      have hta:t<a.length:=by omega
      have e4:=F126_l4_eq h hta (F126_l3 f m a a.sum n) (leftS m a - (t:Int)) f 0 (-1) (by omega) (by omega) (.inl ⟨rfl,fun i hi=>by omega⟩)
      have e0:((0:Nat):Int)=0:=rfl
      rw [e0] at e4
      rw [e4]
      rw [w64_id (by omega) (by omega)]
      have e:leftS m a - (t:Int) - 1=leftS m a - ((t + 1:Nat):Int):=by omega
      rw [e]
      exact F126_l3_eq h hf n (t + 1) (by omega) (by omega) hl
theorem left_lt {m:Int} {a:List Int} (h:DealOk m a):leftS m a<a.length:=by
  have h1:=left_bounds h
  have h2:=rem_sum (m:=m) h.s0 a
  have hs:=h.s0
  have hn:0<a.length:=by
    rcases Nat.eq_zero_or_pos a.length with e | e
    · have:=List.eq_nil_of_length_eq_zero e
      subst this; simp at hs
    · exact e
  by_cases k:leftS m a<a.length
  · exact k
  · have k:(a.length:Int)≤leftS m a:=by omega
    have h3:a.sum * (a.length:Int)≤a.sum * leftS m a:=Int.mul_le_mul_of_nonneg_left k (by omega)
    have h4:(a.sum - 1) * (a.length:Int)=a.sum * a.length - a.length:=by rw [Int.sub_mul]; omega
    omega
theorem take_sum_le {a:List Int} (h:∀x∈a,0≤x) (i:Nat):0≤(a.take i).sum∧(a.take i).sum≤a.sum:=by
  have e:a=a.take i ++ a.drop i:=(List.take_append_drop i a).symm
  have h1:=sum_nonneg (a:=a.take i) fun x hx=>h x (List.mem_of_mem_take hx)
  have h2:=sum_nonneg (a:=a.drop i) fun x hx=>h x (List.mem_of_mem_drop hx)
  have h3:a.sum=(a.take i).sum + (a.drop i).sum:=by
    have:=congrArg List.sum e
    rw [sum_app] at this
    exact this
  omega
theorem take_sum {a:List Int} {i:Nat} (hi:i<a.length):(a.take (i + 1)).sum=(a.take i).sum + a[i]:=by
  rw [List.take_succ_eq_append_getElem hi,sum_app]; simp
theorem from_st {ρ:Type} {T:Nat→Nat→Option ρ} {len n:Nat} {out:Option ρ} (hn:len<n) (h:∀n i,i<len→T (n + 1) i=T n (i + 1)) (he:∀n,T (n + 1) len=out):T n 0=out:=by
  have key:∀n i,i≤len→len - i<n→T n i=out:=by
    intro n
    induction n with
    | zero=>intro i _ hn; omega
    | succ n ih =>
      intro i hi hn
      rcases Nat.lt_or_ge i len with hlt | hge
      · rw [h n i hlt]; exact ih (i + 1) hlt (by omega)
      · have:i=len:=by omega
        subst this; exact he n
  exact key n 0 (by omega) (by omega)
theorem F126_eq {f:Nat} {m:Int} {a:List Int} (h:DealOk m a) (hf:200≤f):F126 f m a=some (dealS m a):=by
  have hlen:=h.len
  have hs0:=h.s0
  have hs1:=h.s1
  have hm0:=h.m0
  have hm1:=h.m1
  have hll:=left_lt h
  have hlb:=left_bounds h
  have hb:∀i,0≤((baseL m a).take i).sum∧((baseL m a).take i).sum≤(baseL m a).sum:=fun i=>take_sum_le (a:=baseL m a) (fun x hx=>by
    obtain ⟨k,hk,rfl⟩:=List.getElem_of_mem hx
    rw [baseL_len] at hk
    rw [baseL_at hk]
    exact (base_bounds h hk).1) i
  have hbs:(baseL m a).sum=m - leftS m a:=by unfold leftS; omega
  unfold F126
  have key1:=from_st (T:=fun n i=>F126_l1 f m a n (a.take i).sum (i:Int)) (len:=a.length) (n:=f) (out:=F126_l2 f m a a.sum f [] m 0) (by omega)
    (fun n i hi=>by
      have hx:=h.nn _ (List.getElem_mem hi)
      have h1:=take_sum_le h.nn (i + 1)
      rw [take_sum hi] at h1
      have h2:=take_sum_le h.nn i
      simp only [F126_l1,lt_len,hi,decide_true,cond_true,getI_nat hi,Option.bind_some]
      rw [succ_w (by omega),w64_id (by omega) (by omega),take_sum hi])
    (fun n=>by simp [F126_l1])
  have e1:F126_l1 f m a f 0 0=F126_l2 f m a a.sum f [] m 0:=by simpa using key1
  rw [e1]
  have key2:=from_st (T:=fun n i=>F126_l2 f m a a.sum n ((baseL m a).take i) (m - ((baseL m a).take i).sum) (i:Int)) (len:=a.length) (n:=f) (out:=F126_l3 f m a a.sum f (List.replicate a.length false) (baseL m a) (leftS m a)) (by omega)
    (fun n i hi=>by
      have hp:=prod_bounds h hi
      have hbb:=base_bounds h hi
      have hi':i<(baseL m a).length:=by rw [baseL_len]; exact hi
      have e2:Int.tdiv (w64 (m * a[i])) a.sum=baseS m a i:=by
        rw [w64_id (by omega) (by omega),Int.tdiv_eq_ediv_of_nonneg hp.1]
        unfold baseS
        rw [getD_mem hi]
      have h1:=hb (i + 1)
      have h0:=hb i
      rw [take_sum hi',baseL_at hi] at h1
      simp only [F126_l2,lt_len,hi,decide_true,cond_true,getI_nat hi,Option.bind_some,nzS (show a.sum≠0 by omega),e2]
      rw [w64_id (n:=baseS m a i) (by omega) (by omega)]
      have e3:appC ((baseL m a).take i) [baseS m a i]=some ((baseL m a).take (i + 1)):=by
        unfold appC
        rw [if_pos (by simp; omega),List.take_succ_eq_append_getElem hi',baseL_at hi]
      rw [e3]
      simp only [Option.bind_some]
      rw [succ_w (by omega),w64_id (by omega) (by omega),take_sum hi',baseL_at hi]
      congr 1
      omega)
    (fun n=>by
      have e4:mkC ((a.length:Nat):Int) false=some (List.replicate a.length false):=by
        unfold mkC
        rw [if_pos (by omega)]; simp
      have e5:(baseL m a).take a.length=baseL m a:=List.take_of_length_le (by rw [baseL_len]; omega)
      simp only [F126_l2,lt_len,Nat.lt_irrefl,decide_false,cond_false,e4,Option.bind_some,e5]
      rw [hbs]
      congr 1
      omega)
  have e2:F126_l2 f m a a.sum f [] m 0=F126_l3 f m a a.sum f (List.replicate a.length false) (baseL m a) (leftS m a):=by simpa using key2
  rw [e2]
  have e3:=F126_l3_eq h hf f 0 (by omega) (by omega) (.inl (by omega))
  have e4:givenS m a.sum a 0=List.replicate a.length false:=by
    refine List.ext_getElem (by simp [givenS]) fun i h1 h2=>?_
    simp [givenS]
  have e5:outT m a 0=baseL m a:=by
    refine List.ext_getElem (by simp [outT,baseL]) fun i h1 h2=>?_
    have hi:i<a.length:=by simpa [outT] using h1
    rw [baseL_at hi]
    simp [outT]
  rw [e4,e5] at e3
  simpa using e3
end Go.Proofs.Ytlmgjjmighajdaa
set_option linter.unusedSimpArgs false
set_option linter.unusedVariables false
namespace Go.Proofs.Ytlmgjjmighajdaa
open Go.Sl Go.Sx
theorem F89_80 (f:Nat) (a b:List Part):F89 f a b=F80 f a b:=by
  unfold F89 F80
  have:∀n y i k,F89_l1 a b n y i k=F80_l1 a b n y i k:=by
    intro n
    induction n with
    | zero=>intro y i k; rfl
    | succ n ih =>
      intro y i k
      have e:F89_l1 a b n=F80_l1 a b n:=by funext y i k; exact ih y i k
      simp only [F89_l1,F80_l1,e]
      rfl
  exact this ..
theorem F89_eq {f:Nat} {a b:List Part} (ha:HeapOk a) (hb:HeapOk b) (hf:90<f):F89 f a b=some (mergeP a b):=by rw [F89_80,F80_eq ha hb hf]
theorem F128_eq {f:Nat} {h:List Part} (hl:h.length≤40) (hf:40<f):F128 f h=some (massesL h):=by
  unfold F128
  have key:=from_st (T:=fun n i=>F128_l1 h n (massesL (h.take i)) (i:Int)) (len:=h.length) (n:=f) (out:=some (massesL h)) (by omega)
    (fun n i hi=>by
      have app:appC (massesL (h.take i)) [h[i].mass]=some (massesL (h.take (i + 1))):=by
        unfold appC
        rw [if_pos (by simp [massesL]; omega),List.take_succ_eq_append_getElem hi]
        unfold massesL
        rw [List.map_append]; rfl
      simp only [F128_l1,lt_len,hi,decide_true,cond_true,getI_nat hi,Option.bind_some,app]
      rw [succ_w (by omega)])
    (fun n=>by simp [F128_l1])
  simpa [massesL] using key
theorem F93_l1_eq {h:List Part} {d:List Int} (hd:d.length=h.length) (hl:h.length<20) (hk:∀p∈h,PartOk p) (hb:∀x∈d,0≤x∧x≤100000001):∀n i (tk lf:List Part),i≤h.length→h.length - i<n→tk.length + (h.length - i)≤40→lf.length + (h.length - i)≤40 →
    F93_l1 h d n tk lf (i:Int)=some (tk ++ takenL (h.drop i) (d.drop i),lf ++ leftL (h.drop i) (d.drop i))
  | 0,i,_,_,_,hn,_,_=>by omega
  | n + 1,i,tk,lf,hi,hn,h1,h2=>by
    rcases Nat.lt_or_ge i h.length with hlt | hge
    · have hid:i<d.length:=by omega
      have app:∀(l:List Part) (x:Part),l.length≤60→appC l [x]=some (l ++ [x]):=fun l x hl=>by unfold appC; rw [if_pos (by simp only [List.length_cons,List.length_nil]; omega)]
      have hp:=hk _ (List.getElem_mem hlt)
      have hx:=hb _ (List.getElem_mem hid)
      have e1:h.drop i=h[i]::h.drop (i + 1):=drop_cons hlt
      have e2:d.drop i=d[i]::d.drop (i + 1):=drop_cons hid
      have:=hp.m0; have:=hp.m1
      have hw:w64 (h[i].mass - d[i])=h[i].mass - d[i]:=w64_id (by omega) (by omega)
      simp only [F93_l1,F93_j1,F93_j2,lt_len,hlt,decide_true,cond_true,getI_nat hlt,getI_nat hid,Option.bind_some,hw,succ_w (i:=i) (by omega)]
      rw [e1,e2]
      simp only [takenL,leftL]
      have gt:(h[i].mass > d[i])=(d[i]<h[i].mass):=rfl
      simp only [gt]
      by_cases c1:d[i] > 0 <;> by_cases c2:d[i]<h[i].mass
      · simp only [c1,c2,decide_true,cond_true,app tk _ (by omega),app lf _ (by omega),Option.bind_some,if_true]
        rw [F93_l1_eq hd hl hk hb n (i + 1) _ _ (by omega) (by omega) (by simp only [List.length_append,List.length_cons,List.length_nil]; omega) (by simp only [List.length_append,List.length_cons,List.length_nil]; omega)]
        simp only [List.append_assoc]
      · simp only [c1,c2,decide_true,decide_false,cond_true,cond_false,app tk _ (by omega),Option.bind_some,if_true,if_false]
        rw [F93_l1_eq hd hl hk hb n (i + 1) _ _ (by omega) (by omega) (by simp only [List.length_append,List.length_cons,List.length_nil]; omega) (by omega)]
        simp only [List.append_assoc,List.nil_append]
      · simp only [c1,c2,decide_true,decide_false,cond_true,cond_false,app lf _ (by omega),Option.bind_some,if_true,if_false]
        rw [F93_l1_eq hd hl hk hb n (i + 1) _ _ (by omega) (by omega) (by omega) (by simp only [List.length_append,List.length_cons,List.length_nil]; omega)]
        simp only [List.append_assoc,List.nil_append]
      · simp only [c1,c2,decide_false,cond_false,if_false]
        rw [F93_l1_eq hd hl hk hb n (i + 1) _ _ (by omega) (by omega) (by omega) (by omega)]
        simp only [List.nil_append]
    · have:i=h.length:=by omega
      subst this
      simp only [F93_l1,lt_len,Nat.lt_irrefl,decide_false,cond_false,List.drop_length]
      simp [takenL,leftL]
theorem deal_zero {a:List Int} (h:∀x∈a,0≤x):dealS 0 a=List.replicate a.length 0:=by
  have hb:baseL 0 a=List.replicate a.length 0:=by
    refine List.ext_getElem (by simp [baseL]) fun i h1 h2=>?_
    simp [baseL]
  have hl:leftS 0 a=0:=by
    unfold leftS
    rw [hb]
    have:∀n:Nat,(List.replicate n (0:Int)).sum=0:=fun n=>by
      induction n with
      | zero=>rfl
      | succ n ih=>rw [List.replicate_succ,List.sum_cons,ih]; rfl
    rw [this]; rfl
  refine List.ext_getElem (by simp [dealS]) fun i h1 h2=>?_
  simp [dealS,hl,baseS]
theorem dealH_zero {h:List Part} (hk:HeapOk h):dealH 0 h=List.replicate h.length 0:=by
  unfold dealH
  split
  · rename_i e; subst e; rfl
  · rw [deal_zero fun x hx=>by obtain ⟨p,hp,rfl⟩:=List.mem_map.1 hx; have:=(hk.2.1 p hp).m0; omega]
    simp [massesL]
theorem taken_zero:∀h:List Part,takenL h (List.replicate h.length 0)=[]
  | []=>rfl
  | p::h=>by
    show takenL (p::h) (0::List.replicate h.length 0)=[]
    simp only [takenL]
    rw [taken_zero h]; rfl
theorem left_zero:∀ {h:List Part},(∀p∈h,PartOk p)→leftL h (List.replicate h.length 0)=h
  | [],_=>rfl
  | p::h,hk=>by
    show leftL (p::h) (0::List.replicate h.length 0)=p::h
    simp only [leftL]
    rw [left_zero fun q hq=>hk q (List.mem_cons_of_mem _ hq)]
    have:=(hk p (by simp)).m0
    rw [if_pos (by omega)]
    simp
theorem F93_eq {f:Nat} {h:List Part} {m:Int} (hk:HeapOk h) (hm0:0≤m) (hm:m≤sumM h) (hl:h.length<20) (hf:200≤f):F93 f h m=some (takenL h (dealH m h),leftL h (dealH m h)):=by
  unfold F93
  by_cases h0:m=0
  · subst h0
    have:appC [] h=some h:=by unfold appC; rw [if_pos (by simp; omega)]; rfl
    rw [dealH_zero hk,taken_zero,left_zero hk.2.1]
    simp [this]
  · have h0':(m == 0)=false:=by simpa using h0
    have hne:h≠[]:=fun e=>by subst e; simp [sumM] at hm; omega
    rw [h0',cond_false,F128_eq (by omega) (by omega)]
    simp only [Option.bind_some]
    rw [F126_eq (dealOk_heap hk hne hm0 hm hl) hf]
    simp only [Option.bind_some]
    have hd:dealS m (massesL h)=dealH m h:=by unfold dealH; rw [if_neg hne]
    rw [hd]
    have:=F93_l1_eq (dealH_len m h) hl hk.2.1 (dealH_bounds hk hm0 hm hl) f 0 [] [] (by omega) (by omega) (by simp; omega) (by simp; omega)
    simpa using this
end Go.Proofs.Ytlmgjjmighajdaa
set_option linter.unusedSimpArgs false
set_option linter.unusedVariables false
namespace Go.Proofs.Ytlmgjjmighajdaa
open Go.Sl Go.Sx
structure Small (holds:List (List (List Part))):Prop where
  n9:holds.length=9
  len:∀l∈holds,l.length≤100
  heaps:∀l∈holds,∀p∈l,p.length≤100
theorem app_small {α:Type} {l m:List α} (h1:l.length≤1000) (h2:m.length≤1000):appC l m=some (l ++ m):=by unfold appC; rw [if_pos (by omega)]
def rows (holds:List (List (List Part))) (i:Nat) (v:List (List Part)):List (List (List Part)):=holds.take i ++ v::List.replicate (8 - i) []
def rowsTo (holds:List (List (List Part))) (i:Nat):List (List (List Part)):=holds.take i ++ List.replicate (9 - i) []
theorem mid_get {α:Type} (a:List α) (v:α) (b:List α) {i:Nat} (hi:a.length=i):getI (a ++ v::b) (i:Int)=some v:=by
  subst hi; unfold getI; simp
theorem mid_set {α:Type} (a:List α) (v u:α) (b:List α) {i:Nat} (hi:a.length=i):(a ++ v::b).set (Int.toNat (i:Int)) u=a ++ u::b:=by
  subst hi; simp
theorem rowsTo_at (holds:List (List (List Part))) {i:Nat} (hi:i<9):rowsTo holds i=rows holds i []:=by
  unfold rowsTo rows
  have:9 - i=(8 - i) + 1:=by omega
  rw [this,List.replicate_succ]
theorem rows_to {holds:List (List (List Part))} {i:Nat} (h9:holds.length=9) (hi:i<holds.length):rows holds i holds[i]=rowsTo holds (i + 1):=by
  unfold rowsTo rows
  rw [List.take_succ_eq_append_getElem hi]
  have:8 - i=9 - (i + 1):=by omega
  rw [this]
  simp only [List.append_assoc,List.singleton_append]
theorem F85_l2_eq {f:Nat} {holds:List (List (List Part))} (hs:Small holds) {i:Nat} (hi:i<holds.length) (k1:List (List (List Part))→Int→Option (List Lot×List (List (List Part)))) (hf:200≤f) :
    F85_l2 k1 holds (i:Int) f (rowsTo holds i) 0=k1 (rowsTo holds (i + 1)) (w64 ((i:Int) + 1)):=by
  have h9:=hs.n9
  have hli:=hs.len _ (List.getElem_mem hi)
  have hlen:(holds.take i).length=i:=by rw [List.length_take]; omega
  have key:=from_st (T:=fun n j=>F85_l2 k1 holds (i:Int) n (rows holds i (holds[i].take j)) (j:Int)) (len:=holds[i].length) (n:=f) (out:=k1 (rowsTo holds (i + 1)) (w64 ((i:Int) + 1))) (by omega)
    (fun n j hj=>by
      have hp:=hs.heaps _ (List.getElem_mem hi) _ (List.getElem_mem hj)
      simp only [F85_l2,getI_nat hi,Option.bind_some,lt_len,hj,decide_true,cond_true,getI_nat hj]
      unfold rows
      rw [mid_get _ _ _ hlen]
      simp only [Option.bind_some]
      rw [app_small (by simp) (by omega)]
      simp only [Option.bind_some,List.nil_append]
      rw [app_small (by simp; omega) (by simp)]
      simp only [Option.bind_some]
      rw [mid_set _ _ _ _ hlen,succ_w (by omega), ← List.take_succ_eq_append_getElem hj])
    (fun n=>by simp only [F85_l2,getI_nat hi,Option.bind_some,lt_len,Nat.lt_irrefl,decide_false,cond_false,List.take_length,rows_to h9 hi])
  rw [rowsTo_at _ (by omega)]
  simpa using key
theorem F85_eq {f:Nat} {lots:List Lot} {holds:List (List (List Part))} (hs:Small holds) (hl:lots.length≤100) (hf:200≤f):F85 f lots holds=some (lots,holds):=by
  have h9:=hs.n9
  unfold F85
  rw [app_small (by simp) (by omega)]
  simp only [Option.bind_some,List.nil_append]
  have key:=from_st (T:=fun n i=>F85_l1 f holds lots n (rowsTo holds i) (i:Int)) (len:=9) (n:=f) (out:=some (lots,holds)) (by omega)
    (fun n i hi=>by
      have h1:decide ((i:Int)<9)=true:=decide_eq_true (by omega)
      simp only [F85_l1,h1,cond_true]
      rw [F85_l2_eq hs (by omega) _ hf,succ_w (by omega)])
    (fun n=>by
      have h1:rowsTo holds 9=holds:=by unfold rowsTo; rw [List.take_of_length_le (by omega)]; simp
      simp [F85_l1,h1])
  exact key
def rowo (holds:List (List (List Part))) (i:Nat) (v:Option (List (List Part))):List (Option (List (List Part))):=(holds.take i).map some ++ v::List.replicate (8 - i) none
def rowoTo (holds:List (List (List Part))) (i:Nat):List (Option (List (List Part))):=(holds.take i).map some ++ List.replicate (9 - i) none
theorem rowoTo_at (holds:List (List (List Part))) {i:Nat} (hi:i<9):rowoTo holds i=rowo holds i none:=by
  unfold rowoTo rowo
  have:9 - i=(8 - i) + 1:=by omega
  rw [this,List.replicate_succ]
theorem rowo_to {holds:List (List (List Part))} {i:Nat} (h9:holds.length=9) (hi:i<holds.length):rowo holds i (some holds[i])=rowoTo holds (i + 1):=by
  unfold rowoTo rowo
  rw [List.take_succ_eq_append_getElem hi]
  have:8 - i=9 - (i + 1):=by omega
  rw [this,List.map_append]
  simp only [List.map_cons,List.map_nil,List.append_assoc,List.singleton_append]
theorem F84_eq {f:Nat} {p:List Part} (h:p.length≤100):F84 f p=some p:=by
  unfold F84
  rw [app_small (by simp) (by omega)]
  rfl
theorem F83_l2_eq {f:Nat} {holds:List (List (List Part))} (hs:Small holds) {i:Nat} (hi:i<holds.length) (k1:List (Option (List (List Part)))→Int→Option (List Lot×List (List (List Part)))) (hf:200≤f) :
    F83_l2 f k1 (i:Int) holds[i] f (rowo holds i (some [])) 0=k1 (rowoTo holds (i + 1)) (w64 ((i:Int) + 1)):=by
  have h9:=hs.n9
  have hli:=hs.len _ (List.getElem_mem hi)
  have hlen:((holds.take i).map some).length=i:=by rw [List.length_map,List.length_take]; omega
  have key:=from_st (T:=fun n j=>F83_l2 f k1 (i:Int) holds[i] n (rowo holds i (some (holds[i].take j))) (j:Int)) (len:=holds[i].length) (n:=f) (out:=k1 (rowoTo holds (i + 1)) (w64 ((i:Int) + 1))) (by omega)
    (fun n j hj=>by
      have hp:=hs.heaps _ (List.getElem_mem hi) _ (List.getElem_mem hj)
      simp only [F83_l2,lt_len,hj,decide_true,cond_true,getI_nat hj,Option.bind_some,F84_eq hp]
      unfold rowo getO
      rw [mid_get _ _ _ hlen]
      simp only [Option.bind_some]
      rw [app_small (by simp; omega) (by simp)]
      simp only [Option.bind_some]
      rw [mid_set _ _ _ _ hlen,succ_w (by omega), ← List.take_succ_eq_append_getElem hj])
    (fun n=>by simp only [F83_l2,lt_len,Nat.lt_irrefl,decide_false,cond_false,List.take_length,rowo_to h9 hi])
  simpa using key
theorem allS_some {γ:Type}:∀l:List γ,allS (l.map some)=some l
  | []=>rfl
  | x::l=>by simp [allS,allS_some l]
theorem F83_eq {f:Nat} {lots:List Lot} {holds:List (List (List Part))} (hs:Small holds) (hl:lots.length≤100) (hf:200≤f):F83 f lots holds=some (lots,holds):=by
  have h9:=hs.n9
  unfold F83
  have e1:mkC ((lots.length:Nat):Int) (⟨0,0,0,0⟩:Lot)=some (List.replicate lots.length ⟨0,0,0,0⟩):=by
    unfold mkC
    rw [if_pos (by omega)]; simp
  have e2:cpC (List.replicate lots.length (⟨0,0,0,0⟩:Lot)) lots=some ():=by unfold cpC; rw [if_pos (by simp)]
  rw [e1]
  simp only [Option.bind_some,e2]
  have key:=from_st (T:=fun n i=>F83_l1 f lots holds n (rowoTo holds i) (i:Int)) (len:=9) (n:=f) (out:=some (lots,holds)) (by omega)
    (fun n i hi=>by
      have h1:decide ((i:Int)<9)=true:=decide_eq_true (by omega)
      have hi':i<holds.length:=by omega
      have hlen:((holds.take i).map some).length=i:=by rw [List.length_map,List.length_take]; omega
      simp only [F83_l1,h1,cond_true,getI_nat hi',Option.bind_some]
      rw [rowoTo_at _ hi]
      unfold rowo
      rw [mid_get _ _ _ hlen,mid_set _ _ _ _ hlen]
      have:=F83_l2_eq hs hi' (F83_l1 f lots holds n) hf
      unfold rowo at this
      simp only [Option.bind_some]
      rw [this,succ_w (by omega)])
    (fun n=>by
      have h1:rowoTo holds 9=holds.map some:=by unfold rowoTo; rw [List.take_of_length_le (by omega)]; simp
      simp [F83_l1,h1,allS_some])
  exact key
end Go.Proofs.Ytlmgjjmighajdaa
set_option linter.unusedSimpArgs false
set_option linter.unusedVariables false
namespace Go.Proofs.Ytlmgjjmighajdaa
open Go.Sl Go.Sx
def setOf (p:List Part):List (Int×Bool):=p.foldl (fun D q=>putK D q.lot true) []
def mayOf (holds:List (List (List Part))):List (List (List (Int×Bool))):=holds.map fun l=>l.map setOf
def mayAt (holds:List (List (List Part))) (i:Nat) (v:List (List (Int×Bool))):List (List (List (Int×Bool))):=(holds.take i).map (fun l=>l.map setOf) ++ v::List.replicate (8 - i) []
def mayTo (holds:List (List (List Part))) (i:Nat):List (List (List (Int×Bool))):=(holds.take i).map (fun l=>l.map setOf) ++ List.replicate (9 - i) []
theorem mayTo_at (holds:List (List (List Part))) {i:Nat} (hi:i<9):mayTo holds i=mayAt holds i []:=by
  unfold mayTo mayAt
  have:9 - i=(8 - i) + 1:=by omega
  rw [this,List.replicate_succ]
theorem mayAt_to {holds:List (List (List Part))} {i:Nat} (h9:holds.length=9) (hi:i<holds.length):mayAt holds i (holds[i].map setOf)=mayTo holds (i + 1):=by
  unfold mayTo mayAt
  rw [List.take_succ_eq_append_getElem hi]
  have:8 - i=9 - (i + 1):=by omega
  rw [this,List.map_append]
  simp only [List.map_cons,List.map_nil,List.append_assoc,List.singleton_append]
theorem take_fold {σ α:Type} (g:σ→α→σ) (s:σ) {l:List α} {i:Nat} (hi:i<l.length):(l.take (i + 1)).foldl g s=g ((l.take i).foldl g s) l[i]:=by
  rw [List.take_succ_eq_append_getElem hi,List.foldl_append]; rfl
theorem F81_l3_eq {f:Nat} (k1:Pl→Int→Option Pl) {holds:List (List (List Part))} {i:Nat} (h9:holds.length=9) (hi:i<holds.length) (lots:List Lot) (H:List (List (List Part))) (y3:Int) {p:List Part} (hp:p.length≤100) (v:List (List (Int×Bool))) (hv:v.length≤100) (hf:200≤f) :
    F81_l3 k1 (i:Int) ⟨lots,H,mayAt holds i v⟩ y3 p f [] 0=k1 ⟨lots,H,mayAt holds i (v ++ [setOf p])⟩ (w64 (y3 + 1)):=by
  have hlen:((holds.take i).map fun l=>l.map setOf).length=i:=by rw [List.length_map,List.length_take]; omega
  have key:=from_st (T:=fun n j=>F81_l3 k1 (i:Int) ⟨lots,H,mayAt holds i v⟩ y3 p n ((p.take j).foldl (fun D q=>putK D q.lot true) []) (j:Int)) (len:=p.length) (n:=f) (out:=k1 ⟨lots,H,mayAt holds i (v ++ [setOf p])⟩ (w64 (y3 + 1))) (by omega)
    (fun n j hj=>by
      simp only [F81_l3,lt_len,hj,decide_true,cond_true,getI_nat hj,Option.bind_some]
      rw [succ_w (by omega),take_fold _ _ hj])
    (fun n=>by
      simp only [F81_l3,lt_len,Nat.lt_irrefl,decide_false,cond_false,List.take_length]
      unfold mayAt
      rw [mid_get _ _ _ hlen]
      simp only [Option.bind_some]
      rw [app_small (by omega) (by simp)]
      simp only [Option.bind_some]
      rw [mid_set _ _ _ _ hlen]
      rfl)
  exact key
theorem F81_l2_eq {f:Nat} (k3:Pl→Int→Option Pl) {holds:List (List (List Part))} (hs:Small holds) {i:Nat} (hi:i<holds.length) (lots:List Lot) (hf:200≤f) :
    F81_l2 f k3 (i:Int) holds[i] f ⟨lots,holds,mayTo holds i⟩ 0=k3 ⟨lots,holds,mayTo holds (i + 1)⟩ (w64 ((i:Int) + 1)):=by
  have h9:=hs.n9
  have hli:=hs.len _ (List.getElem_mem hi)
  have key:=from_st (T:=fun n j=>F81_l2 f k3 (i:Int) holds[i] n ⟨lots,holds,mayAt holds i ((holds[i].take j).map setOf)⟩ (j:Int)) (len:=holds[i].length) (n:=f) (out:=k3 ⟨lots,holds,mayTo holds (i + 1)⟩ (w64 ((i:Int) + 1))) (by omega)
    (fun n j hj=>by
      have hp:=hs.heaps _ (List.getElem_mem hi) _ (List.getElem_mem hj)
      simp only [F81_l2,lt_len,hj,decide_true,cond_true,getI_nat hj,Option.bind_some]
      rw [F81_l3_eq _ h9 hi lots holds _ hp _ (by simp; omega) hf,succ_w (by omega),List.take_succ_eq_append_getElem hj,List.map_append]
      rfl)
    (fun n=>by simp only [F81_l2,lt_len,Nat.lt_irrefl,decide_false,cond_false,List.take_length,mayAt_to h9 hi])
  rw [mayTo_at _ (by omega)]
  simpa using key
theorem F81_eq {f:Nat} {lots:List Lot} {holds:List (List (List Part))} (hs:Small holds) (hl:lots.length≤100) (hf:200≤f):F81 f lots holds=some ⟨lots,holds,mayOf holds⟩:=by
  have h9:=hs.n9
  unfold F81
  rw [F83_eq hs hl hf]
  simp only [Option.bind_some]
  have key:=from_st (T:=fun n i=>F81_l1 f holds n ⟨lots,holds,mayTo holds i⟩ (i:Int)) (len:=9) (n:=f) (out:=some ⟨lots,holds,mayOf holds⟩) (by omega)
    (fun n i hi=>by
      have h1:decide ((i:Int)<9)=true:=decide_eq_true (by omega)
      have hi':i<holds.length:=by omega
      simp only [F81_l1,h1,cond_true,getI_nat hi',Option.bind_some]
      rw [F81_l2_eq _ hs hi' lots hf,succ_w (by omega)])
    (fun n=>by
      have h1:mayTo holds 9=mayOf holds:=by unfold mayTo mayOf; rw [List.take_of_length_le (by omega)]; simp
      simp [F81_l1,h1])
  exact key
end Go.Proofs.Ytlmgjjmighajdaa
set_option linter.unusedSimpArgs false
set_option linter.unusedVariables false
namespace Go.Proofs.Ytlmgjjmighajdaa
open Go.Sl Go.Sx
theorem getI_opt {α:Type} (l:List α) (t:Nat):getI l (t:Int)=l[t]? :=by unfold getI; simp
structure At9 (x:Pl) (t:Nat) (H:List (List Part)) (M:List (List (Int×Bool))):Prop where
  h:x.holds[t]? =some H
  m:x.may[t]? =some M
  len:M.length=H.length
  small:H.length≤100
def _root_.Go.Sx.Pl.put (x:Pl) (t:Nat) (H:List (List Part)) (M:List (List (Int×Bool))):Pl:=⟨x.lots,x.holds.set t H,x.may.set t M⟩
theorem _root_.Go.Sx.Pl.put_put (x:Pl) (t:Nat) (H H':List (List Part)) (M M':List (List (Int×Bool))):(x.put t H M).put t H' M'=x.put t H' M':=by simp [Pl.put]
theorem _root_.Go.Sx.Pl.put_self {x:Pl} {t:Nat} {H:List (List Part)} {M:List (List (Int×Bool))} (h:At9 x t H M):x.put t H M=x:=by
  unfold Pl.put
  rw [set_same h.h,set_same h.m]
theorem At9.put {x:Pl} {t:Nat} {H:List (List Part)} {M:List (List (Int×Bool))} (h:At9 x t H M) {H':List (List Part)} {M':List (List (Int×Bool))} (hl:M'.length=H'.length) (hs:H'.length≤100):At9 (x.put t H' M') t H' M':=by
  have h1:=(List.getElem?_eq_some_iff.1 h.h).1
  have h2:=(List.getElem?_eq_some_iff.1 h.m).1
  exact ⟨by simp [Pl.put,h1],by simp [Pl.put,h2],hl,hs⟩
theorem At9.other {x:Pl} {t u:Nat} {H H':List (List Part)} {M M':List (List (Int×Bool))} (h:At9 x t H M) (hne:u≠t):At9 (x.put u H' M') t H M:=by
  refine ⟨?_,?_,h.len,h.small⟩
  · simp only [Pl.put]; rw [List.getElem?_set_ne hne]; exact h.h
  · simp only [Pl.put]; rw [List.getElem?_set_ne hne]; exact h.m
theorem F151_nil {f:Nat} {x:Pl} {t:Nat} (h:At9 x t [] []):F151 f x (t:Int)=some ([],[],x):=by
  unfold F151
  rw [getI_opt,h.h]
  rfl
theorem len_pred {n:Nat} (h:n≤100):w64 (((n + 1:Nat):Int) - 1)=(n:Int):=by rw [w64_id (by omega) (by omega)]; omega
theorem F151_last {f:Nat} {x:Pl} {t:Nat} {H:List (List Part)} {p:List Part} {M:List (List (Int×Bool))} {s:List (Int×Bool)} (h:At9 x t (H ++ [p]) (M ++ [s])):F151 f x (t:Int)=some (p,s,x):=by
  unfold F151
  have hl:M.length=H.length:=by have:=h.len; simpa using this
  have hs:=h.small
  rw [List.length_append] at hs
  have e:((H ++ [p]).length:Int)=((H.length + 1:Nat):Int):=by simp
  simp only [getI_opt,h.h,h.m,Option.bind_some,e,len_pred (n:=H.length) (by simp at hs; omega)]
  have h0:decide ((H.length:Int)<0)=false:=decide_eq_false (by omega)
  rw [h0,cond_false]
  have e1:(H ++ [p])[H.length]? =some p:=by simp
  have e2:(M ++ [s])[H.length]? =some s:=by rw [← hl]; simp
  simp [getI_opt,e1,e2]
theorem F152_nil {f:Nat} {x:Pl} {t:Nat} (h:At9 x t [] []):F152 f x (t:Int)=some x:=by
  unfold F152
  rw [getI_opt,h.h]
  rfl
theorem sub_last {α:Type} (l:List α) (a:α):subI (l ++ [a]) 0 (l.length:Int)=some l:=by
  unfold subI
  rw [if_pos (by simp; omega)]
  simp
theorem F152_last {f:Nat} {x:Pl} {t:Nat} {H:List (List Part)} {p:List Part} {M:List (List (Int×Bool))} {s:List (Int×Bool)} (h:At9 x t (H ++ [p]) (M ++ [s])):F152 f x (t:Int)=some (x.put t H M):=by
  unfold F152
  have hl:M.length=H.length:=by have:=h.len; simpa using this
  have hs:=h.small
  rw [List.length_append] at hs
  have e:((H ++ [p]).length:Int)=((H.length + 1:Nat):Int):=by simp
  simp only [getI_opt,h.h,h.m,Option.bind_some,e,len_pred (n:=H.length) (by simp at hs; omega)]
  have h0:decide ((H.length:Int)≥0)=true:=decide_eq_true (by omega)
  have e2:subI (M ++ [s]) 0 (H.length:Int)=some M:=by rw [← hl]; exact sub_last M s
  rw [h0,cond_true,sub_last,e2]
  simp [Pl.put]
theorem F148_nil {f:Nat} (x:Pl) (t:Int) (s:List (Int×Bool)):F148 f x t [] s=some x:=by unfold F148; rfl
theorem F148_put {f:Nat} {x:Pl} {t:Nat} {H:List (List Part)} {M:List (List (Int×Bool))} (h:At9 x t H M) {p:List Part} (hp:p≠[]) (s:List (Int×Bool)):F148 f x (t:Int) p s=some (x.put t (H ++ [p]) (M ++ [s])):=by
  unfold F148
  have h0:decide ((p.length:Int) > 0)=true:=decide_eq_true (by have:=List.length_pos_iff.2 hp; omega)
  have hs:=h.small
  have hl:=h.len
  rw [h0,cond_true,getI_opt,h.h,getI_opt,h.m]
  simp only [Option.bind_some]
  rw [app_small (by omega) (by simp),app_small (by omega) (by simp)]
  simp [Pl.put]
theorem F150_eq {f:Nat} {a b:List Part} (ha:HeapOk a) (hb:HeapOk b) (s u:List (Int×Bool)) (hf:200≤f):F150 f a s b u=some (mergeP a b,uniK (uniK [] s) u):=by
  unfold F150
  rw [F80_eq ha hb (by omega)]
  obtain ⟨n,rfl⟩:∃n,f=n + 3:=⟨f - 3,by omega⟩
  rfl
theorem merge_ne {a b:List Part} (h:a≠[]∨b≠[]):mergeP a b≠[]:=by
  cases a with
  | nil=>simpa [nil_merge] using h
  | cons p a =>
    cases b with
    | nil=>simp [merge_nil]
    | cons q b =>
      unfold mergeP
      split
      · simp
      · split <;> simp
theorem F146_nil {f:Nat} {x:Pl} {t:Nat} (h:At9 x t [] []) {b:List Part} (hb:HeapOk b) (hne:b≠[]) (u:List (Int×Bool)) (hf:200≤f):F146 f x (t:Int) b u=some (x.put t [b] [uniK [] u]):=by
  unfold F146 F146_j1
  have h0:HeapOk []:=⟨by simp,by simp,List.Pairwise.nil,by simp [sumM]⟩
  rw [F151_nil h]
  simp only [Option.bind_some]
  rw [F150_eq h0 hb _ _ hf]
  simp only [Option.bind_some,nil_merge]
  rw [F152_nil h]
  simp only [Option.bind_some]
  rw [F148_put h hne]
  rfl
theorem F146_last {f:Nat} {x:Pl} {t:Nat} {H:List (List Part)} {p:List Part} {M:List (List (Int×Bool))} {s:List (Int×Bool)} (h:At9 x t (H ++ [p]) (M ++ [s])) {b:List Part} (hp:HeapOk p) (hb:HeapOk b) (hne:p≠[]∨b≠[]) (u:List (Int×Bool)) (hf:200≤f) :
    F146 f x (t:Int) b u=some (x.put t (H ++ [mergeP p b]) (M ++ [uniK (uniK [] s) u])):=by
  unfold F146 F146_j1
  have hl:M.length=H.length:=by have:=h.len; simpa using this
  have hs:=h.small
  rw [List.length_append] at hs
  rw [F151_last h]
  simp only [Option.bind_some]
  rw [F150_eq hp hb _ _ hf]
  simp only [Option.bind_some]
  rw [F152_last h]
  simp only [Option.bind_some]
  rw [F148_put (h.put hl (by omega)) (merge_ne hne),Pl.put_put]
  rfl
end Go.Proofs.Ytlmgjjmighajdaa
set_option linter.unusedSimpArgs false
set_option linter.unusedVariables false
namespace Go.Proofs.Ytlmgjjmighajdaa
open Go.Sl Go.Sx
structure In (ids:List Int) (h:List Part):Prop where
  ok:∀p∈h,PartOk p
  rise:h.Pairwise fun a b=>a.lot<b.lot
  ids:∀p∈h,p.lot∈ids
theorem In.nil (ids:List Int):In ids []:=⟨by simp,List.Pairwise.nil,by simp⟩
theorem nodup_len {α:Type} [DecidableEq α]:∀ {l m:List α},l.Nodup→(∀x∈l,x∈m)→l.length≤m.length
  | [],m,_,_=>by simp
  | x::l,m,hn,h=>by
    have hx:x∈m:=h x (by simp)
    have hn':=List.nodup_cons.1 hn
    have ih:=nodup_len (l:=l) (m:=m.erase x) hn'.2 fun y hy=>by
      have:y≠x:=fun e=>hn'.1 (e ▸ hy)
      exact (List.mem_erase_of_ne this).2 (h y (by simp [hy]))
    have:=List.length_erase_of_mem hx
    have hpos:0<m.length:=List.length_pos_of_mem hx
    simp only [List.length_cons]
    omega
theorem In.len {ids:List Int} {h:List Part} (k:In ids h):h.length≤ids.length:=by
  have h1:(h.map (·.lot)).Nodup:=by
    rw [List.Nodup,List.pairwise_map]
    exact k.rise.imp fun e=>by omega
  have:=nodup_len h1 (m:=ids) fun x hx=>by
    obtain ⟨p,hp,rfl⟩:=List.mem_map.1 hx
    exact k.ids p hp
  simpa using this
theorem In.heap {ids:List Int} {h:List Part} (k:In ids h) (hl:ids.length≤40) (hs:sumM h≤100000000):HeapOk h:=⟨by have:=k.len; omega,k.ok,k.rise,hs⟩
theorem merge_sum:∀(n:Nat) (a b:List Part),a.length + b.length≤n→sumM (mergeP a b)=sumM a + sumM b
  | _,[],b,_=>by rw [nil_merge]; simp [sumM]
  | _,p::a,[],_=>by rw [merge_nil]; simp [sumM]
  | 0,p::a,q::b,h=>by simp at h
  | n + 1,p::a,q::b,h=>by
    simp only [List.length_cons] at h
    rcases Int.lt_trichotomy p.lot q.lot with e | e | e
    · rw [merge_lt e]
      have:=merge_sum n a (q::b) (by simp only [List.length_cons]; omega)
      simp only [sumM,List.map_cons,List.sum_cons] at this ⊢
      omega
    · rw [merge_eq e]
      have:=merge_sum n a b (by omega)
      simp only [sumM,List.map_cons,List.sum_cons] at this ⊢
      omega
    · rw [merge_gt e]
      have:=merge_sum n (p::a) b (by simp only [List.length_cons]; omega)
      simp only [sumM,List.map_cons,List.sum_cons] at this ⊢
      omega
theorem merge_lots:∀(n:Nat) (a b:List Part),a.length + b.length≤n→∀x∈mergeP a b,(∃p∈a,p.lot=x.lot)∨(∃q∈b,q.lot=x.lot)
  | _,[],b,_,x,hx=>by rw [nil_merge] at hx; exact .inr ⟨x,hx,rfl⟩
  | _,p::a,[],_,x,hx=>by rw [merge_nil] at hx; exact .inl ⟨x,hx,rfl⟩
  | 0,p::a,q::b,h,_,_=>by simp at h
  | n + 1,p::a,q::b,h,x,hx=>by
    simp only [List.length_cons] at h
    rcases Int.lt_trichotomy p.lot q.lot with e | e | e
    · rw [merge_lt e] at hx
      rcases List.mem_cons.1 hx with rfl | hx
      · exact .inl ⟨x,by simp,rfl⟩
      · rcases merge_lots n a (q::b) (by simp only [List.length_cons]; omega) x hx with ⟨r,hr,k⟩ | k
        · exact .inl ⟨r,by simp [hr],k⟩
        · exact .inr k
    · rw [merge_eq e] at hx
      rcases List.mem_cons.1 hx with rfl | hx
      · exact .inl ⟨p,by simp,rfl⟩
      · rcases merge_lots n a b (by omega) x hx with ⟨r,hr,k⟩ | ⟨r,hr,k⟩
        · exact .inl ⟨r,by simp [hr],k⟩
        · exact .inr ⟨r,by simp [hr],k⟩
    · rw [merge_gt e] at hx
      rcases List.mem_cons.1 hx with rfl | hx
      · exact .inr ⟨x,by simp,rfl⟩
      · rcases merge_lots n (p::a) b (by simp only [List.length_cons]; omega) x hx with k | ⟨r,hr,k⟩
        · exact .inl k
        · exact .inr ⟨r,by simp [hr],k⟩
theorem merge_rise:∀(n:Nat) (a b:List Part),a.length + b.length≤n→(a.Pairwise fun x y=>x.lot<y.lot)→(b.Pairwise fun x y=>x.lot<y.lot)→(mergeP a b).Pairwise fun x y=>x.lot<y.lot
  | _,[],b,_,_,hb=>by rw [nil_merge]; exact hb
  | _,p::a,[],_,ha,_=>by rw [merge_nil]; exact ha
  | 0,p::a,q::b,h,_,_=>by simp at h
  | n + 1,p::a,q::b,h,ha,hb=>by
    simp only [List.length_cons] at h
    have ha':=List.pairwise_cons.1 ha
    have hb':=List.pairwise_cons.1 hb
    rcases Int.lt_trichotomy p.lot q.lot with e | e | e
    · rw [merge_lt e]
      refine List.pairwise_cons.2 ⟨fun x hx=>?_,merge_rise n a (q::b) (by simp only [List.length_cons]; omega) ha'.2 hb⟩
      rcases merge_lots _ a (q::b) (Nat.le_refl _) x hx with ⟨r,hr,k⟩ | ⟨r,hr,k⟩
      · have:=ha'.1 r hr; omega
      · rcases List.mem_cons.1 hr with rfl | hr
        · omega
        · have:=hb'.1 r hr; omega
    · rw [merge_eq e]
      refine List.pairwise_cons.2 ⟨fun x hx=>?_,merge_rise n a b (by omega) ha'.2 hb'.2⟩
      show p.lot<x.lot
      rcases merge_lots _ a b (Nat.le_refl _) x hx with ⟨r,hr,k⟩ | ⟨r,hr,k⟩
      · have:=ha'.1 r hr; omega
      · have:=hb'.1 r hr; omega
    · rw [merge_gt e]
      refine List.pairwise_cons.2 ⟨fun x hx=>?_,merge_rise n (p::a) b (by simp only [List.length_cons]; omega) ha hb'.2⟩
      rcases merge_lots _ (p::a) b (Nat.le_refl _) x hx with ⟨r,hr,k⟩ | ⟨r,hr,k⟩
      · rcases List.mem_cons.1 hr with rfl | hr
        · omega
        · have:=ha'.1 r hr; omega
      · have:=hb'.1 r hr; omega
theorem sumM_ge:∀ {h:List Part},(∀p∈h,1≤p.mass)→∀p∈h,p.mass≤sumM h
  | [],_,p,hp=>by cases hp
  | q::h,hk,p,hp=>by
    have h0:0≤sumM h:=by
      clear hp
      have:∀ {l:List Part},(∀p∈l,1≤p.mass)→0≤sumM l:=by
        intro l
        induction l with
        | nil=>intro _; simp [sumM]
        | cons x l ih=>intro h; have:=ih fun y hy=>h y (by simp [hy]); have:=h x (by simp); simp only [sumM,List.map_cons,List.sum_cons] at *; omega
      exact this fun y hy=>hk y (by simp [hy])
    have h1:=hk q (by simp)
    simp only [sumM,List.map_cons,List.sum_cons] at h0 ⊢
    rcases List.mem_cons.1 hp with rfl | hp
    · omega
    · have:=sumM_ge (h:=h) (fun y hy=>hk y (by simp [hy])) p hp
      simp only [sumM] at this
      omega
theorem merge_mass:∀(n:Nat) (a b:List Part),a.length + b.length≤n→(∀p∈a,1≤p.mass)→(∀p∈b,1≤p.mass)→∀x∈mergeP a b,1≤x.mass
  | _,[],b,_,_,hb,x,hx=>by rw [nil_merge] at hx; exact hb x hx
  | _,p::a,[],_,ha,_,x,hx=>by rw [merge_nil] at hx; exact ha x hx
  | 0,p::a,q::b,h,_,_,_,_=>by simp at h
  | n + 1,p::a,q::b,h,ha,hb,x,hx=>by
    simp only [List.length_cons] at h
    rcases Int.lt_trichotomy p.lot q.lot with e | e | e
    · rw [merge_lt e] at hx
      rcases List.mem_cons.1 hx with rfl | hx
      · exact ha x (by simp)
      · exact merge_mass n a (q::b) (by simp only [List.length_cons]; omega) (fun y hy=>ha y (by simp [hy])) hb x hx
    · rw [merge_eq e] at hx
      rcases List.mem_cons.1 hx with rfl | hx
      · have:=ha p (by simp); have:=hb q (by simp)
        show 1≤p.mass + q.mass
        omega
      · exact merge_mass n a b (by omega) (fun y hy=>ha y (by simp [hy])) (fun y hy=>hb y (by simp [hy])) x hx
    · rw [merge_gt e] at hx
      rcases List.mem_cons.1 hx with rfl | hx
      · exact hb x (by simp)
      · exact merge_mass n (p::a) b (by simp only [List.length_cons]; omega) ha (fun y hy=>hb y (by simp [hy])) x hx
theorem In.merge {ids:List Int} {a b:List Part} (ha:In ids a) (hb:In ids b) (hs:sumM a + sumM b≤100000000):In ids (mergeP a b):=by
  have hm:=merge_mass _ a b (Nat.le_refl _) (fun p hp=>(ha.ok p hp).m0) (fun p hp=>(hb.ok p hp).m0)
  refine ⟨fun x hx=>?_,merge_rise _ a b (Nat.le_refl _) ha.rise hb.rise,fun x hx=>?_⟩
  · have h1:=sumM_ge hm x hx
    rw [merge_sum _ a b (Nat.le_refl _)] at h1
    have h2:=hm x hx
    rcases merge_lots _ a b (Nat.le_refl _) x hx with ⟨r,hr,k⟩ | ⟨r,hr,k⟩
    · have:=ha.ok r hr
      exact ⟨by have:=this.l0; omega,by have:=this.l1; omega,h2,by omega⟩
    · have:=hb.ok r hr
      exact ⟨by have:=this.l0; omega,by have:=this.l1; omega,h2,by omega⟩
  · rcases merge_lots _ a b (Nat.le_refl _) x hx with ⟨r,hr,k⟩ | ⟨r,hr,k⟩
    · rw [← k]; exact ha.ids r hr
    · rw [← k]; exact hb.ids r hr
end Go.Proofs.Ytlmgjjmighajdaa
set_option linter.unusedSimpArgs false
set_option linter.unusedVariables false
namespace Go.Proofs.Ytlmgjjmighajdaa
open Go.Sl Go.Sx
theorem getK_put {β:Type}:∀(D:List (Int×β)) (k:Int) (v:β) (j:Int),getK (putK D k v) j=if k=j then some v else getK D j
  | [],k,v,j=>by
    by_cases e:k=j
    · simp [putK,getK,e]
    · have:(k == j)=false:=by simpa using e
      simp [putK,getK,e,this]
  | p::D,k,v,j=>by
    have bk:∀a b:Int,(a == b)=decide (a=b):=fun a b=>rfl
    by_cases e:k=j
    · subst e
      by_cases h1:k<p.1
      · simp [putK,getK,h1]
      · by_cases h2:k=p.1
        · simp [putK,getK,h2]
        · have h3:¬ p.1=k:=fun x=>h2 x.symm
          have ih:=getK_put D k v k
          rw [if_pos rfl] at ih
          simp only [putK,bk,decide_eq_false h1,decide_eq_false h2,cond_false,getK,decide_eq_false h3,if_true]
          exact ih
    · have hj:(k == j)=false:=by simpa using e
      by_cases h1:k<p.1
      · simp [putK,getK,h1,hj,e]
      · by_cases h2:k=p.1
        · have h3:(p.1 == j)=false:=by rw [← h2]; exact hj
          subst h2
          simp [putK,getK,e,hj]
        · have ih:=getK_put D k v j
          rw [if_neg e] at ih
          simp only [putK,bk,decide_eq_false h1,decide_eq_false h2,cond_false,getK,if_neg e]
          rw [ih]
def Tin (s:List (Int×Bool)) (l:Int):Prop:=lkK s l false=true
theorem tin_put {s:List (Int×Bool)} {k l:Int}:Tin (putK s k true) l↔k=l∨Tin s l:=by
  unfold Tin lkK
  rw [getK_put]
  by_cases e:k=l <;> simp [e]
theorem tin_mem:∀ {s:List (Int×Bool)} {l:Int},Tin s l→(l,true)∈s
  | [],l,h=>by simp [Tin,lkK,getK] at h
  | p::s,l,h=>by
    by_cases e:p.1=l
    · have:p.2=true:=by simpa [Tin,lkK,getK,e] using h
      rw [← e, ← this]; simp
    · have e':(p.1 == l)=false:=by simpa using e
      have:Tin s l:=by simpa [Tin,lkK,getK,e'] using h
      exact List.mem_cons_of_mem _ (tin_mem this)
theorem uni_in:∀ {s D:List (Int×Bool)} {l:Int},(l,true)∈s∨Tin D l→Tin (uniK D s) l
  | [],D,l,h=>by
    rcases h with h | h
    · cases h
    · exact h
  | p::s,D,l,h=>by
    show Tin (uniK (putK D p.1 true) s) l
    refine uni_in ?_
    rcases h with h | h
    · rcases List.mem_cons.1 h with e | h
      · exact .inr (tin_put.2 (.inl (by rw [← e])))
      · exact .inl h
    · exact .inr (tin_put.2 (.inr h))
def Has1 (p:List Part) (s:List (Int×Bool)):Prop:=∀q∈p,Tin s q.lot
theorem Has1.nil (s:List (Int×Bool)):Has1 [] s:=fun q hq=>by cases hq
theorem Has1.merge {a b:List Part} {s u:List (Int×Bool)} (ha:Has1 a s) (hb:Has1 b u):Has1 (mergeP a b) (uniK (uniK [] s) u):=fun x hx=>by
  rcases merge_lots _ a b (Nat.le_refl _) x hx with ⟨r,hr,k⟩ | ⟨r,hr,k⟩
  · rw [← k]; exact uni_in (.inr (uni_in (.inl (tin_mem (ha r hr)))))
  · rw [← k]; exact uni_in (.inl (tin_mem (hb r hr)))
theorem Has1.sub {a b:List Part} {s:List (Int×Bool)} (h:Has1 a s) (hs:∀q∈b,∃p∈a,p.lot=q.lot):Has1 b s:=fun q hq=>by
  obtain ⟨p,hp,e⟩:=hs q hq
  rw [← e]; exact h p hp
def Tells:List (List Part)→List (List (Int×Bool))→Prop
  | [],[]=>True
  | p::H,s::M=>Has1 p s∧Tells H M
  | _,_=>False
theorem Tells.len:∀ {H:List (List Part)} {M:List (List (Int×Bool))},Tells H M→M.length=H.length
  | [],[],_=>rfl
  | p::H,s::M,h=>by have:=Tells.len h.2; simp [this]
  | [],_::_,h=>h.elim
  | _::_,[],h=>h.elim
theorem Tells.append:∀ {H:List (List Part)} {M:List (List (Int×Bool))} {p:List Part} {s:List (Int×Bool)},Tells H M→Has1 p s→Tells (H ++ [p]) (M ++ [s])
  | [],[],p,s,_,k=>⟨k,trivial⟩
  | _::_,_::_,_,_,h,k=>⟨h.1,Tells.append h.2 k⟩
  | [],_::_,_,_,h,_=>h.elim
  | _::_,[],_,_,h,_=>h.elim
theorem Tells.left:∀ {H:List (List Part)} {M:List (List (Int×Bool))} {p:List Part} {s:List (Int×Bool)},M.length=H.length→Tells (H ++ [p]) (M ++ [s])→Tells H M∧Has1 p s
  | [],[],p,s,_,k=>⟨trivial,k.1⟩
  | _::_,_::_,_,_,e,k=>by have:=Tells.left (by simpa using e) k.2; exact ⟨⟨k.1,this.1⟩,this.2⟩
  | [],_::_,_,_,e,_=>by simp at e
  | _::_,[],_,_,e,_=>by simp at e
theorem Tells.at:∀ {H:List (List Part)} {M:List (List (Int×Bool))},Tells H M→∀i (hi:i<H.length) (hm:i<M.length),Has1 H[i] M[i]
  | [],[],_,i,hi,_=>by simp at hi
  | _::_,_::_,h,0,_,_=>h.1
  | _::_,_::_,h,i + 1,hi,hm=>Tells.at h.2 i (by simpa using hi) (by simpa using hm)
  | [],_::_,h,_,_,_=>h.elim
  | _::_,[],h,_,_,_=>h.elim
end Go.Proofs.Ytlmgjjmighajdaa
set_option linter.unusedSimpArgs false
set_option linter.unusedVariables false
namespace Go.Proofs.Ytlmgjjmighajdaa
open Go.Sl Go.Sx
def tk (h:List Part) (m:Int):List Part:=takenL h (dealH m h)
def lf (h:List Part) (m:Int):List Part:=leftL h (dealH m h)
structure Cut (ids:List Int) (h:List Part) (m:Int):Prop where
  inn:In ids h
  i8:ids.length≤8
  s:sumM h≤100000000
  m0:0≤m
  m1:m≤sumM h
variable {ids : List Int} {h : List Part} {m : Int}
theorem Cut.heap (c:Cut ids h m):HeapOk h:=c.inn.heap (by have:=c.i8; omega) c.s
theorem Cut.len (c:Cut ids h m):h.length<20:=by have:=c.inn.len; have:=c.i8; omega
theorem Cut.fits (c:Cut ids h m):Fits h (dealH m h)∧(dealH m h).sum=m:=by
  obtain ⟨h1,h2⟩:=fits_heap c.heap c.m0 c.m1 c.len
  refine ⟨h1,h2.trans ?_⟩
  split
  · rename_i e; have:=c.m1; have:=c.m0; subst e; simp [sumM] at *; omega
  · rfl
theorem Cut.tk_sum (c:Cut ids h m):sumM (tk h m)=m:=(taken_sum c.fits.1).trans c.fits.2
theorem Cut.lf_sum (c:Cut ids h m):sumM (lf h m)=sumM h - m:=by have:=left_sum c.fits.1; rw [c.fits.2] at this; exact this
theorem Has1.tk (c:Cut ids h m) {s:List (Int×Bool)} (k:Has1 h s):Has1 (tk h m) s:=k.sub fun q hq=>taken_lots hq
theorem Has1.lf (c:Cut ids h m) {s:List (Int×Bool)} (k:Has1 h s):Has1 (lf h m) s:=k.sub fun q hq=>left_lots hq
theorem Cut.tk_in (c:Cut ids h m):In ids (tk h m):=⟨taken_part c.fits.1 c.inn.ok,taken_rise c.inn.rise,fun q hq=>by obtain ⟨p,hp,e⟩:=taken_lots hq; rw [← e]; exact c.inn.ids p hp⟩
theorem Cut.lf_in (c:Cut ids h m):In ids (lf h m):=⟨left_part c.fits.1 c.inn.ok,left_rise c.inn.rise,fun q hq=>by obtain ⟨p,hp,e⟩:=left_lots hq; rw [← e]; exact c.inn.ids p hp⟩
theorem In.pos (k:In ids h) (hne:h≠[]):0<sumM h:=by
  obtain ⟨p,hp⟩:=List.exists_mem_of_ne_nil _ hne
  have h1:=sumM_ge (fun q hq=>(k.ok q hq).m0) p hp
  have:=(k.ok p hp).m0
  omega
theorem Cut.lf_nil (c:Cut ids h m) (e:m=sumM h):lf h m=[]:=by
  by_cases hne:lf h m=[]
  · exact hne
  · have:=c.lf_in.pos hne; have:=c.lf_sum; omega
theorem Cut.F91 (c:Cut ids h m) {f:Nat} (hf:200≤f):F91 f h m=some (tk h m,lf h m):=F91_eq c.heap c.m0 c.m1 c.len (by omega)
theorem Cut.F93 (c:Cut ids h m) {f:Nat} (hf:200≤f):F93 f h m=some (tk h m,lf h m):=F93_eq c.heap c.m0 c.m1 c.len hf
def drawR:List (List Part)→List Part→Int→List (List Part)×List Part
  | [],out,_=>([],out)
  | p::r,out,m=>if m≤sumM p then ((if lf p m=[] then r else lf p m::r),mergeP out (tk p m)) else drawR r (mergeP out (tk p (sumM p))) (m - sumM p)
structure Hold (ids:List Int) (r:List (List Part)):Prop where
  i8:ids.length≤8
  ins:∀p∈r,In ids p
  ne:∀p∈r,p≠[]
  len:r.length≤100
theorem Hold.sum_pos {r:List (List Part)} (k:Hold ids r):0≤sumH r:=by
  have:∀l:List (List Part),(∀p∈l,In ids p)→(∀p∈l,p≠[])→0≤sumH l:=by
    intro l
    induction l with
    | nil=>intro _ _; simp [sumH]
    | cons p l ih =>
      intro h1 h2
      have:=ih (fun q hq=>h1 q (by simp [hq])) fun q hq=>h2 q (by simp [hq])
      have:=(h1 p (by simp)).pos (h2 p (by simp))
      simp only [sumH,List.map_cons,List.sum_cons] at *
      omega
  exact this r k.ins k.ne
theorem Hold.tail {p:List Part} {r:List (List Part)} (k:Hold ids (p::r)):Hold ids r:=⟨k.i8,fun q hq=>k.ins q (by simp [hq]),fun q hq=>k.ne q (by simp [hq]),by have:=k.len; simp at this; omega⟩
theorem F140_l1_eq {f:Nat} (hf:200≤f) (t:Nat):∀(r:List (List Part)) (n:Nat) (x:Pl) (M:List (List (Int×Bool))) (out:List Part) (s:List (Int×Bool)) (m:Int),r.length<n→Hold ids r→At9 x t r.reverse M→In ids out →
    0<m→m≤sumH r→sumM out + sumH r≤100000000 →
    ∃s' M',M'.length=(drawR r out m).1.length∧F140_l1 f (t:Int) n x out s m=some ((drawR r out m).2,s',x.put t (drawR r out m).1.reverse M') ∧
      (∀u∈M',u∈M)∧(Tells r.reverse M→Has1 out s→Tells (drawR r out m).1.reverse M'∧Has1 (drawR r out m).2 s')
  | [],n,x,M,out,s,m,_,_,_,_,h0,h1,_=>by simp [sumH] at h1; omega
  | p::r,0,x,M,out,s,m,hn,_,_,_,_,_,_=>by simp at hn
  | p::r,n + 1,x,M,out,s,m,hn,hk,ha,ho,h0,h1,h2=>by
    have e:(p::r).reverse=r.reverse ++ [p]:=by simp
    rw [e] at ha
    have hlen:=ha.len
    obtain ⟨M',s1,rfl⟩:∃M' s1,M=M' ++ [s1]:=by
      rcases List.eq_nil_or_concat M with rfl | ⟨M',s1,rfl⟩
      · simp at hlen
      · exact ⟨M',s1,by simp⟩
    have hM:M'.length=r.reverse.length:=by simpa using hlen
    have hr:=hk.tail
    have hsr:=hr.sum_pos
    have hp:=hk.ins p (by simp)
    have hpp:=hp.pos (hk.ne p (by simp))
    have hsum:sumH (p::r)=sumM p + sumH r:=by simp [sumH]
    rw [hsum] at h1 h2
    have hoo:0≤sumM out:=by
      by_cases e:out=[]
      · subst e; simp [sumM]
      · have:=ho.pos e; omega
    have hpl:(((r.reverse ++ [p]).length:Nat):Int) > 0:=by simp
    have hph:=hp.heap (by have:=hk.i8; omega) (by omega)
    have hat:At9 (x.put t r.reverse M') t r.reverse M':=ha.put hM (by have:=hk.len; simp at this ⊢; omega)
    simp only [F140_l1,getI_opt,ha.h,Option.bind_some,decide_eq_true hpl,cond_true]
    rw [F151_last ha]
    simp only [Option.bind_some]
    rw [F152_last ha]
    simp only [Option.bind_some]
    rw [F90_eq hph (by omega)]
    simp only [Option.bind_some]
    by_cases hle:m≤sumM p
    · have hmin:(if sumM p<m then sumM p else m)=m:=if_neg (by omega)
      have c:Cut ids p m:=⟨hp,hk.i8,by omega,by omega,hle⟩
      have hw:w64 (m - m)=0:=by rw [Int.sub_self]; rfl
      have htk:=c.tk_sum
      simp only [hmin]
      rw [c.F91 hf]
      simp only [Option.bind_some]
      rw [F150_eq (ho.heap (by have:=hk.i8; omega) (by omega)) (c.tk_in.heap (by have:=hk.i8; omega) (by omega)) _ _ hf]
      simp only [Option.bind_some,hw,beq_self_eq_true,cond_true]
      simp only [drawR,if_pos hle]
      by_cases hl:lf p m=[]
      · rw [hl,F148_nil]
        refine ⟨uniK (uniK [] s) s1,M',by simpa using hM,by simp,fun u hu=>by simp [hu],fun ht ho=>?_⟩
        rw [e] at ht
        obtain ⟨t1,t2⟩:=Tells.left hM ht
        exact ⟨by simpa using t1,ho.merge (t2.tk c)⟩
      · rw [F148_put hat hl,Pl.put_put]
        refine ⟨uniK (uniK [] s) s1,M' ++ [s1],by simp [hl]; simpa using hM,by simp [hl],fun u hu=>hu,fun ht ho=>?_⟩
        rw [e] at ht
        obtain ⟨t1,t2⟩:=Tells.left hM ht
        exact ⟨by simpa [hl] using t1.append (t2.lf c),ho.merge (t2.tk c)⟩
    · have hmin:(if sumM p<m then sumM p else m)=sumM p:=if_pos (by omega)
      have c:Cut ids p (sumM p):=⟨hp,hk.i8,by omega,by omega,Int.le_refl _⟩
      have hw:w64 (m - sumM p)=m - sumM p:=w64_id (by omega) (by omega)
      have htk:=c.tk_sum
      have hb:(m - sumM p == 0)=false:=by
        have:¬ m - sumM p=0:=by omega
        simpa using this
      simp only [hmin]
      rw [c.F91 hf]
      simp only [Option.bind_some]
      rw [F150_eq (ho.heap (by have:=hk.i8; omega) (by omega)) (c.tk_in.heap (by have:=hk.i8; omega) (by omega)) _ _ hf]
      simp only [Option.bind_some,hw,hb,cond_false]
      have hms:=merge_sum _ out (tk p (sumM p)) (Nat.le_refl _)
      obtain ⟨s',M2,hl,e2,hu,hT⟩:=F140_l1_eq hf t r n (x.put t r.reverse M') M' (mergeP out (tk p (sumM p))) (uniK (uniK [] s) s1) (m - sumM p) (by simp at hn; omega) hr hat (ho.merge c.tk_in (by omega)) (by omega) (by omega) (by omega)
      rw [e2,Pl.put_put]
      simp only [drawR,if_neg hle]
      refine ⟨s',M2,hl,rfl,fun u k=>by simp [hu u k],fun ht ho=>?_⟩
      rw [e] at ht
      obtain ⟨t1,t2⟩:=Tells.left hM ht
      exact hT t1 (ho.merge (t2.tk c))
end Go.Proofs.Ytlmgjjmighajdaa
set_option linter.unusedSimpArgs false
set_option linter.unusedVariables false
namespace Go.Proofs.Ytlmgjjmighajdaa
open Go.Sl Go.Sx
variable {ids : List Int} {h : List Part} {m : Int}
theorem F87_l1_eq {f:Nat} (hf:200≤f):∀(r:List (List Part)) (n:Nat) (out:List Part) (m:Int),r.length + 1<n→Hold ids r→In ids out →
    0<m→m≤sumH r→sumM out + sumH r≤100000000 →
    F87_l1 f n r.reverse out m=some ((drawR r out m).1.reverse,(drawR r out m).2)
  | [],n,out,m,_,_,_,h0,h1,_=>by simp [sumH] at h1; omega
  | p::r,0,out,m,hn,_,_,_,_,_=>by simp at hn
  | p::r,n + 1,out,m,hn,hk,ho,h0,h1,h2=>by
    have e:(p::r).reverse=r.reverse ++ [p]:=by simp
    have hr:=hk.tail
    have hsr:=hr.sum_pos
    have hp:=hk.ins p (by simp)
    have hpp:=hp.pos (hk.ne p (by simp))
    have hsum:sumH (p::r)=sumM p + sumH r:=by simp [sumH]
    have hkl:=hk.len
    simp only [List.length_cons] at hkl hn
    rw [hsum] at h1 h2
    have hoo:0≤sumM out:=by
      by_cases e:out=[]
      · subst e; simp [sumM]
      · have:=ho.pos e; omega
    have hph:=hp.heap (by have:=hk.i8; omega) (by omega)
    have hlen:w64 (((r.reverse ++ [p]).length:Int) - 1)=(r.reverse.length:Int):=by
      have:((r.reverse ++ [p]).length:Int)=((r.reverse.length + 1:Nat):Int):=by simp
      rw [this,len_pred (by simp; omega)]
    have hget:getI (r.reverse ++ [p]) (r.reverse.length:Int)=some p:=by rw [getI_opt]; simp
    have hm0:decide (m > 0)=true:=decide_eq_true h0
    rw [e]
    simp only [F87_l1,hm0,cond_true,hlen,hget,Option.bind_some,sub_last]
    rw [F92_90,F90_eq hph (by omega)]
    simp only [Option.bind_some]
    by_cases hle:m≤sumM p
    · have hmin:(if sumM p<m then sumM p else m)=m:=if_neg (by omega)
      have c:Cut ids p m:=⟨hp,hk.i8,by omega,by omega,hle⟩
      have hw:w64 (m - m)=0:=by rw [Int.sub_self]; rfl
      have htk:=c.tk_sum
      obtain ⟨n',rfl⟩:∃n',n=n' + 1:=⟨n - 1,by omega⟩
      simp only [hmin]
      rw [c.F93 hf]
      simp only [Option.bind_some]
      rw [F89_eq (ho.heap (by have:=hk.i8; omega) (by omega)) (c.tk_in.heap (by have:=hk.i8; omega) (by omega)) (by omega)]
      simp only [Option.bind_some,drawR,if_pos hle]
      have hz:decide ((0:Int) > 0)=false:=rfl
      by_cases hl:lf p m=[]
      · have:decide (((lf p m).length:Int) > 0)=false:=by rw [hl]; rfl
        rw [this,cond_false,if_pos hl]
        simp only [F87_j1,hmin,hw,F87_l1,hz,cond_false]
      · have:decide (((lf p m).length:Int) > 0)=true:=decide_eq_true (by have:=List.length_pos_iff.2 hl; omega)
        rw [this,cond_true,if_neg hl,app_small (by simp; omega) (by simp)]
        simp only [Option.bind_some,F87_j1,hmin,hw,F87_l1,hz,cond_false]
        simp
    · have hmin:(if sumM p<m then sumM p else m)=sumM p:=if_pos (by omega)
      have c:Cut ids p (sumM p):=⟨hp,hk.i8,by omega,by omega,Int.le_refl _⟩
      have hw:w64 (m - sumM p)=m - sumM p:=w64_id (by omega) (by omega)
      have htk:=c.tk_sum
      have hl:=c.lf_nil rfl
      simp only [hmin]
      rw [c.F93 hf]
      simp only [Option.bind_some]
      rw [F89_eq (ho.heap (by have:=hk.i8; omega) (by omega)) (c.tk_in.heap (by have:=hk.i8; omega) (by omega)) (by omega)]
      have:decide (((lf p (sumM p)).length:Int) > 0)=false:=by rw [hl]; rfl
      simp only [Option.bind_some,this,cond_false,F87_j1,hmin,hw]
      have hms:=merge_sum _ out (tk p (sumM p)) (Nat.le_refl _)
      rw [F87_l1_eq hf r n (mergeP out (tk p (sumM p))) (m - sumM p) (by omega) hr (ho.merge c.tk_in (by omega)) (by omega) (by omega) (by omega)]
      simp only [drawR,if_neg hle]
theorem F87_eq {f:Nat} (hf:200≤f) {H:List (List Part)} (hk:Hold ids H.reverse) {m:Int} (h0:0<m) (h1:m≤sumH H.reverse) (h2:sumH H.reverse≤100000000) :
    F87 f H m=some ((drawR H.reverse [] m).1.reverse,(drawR H.reverse [] m).2):=by
  have hl:=hk.len
  rw [List.length_reverse] at hl
  unfold F87
  rw [app_small (by simp) (by omega)]
  simp only [Option.bind_some,List.nil_append]
  have:=F87_l1_eq hf H.reverse f [] m (by simp; omega) hk (In.nil ids) h0 h1 (by simp [sumM]; omega)
  rwa [List.reverse_reverse] at this
end Go.Proofs.Ytlmgjjmighajdaa
set_option linter.unusedSimpArgs false
set_option linter.unusedVariables false
namespace Go.Proofs.Ytlmgjjmighajdaa
open Go.Sl Go.Sx
variable {ids : List Int} {h : List Part} {m : Int}
def loseL:List (List Part)→List Int→List (List Part)→List Part→List (List Part)×List Part
  | p::H,n::d,res,out=>loseL H d (if lf p n=[] then res else res ++ [lf p n]) (mergeP out (tk p n))
  | _,_,res,out=>(res,out)
inductive Fit (ids:List Int):List (List Part)→List Int→Prop
  | nil:Fit ids [] []
  | cons {p:List Part} {H:List (List Part)} {n:Int} {d:List Int}:Cut ids p n→Fit ids H d→Fit ids (p::H) (n::d)
theorem Fit.len:∀ {H:List (List Part)} {d:List Int},Fit ids H d→d.length=H.length
  | _,_, .nil=>rfl
  | _,_, .cons _ k=>by simp [k.len]
theorem Fit.of:∀ {H:List (List Part)} {d:List Int},d.length=H.length→(∀i (hi:i<H.length) (hd:i<d.length),Cut ids H[i] d[i])→Fit ids H d
  | [],[],_,_=> .nil
  | [],_::_,e,_=>by cases e
  | _::_,[],e,_=>by cases e
  | p::H,n::d,e,k=> .cons (k 0 (by simp) (by simp)) (Fit.of (by simpa using e) fun i hi hd=>k (i + 1) (by simpa using hi) (by simpa using hd))
theorem Fit.sum0:∀ {H:List (List Part)} {d:List Int},Fit ids H d→0≤d.sum
  | _,_, .nil=>by simp
  | _,_, .cons c k=>by have:=k.sum0; have:=c.m0; simp only [List.sum_cons]; omega
theorem Fit.at:∀ {H:List (List Part)} {d:List Int},Fit ids H d→∀i (hi:i<H.length) (hd:i<d.length),Cut ids H[i] d[i]
  | _,_, .nil,i,hi,_=>by simp at hi
  | _,_, .cons c k,0,_,_=>c
  | _,_, .cons c k,i + 1,hi,hd=>k.at i (by simpa using hi) (by simpa using hd)
theorem Fit.drop:∀ {H:List (List Part)} {d:List Int},Fit ids H d→∀i,Fit ids (H.drop i) (d.drop i)
  | _,_,k,0=>k
  | _,_, .nil,i + 1=>by simpa using Fit.nil
  | _,_, .cons c k,i + 1=>by simpa using k.drop i
theorem F88_l2_eq {f:Nat} (hf:200≤f) {H:List (List Part)} {d:List Int} (hl:H.length≤100) (i8:ids.length≤8) (k:Fit ids H d):∀n i (res:List (List Part)) (out:List Part),i≤H.length→H.length - i<n→res.length≤i→In ids out→sumM out + (d.drop i).sum≤100000000→0≤sumM out →
    F88_l2 f H d n res out (i:Int)=some (loseL (H.drop i) (d.drop i) res out)
  | 0,i,res,out,_,hn,_,_,_,_=>by omega
  | n + 1,i,res,out,hi,hn,hr,ho,hs,h0=>by
    have hdl:=k.len
    rcases Nat.lt_or_ge i H.length with hlt | hge
    · have hd:i<d.length:=by omega
      have c:=k.at i hlt hd
      have e1:H.drop i=H[i]::H.drop (i + 1):=List.drop_eq_getElem_cons hlt
      have e2:d.drop i=d[i]::d.drop (i + 1):=List.drop_eq_getElem_cons hd
      have hs':sumM out + (d[i] + (d.drop (i + 1)).sum)≤100000000:=by rw [e2,List.sum_cons] at hs; exact hs
      have hsd:=(k.drop (i + 1)).sum0
      have hc0:=c.m0
      have hts:=c.tk_sum
      have hms:=merge_sum _ out (tk H[i] d[i]) (Nat.le_refl _)
      have hmi:=ho.merge c.tk_in (by omega)
      simp only [F88_l2,lt_len,hlt,decide_true,cond_true,getI_nat hlt,getI_nat hd,Option.bind_some]
      rw [c.F93 hf]
      simp only [Option.bind_some,F88_j2]
      rw [F89_eq (ho.heap (by omega) (by omega)) (c.tk_in.heap (by omega) (by omega)) (by omega)]
      simp only [Option.bind_some]
      rw [e1,e2]
      simp only [loseL]
      by_cases hz:lf H[i] d[i]=[]
      · have:decide (((lf H[i] d[i]).length:Int) > 0)=false:=by rw [hz]; rfl
        rw [this,cond_false,if_pos hz,F88_j1,succ_w (by omega)]
        exact F88_l2_eq hf hl i8 k n (i + 1) res _ hlt (by omega) (by omega) hmi (by omega) (by omega)
      · have:decide (((lf H[i] d[i]).length:Int) > 0)=true:=decide_eq_true (by have:=List.length_pos_iff.2 hz; omega)
        rw [this,cond_true,if_neg hz,app_small (by omega) (by simp)]
        simp only [Option.bind_some,F88_j1]
        rw [succ_w (by omega)]
        exact F88_l2_eq hf hl i8 k n (i + 1) _ _ hlt (by omega) (by simp; omega) hmi (by omega) (by omega)
    · have:i=H.length:=by omega
      subst this
      simp [F88_l2,loseL]
theorem F142_l2_eq {f:Nat} (hf:200≤f) (t:Nat) {H:List (List Part)} {d:List Int} (hl:H.length≤50) (i8:ids.length≤8) (k:Fit ids H d) {p2:List (List (Int×Bool))} (hp2:p2.length=H.length) (ne:∀p∈H,p≠[]):∀n i (x:Pl) (res:List (List Part)) (M:List (List (Int×Bool))) (out:List Part) (s:List (Int×Bool)),i≤H.length→H.length - i<n→res.length≤i→At9 x t res M→In ids out→sumM out + (d.drop i).sum≤100000000→0≤sumM out →
    ∃s' M',M'.length=(loseL (H.drop i) (d.drop i) res out).1.length∧F142_l2 f (t:Int) H p2 d n x out s (i:Int)=some ((loseL (H.drop i) (d.drop i) res out).2,s',x.put t (loseL (H.drop i) (d.drop i) res out).1 M') ∧
      (∀u∈M',u∈M∨u∈p2)∧(Tells H p2→Tells res M→Has1 out s→Tells (loseL (H.drop i) (d.drop i) res out).1 M'∧Has1 (loseL (H.drop i) (d.drop i) res out).2 s')
  | 0,i,x,res,M,out,s,_,hn,_,_,_,_,_=>by omega
  | n + 1,i,x,res,M,out,s,hi,hn,hr,ha,ho,hs,h0=>by
    have hdl:=k.len
    rcases Nat.lt_or_ge i H.length with hlt | hge
    · have hd:i<d.length:=by omega
      have h2:i<p2.length:=by omega
      have c:=k.at i hlt hd
      have e1:H.drop i=H[i]::H.drop (i + 1):=List.drop_eq_getElem_cons hlt
      have e2:d.drop i=d[i]::d.drop (i + 1):=List.drop_eq_getElem_cons hd
      have hs':sumM out + (d[i] + (d.drop (i + 1)).sum)≤100000000:=by rw [e2,List.sum_cons] at hs; exact hs
      have hsd:=(k.drop (i + 1)).sum0
      have hc0:=c.m0
      have hts:=c.tk_sum
      have hms:=merge_sum _ out (tk H[i] d[i]) (Nat.le_refl _)
      have hmi:=ho.merge c.tk_in (by omega)
      have hdi:decide ((i:Int)<(d.length:Int))=true:=decide_eq_true (by omega)
      -- what is put back
      obtain ⟨res',M',hres,hM',hput,hat,hu1,hT1⟩:∃res' M',res'=(if lf H[i] d[i]=[] then res else res ++ [lf H[i] d[i]])∧res'.length≤i + 1∧F148 f x (t:Int) (lf H[i] d[i]) p2[i]=some (x.put t res' M')∧At9 (x.put t res' M') t res' M' ∧
          (∀u∈M',u∈M∨u∈p2)∧(Tells H p2→Tells res M→Tells res' M'):=by
        by_cases hz:lf H[i] d[i]=[]
        · refine ⟨res,M,by rw [if_pos hz],by omega,?_,?_⟩
          · rw [hz,F148_nil,Pl.put_self ha]
          · rw [Pl.put_self ha]; exact ⟨ha,fun u hu=> .inl hu,fun _ k=>k⟩
        · refine ⟨res ++ [lf H[i] d[i]],M ++ [p2[i]],by rw [if_neg hz],by simp; omega,F148_put ha hz _,ha.put (by simp [ha.len]) (by simp; omega),fun u hu=>?_,fun k1 k2=>k2.append ((k1.at i hlt h2).lf c)⟩
          rcases List.mem_append.1 hu with hu | hu
          · exact .inl hu
          · rw [List.mem_singleton] at hu; subst hu; exact .inr (List.getElem_mem _)
      simp only [F142_l2,hdi,cond_true,getI_nat hlt,getI_nat hd,getI_nat h2,Option.bind_some]
      rw [c.F91 hf]
      simp only [Option.bind_some]
      rw [hput]
      simp only [Option.bind_some]
      rw [e1,e2]
      simp only [loseL, ← hres]
      by_cases hz:d[i] > 0
      · rw [decide_eq_true hz,cond_true,F150_eq (ho.heap (by omega) (by omega)) (c.tk_in.heap (by omega) (by omega)) _ _ hf]
        simp only [Option.bind_some,F142_j1]
        rw [succ_w (by omega)]
        obtain ⟨s',M2,hM2,e,hu2,hT2⟩:=F142_l2_eq hf t hl i8 k hp2 ne n (i + 1) (x.put t res' M') res' M' (mergeP out (tk H[i] d[i])) (uniK (uniK [] s) p2[i]) hlt (by omega) hM' hat hmi (by omega) (by omega)
        rw [Pl.put_put] at e
        exact ⟨s',M2,hM2,e,fun u k=>(hu2 u k).elim (hu1 u) .inr,fun k1 k2 k3=>hT2 k1 (hT1 k1 k2) (k3.merge ((k1.at i hlt h2).tk c))⟩
      · rw [decide_eq_false hz,cond_false]
        simp only [F142_j1]
        have hz0:d[i]=0:=by omega
        have htn:tk H[i] d[i]=[]:=by
          by_cases hne:tk H[i] d[i]=[]
          · exact hne
          · have:=c.tk_in.pos hne; omega
        rw [htn,merge_nil,succ_w (by omega)]
        obtain ⟨s',M2,hM2,e,hu2,hT2⟩:=F142_l2_eq hf t hl i8 k hp2 ne n (i + 1) (x.put t res' M') res' M' out s hlt (by omega) hM' hat ho (by omega) (by omega)
        rw [Pl.put_put] at e
        exact ⟨s',M2,hM2,e,fun u k=>(hu2 u k).elim (hu1 u) .inr,fun k1 k2 k3=>hT2 k1 (hT1 k1 k2) k3⟩
    · have hi':i=H.length:=by omega
      subst hi'
      have hdi:decide ((H.length:Int)<(d.length:Int))=false:=decide_eq_false (by omega)
      have el:loseL (H.drop H.length) (d.drop H.length) res out=(res,out):=by simp [loseL]
      refine ⟨s,M,?_,?_,fun u hu=> .inl hu,fun _ k2 k3=>by rw [el]; exact ⟨k2,k3⟩⟩
      · simp [loseL,ha.len]
      · simp only [F142_l2,hdi,cond_false]
        rw [el,Pl.put_self ha]
end Go.Proofs.Ytlmgjjmighajdaa
set_option linter.unusedSimpArgs false
set_option linter.unusedVariables false
namespace Go.Proofs.Ytlmgjjmighajdaa
open Go.Sl Go.Sx
variable {ids : List Int} {h : List Part} {m : Int}
def massH (H:List (List Part)):List Int:=H.map sumM
def loseS (H:List (List Part)) (m:Int):List (List Part)×List Part:=loseL H (dealS m (massH H)) [] []
theorem Hold.one_le {H:List (List Part)} (k:Hold ids H):∀p∈H,sumM p≤sumH H:=by
  have:∀l:List (List Part),Hold ids l→∀p∈l,sumM p≤sumH l:=by
    intro l
    induction l with
    | nil=>intro _ p hp; cases hp
    | cons q l ih =>
      intro hl p hp
      have h0:=hl.tail.sum_pos
      have h1:=(hl.ins q (by simp)).pos (hl.ne q (by simp))
      have hs:sumH (q::l)=sumM q + sumH l:=by simp [sumH]
      rw [hs]
      rcases List.mem_cons.1 hp with rfl | hp
      · omega
      · have:=ih hl.tail p hp; omega
  exact this H k
theorem massH_sum (H:List (List Part)):(massH H).sum=sumH H:=rfl
theorem dealOk_hold {H:List (List Part)} (k:Hold ids H) (hl:H.length<20) (hs:sumH H≤100000000) (h0:0<m) (h1:m≤sumH H):DealOk m (massH H) where
  nn x hx:=by obtain ⟨p,hp,rfl⟩:=List.mem_map.1 hx; have:=(k.ins p hp).pos (k.ne p hp); omega
  s0:=by rw [massH_sum]; omega
  s1:=by rw [massH_sum]; exact hs
  m0:=by omega
  m1:=by omega
  len:=by simpa [massH] using hl
theorem fit_hold {H:List (List Part)} (k:Hold ids H) (hl:H.length<20) (hs:sumH H≤100000000) (h0:0<m) (h1:m≤sumH H):Fit ids H (dealS m (massH H)):=by
  have hd:=dealOk_hold k hl hs h0 h1
  refine Fit.of (by rw [dealS_len]; simp [massH]) fun i hi hdi=>?_
  have hm:i<(massH H).length:=by simpa [massH] using hi
  have b1:=(deal_bounds hd hm).1
  have b2:=deal_le hd (by rw [massH_sum]; exact h1) hm
  have e:(massH H)[i]=sumM H[i]:=by simp [massH]
  rw [e] at b2
  have:=k.one_le _ (List.getElem_mem hi)
  exact ⟨k.ins _ (List.getElem_mem hi),k.i8,by omega,b1,b2⟩
theorem massH_take {H:List (List Part)} {i:Nat} (hi:i<H.length):massH (H.take i) ++ [sumM H[i]]=massH (H.take (i + 1)):=by
  rw [List.take_succ_eq_append_getElem hi]; unfold massH; rw [List.map_append]; rfl
theorem F88_eq {f:Nat} (hf:200≤f) {H:List (List Part)} (k:Hold ids H) (hl:H.length<20) (hs:sumH H≤100000000) (h0:0<m) (h1:m≤sumH H):F88 f H m=some (loseS H m):=by
  have hd:=dealOk_hold k hl hs h0 h1
  have hfit:=fit_hold k hl hs h0 h1
  have i8:=k.i8
  unfold F88
  have key:=from_st (T:=fun n i=>F88_l1 f H m n (massH (H.take i)) (i:Int)) (len:=H.length) (n:=f) (out:=(F126 f m (massH H)).bind fun r2=>F88_l2 f H r2 f [] [] 0) (by omega)
    (fun n i hi=>by
      have hp:=k.ins _ (List.getElem_mem hi)
      have:=k.one_le _ (List.getElem_mem hi)
      simp only [F88_l1,lt_len,hi,decide_true,cond_true,getI_nat hi,Option.bind_some]
      rw [F92_90,F90_eq (hp.heap (by omega) (by omega)) (by omega)]
      simp only [Option.bind_some]
      rw [app_small (by simp [massH]; omega) (by simp)]
      simp only [Option.bind_some]
      rw [massH_take hi,succ_w (by omega)])
    (fun n=>by simp [F88_l1])
  have e0:F88_l1 f H m f [] 0=(F126 f m (massH H)).bind fun r2=>F88_l2 f H r2 f [] [] 0:=by simpa [massH] using key
  rw [e0,F126_eq hd hf]
  simp only [Option.bind_some]
  have e:=F88_l2_eq hf (by omega) i8 hfit f 0 [] [] (by omega) (by omega) (by simp) (In.nil ids) (by rw [List.drop_zero,deal_sum hd]; simp [sumM]; omega) (by simp [sumM])
  simpa [loseS] using e
theorem F142_eq {f:Nat} (hf:200≤f) {t:Nat} {x:Pl} {H:List (List Part)} {M:List (List (Int×Bool))} (ha:At9 x t H M) (k:Hold ids H) (hl:H.length<20) (hs:sumH H≤100000000) (h0:0<m) (h1:m≤sumH H) (a b c:Int) :
    ∃s' M',M'.length=(loseS H m).1.length∧F142 f x a b (t:Int) c m=some ((loseS H m).2,s',x.put t (loseS H m).1 M')∧(∀u∈M',u∈M)∧(Tells H M→Tells (loseS H m).1 M'):=by
  have hd:=dealOk_hold k hl hs h0 h1
  have hfit:=fit_hold k hl hs h0 h1
  have i8:=k.i8
  unfold F142
  rw [getI_opt,ha.h]
  simp only [Option.bind_some]
  have key:=from_st (T:=fun n i=>F142_l1 f x (t:Int) m H n (massH (H.take i)) (i:Int)) (len:=H.length) (n:=f) (out:=(F127 f m (massH H)).bind fun r1=>F142_l2 f (t:Int) H M r1 f (x.put t [] []) [] [] 0) (by omega)
    (fun n i hi=>by
      have hp:=k.ins _ (List.getElem_mem hi)
      have:=k.one_le _ (List.getElem_mem hi)
      simp only [F142_l1,lt_len,hi,decide_true,cond_true,getI_nat hi,Option.bind_some]
      rw [F90_eq (hp.heap (by omega) (by omega)) (by omega)]
      simp only [Option.bind_some]
      rw [app_small (by simp [massH]; omega) (by simp)]
      simp only [Option.bind_some]
      rw [massH_take hi,succ_w (by omega)])
    (fun n=>by
      simp only [F142_l1,lt_len,Nat.lt_irrefl,decide_false,cond_false,getI_opt,ha.m,Option.bind_some,List.take_length]
      rfl)
  have e0:F142_l1 f x (t:Int) m H f [] 0=(F127 f m (massH H)).bind fun r1=>F142_l2 f (t:Int) H M r1 f (x.put t [] []) [] [] 0:=by simpa [massH] using key
  rw [e0,F127_eq hd (by omega)]
  simp only [Option.bind_some]
  obtain ⟨s',M',hM,e,hu,hT⟩:=F142_l2_eq hf t (by omega) i8 hfit (p2:=M) ha.len k.ne f 0 (x.put t [] []) [] [] [] [] (by omega) (by omega) (by simp) (ha.put rfl (by simp)) (In.nil ids) (by rw [List.drop_zero,deal_sum hd]; simp [sumM]; omega) (by simp [sumM])
  rw [Pl.put_put] at e
  refine ⟨s',M',by simpa [loseS] using hM,by simpa [loseS] using e,fun u k=>(hu u k).elim (fun h=>by cases h) id,fun k=>?_⟩
  have:=(hT k trivial (Has1.nil _)).1
  simpa [loseS] using this
end Go.Proofs.Ytlmgjjmighajdaa
set_option linter.unusedSimpArgs false
set_option linter.unusedVariables false
namespace Go.Proofs.Ytlmgjjmighajdaa
open Go.Sl Go.Sx
variable {ids : List Int} {h : List Part} {m : Int}
def ontoS (H:List (List Part)) (b:List Part):List (List Part):=match H.reverse with
  | []=>[b]
  | p::r=>r.reverse ++ [mergeP p b]
theorem ontoS_nil (b:List Part):ontoS [] b=[b]:=rfl
theorem ontoS_last (H:List (List Part)) (p b:List Part):ontoS (H ++ [p]) b=H ++ [mergeP p b]:=by simp [ontoS]
theorem F86_eq {f:Nat} (hf:200≤f) {H:List (List Part)} (hl:H.length≤100) (hH:∀p∈H,HeapOk p) {b:List Part} (hb:HeapOk b):F86 f H b=some (ontoS H b):=by
  unfold F86
  rcases List.eq_nil_or_concat H with rfl | ⟨H',p,rfl⟩
  · rfl
  · have e:H'.concat p=H' ++ [p]:=by simp
    rw [e] at hl hH ⊢
    rw [List.length_append] at hl
    simp only [List.length_cons,List.length_nil] at hl
    have hlen:((H' ++ [p]).length:Int)=((H'.length + 1:Nat):Int):=by simp
    have h0:(((H' ++ [p]).length:Int) == 0)=false:=by
      have:¬ ((H' ++ [p]).length:Int)=0:=by rw [hlen]; omega
      simpa using this
    have hget:getI (H' ++ [p]) (H'.length:Int)=some p:=by rw [getI_opt]; simp
    rw [h0,cond_false,hlen,len_pred (by omega),sub_last]
    simp only [Option.bind_some]
    rw [app_small (by simp) (by omega)]
    simp only [Option.bind_some,hget,List.nil_append]
    rw [F89_eq (hH p (by simp)) hb (by omega)]
    simp only [Option.bind_some]
    rw [app_small (by omega) (by simp),ontoS_last]
    rfl
theorem F146_eq {f:Nat} (hf:200≤f) {t:Nat} {x:Pl} {H:List (List Part)} {M:List (List (Int×Bool))} (ha:At9 x t H M) (hH:∀p∈H,HeapOk p) {b:List Part} (hb:HeapOk b) (hne:b≠[]) (u:List (Int×Bool)) :
    ∃M',M'.length=(ontoS H b).length∧F146 f x (t:Int) b u=some (x.put t (ontoS H b) M')∧(Tells H M→Has1 b u→Tells (ontoS H b) M'):=by
  rcases List.eq_nil_or_concat H with rfl | ⟨H',p,rfl⟩
  · have hM:M=[]:=List.eq_nil_of_length_eq_zero (by simpa using ha.len)
    subst hM
    refine ⟨_,rfl,F146_nil ha hb hne u hf,fun _ k=>⟨?_,trivial⟩⟩
    exact fun q hq=>uni_in (.inl (tin_mem (k q hq)))
  · have e:H'.concat p=H' ++ [p]:=by simp
    rw [e] at ha hH ⊢
    have hlen:=ha.len
    obtain ⟨M',s,rfl⟩:∃M' s,M=M' ++ [s]:=by
      rcases List.eq_nil_or_concat M with rfl | ⟨M',s,rfl⟩
      · simp at hlen
      · exact ⟨M',s,by simp⟩
    rw [ontoS_last]
    refine ⟨M' ++ [uniK (uniK [] s) u],by simpa using hlen,F146_last ha (hH p (by simp)) hb (.inr hne) u hf,fun k1 k2=>?_⟩
    obtain ⟨t1,t2⟩:=Tells.left (by simpa using hlen) k1
    exact t1.append (t2.merge k2)
theorem F143_eq {f:Nat} (hf:200≤f) {t:Nat} {x:Pl} {H:List (List Part)} {p q:List Part} {M:List (List (Int×Bool))} (ha:At9 x t (H ++ [p] ++ [q]) M) (hp:HeapOk p) (hq:HeapOk q) (hne:q≠[]) (a b c d:Int) :
    ∃M',M'.length=(H ++ [mergeP p q]).length∧F143 f x a b (t:Int) c d=some ([],[],x.put t (H ++ [mergeP p q]) M')∧(Tells (H ++ [p] ++ [q]) M→Tells (H ++ [mergeP p q]) M'):=by
  have hlen:=ha.len
  obtain ⟨M1,s,rfl⟩:∃M' s,M=M' ++ [s]:=by
    rcases List.eq_nil_or_concat M with rfl | ⟨M',s,rfl⟩
    · simp at hlen
    · exact ⟨M',s,by simp⟩
  have hM1:M1.length=(H ++ [p]).length:=by simpa using hlen
  obtain ⟨M2,s2,rfl⟩:∃M' s,M1=M' ++ [s]:=by
    rcases List.eq_nil_or_concat M1 with rfl | ⟨M',s,rfl⟩
    · simp at hM1
    · exact ⟨M',s,by simp⟩
  have hs:=ha.small
  have hs1:(H ++ [p]).length≤100:=by rw [List.length_append] at hs; omega
  unfold F143
  rw [F151_last ha]
  simp only [Option.bind_some]
  rw [F152_last ha]
  simp only [Option.bind_some]
  rw [F146_last (ha.put hM1 hs1) hp hq (.inr hne) s hf]
  simp only [Option.bind_some,Pl.put_put]
  refine ⟨_,by simpa using hM1,rfl,fun k=>?_⟩
  obtain ⟨t1,t2⟩:=Tells.left hM1 k
  obtain ⟨t3,t4⟩:=Tells.left (by simpa using hM1) t1
  exact t3.append (t4.merge t2)
theorem mix_ref {f:Nat} (hf:200≤f) {H:List (List Part)} {p q:List Part} (hl:H.length≤90) (hp:HeapOk p) (hq:HeapOk q) :
    subI (H ++ [p] ++ [q]) 0 (w64 (((H ++ [p] ++ [q]).length:Int) - 2))=some H∧getI (H ++ [p] ++ [q]) (w64 (((H ++ [p] ++ [q]).length:Int) - 2))=some p∧getI (H ++ [p] ++ [q]) (w64 (((H ++ [p] ++ [q]).length:Int) - 1))=some q:=by
  have hlen:((H ++ [p] ++ [q]).length:Int)=((H.length + 2:Nat):Int):=by simp
  have e1:w64 (((H.length + 2:Nat):Int) - 2)=(H.length:Int):=by rw [w64_id (by omega) (by omega)]; omega
  have e2:w64 (((H.length + 2:Nat):Int) - 1)=((H.length + 1:Nat):Int):=by rw [w64_id (by omega) (by omega)]; omega
  rw [hlen,e1,e2]
  refine ⟨?_,?_,?_⟩
  · unfold subI
    rw [if_pos (by simp; omega)]
    simp
  · rw [getI_opt]; simp
  · rw [getI_opt]; simp
end Go.Proofs.Ytlmgjjmighajdaa
set_option linter.unusedSimpArgs false
set_option linter.unusedVariables false
namespace Go.Proofs.Ytlmgjjmighajdaa
open Go.Sl Go.Sx
theorem named_more {f:Nat} {lots:List Lot} (hl:LotsOk lots) (hf:40<f) {holds:List (List (List Part))} {k l fr to m:Int} (h:F79 f lots holds k l fr to m=some true):((k=1∨k=2)→Has lots l)∧(k=4→fr≠to):=by
  obtain ⟨q,e56,eq0,eq1⟩:=F56_has (f:=f) hl.1 l hf
  have hn:=named_true hl hf h
  obtain ⟨hk,b1,b2,b3,_⟩:=hn
  simp only [F79,F79_j1,F79_j2,F79_j3,F79_j4,F79_j5,F79_j6,F79_j7,F72_eq,F118_eq,Option.bind_some,e56,eq0,bq,bn] at h
  refine ⟨?_,?_⟩
  · rintro (rfl | rfl)
    · have b3':=b3 (by omega)
      by_cases a2:fr=0 <;> simp [b1,b2,b3',a2] at h
      exact h
    · have b3':=b3 (by omega)
      by_cases a2:fr=0 <;> simp [b1,b2,b3',a2] at h
      exact h
  · rintro rfl
    have b3':=b3 (by omega)
    by_cases a1:l=0 <;> simp [b1,b2,b3',a1] at h
    exact h
structure Allowed (lots:List Lot) (holds:List (List (List Part))) (k l fr to m:Int):Prop where
  k0:1≤k∧k≤6
  fr0:0≤fr∧fr≤8
  to0:0≤to∧to≤8
  m0:k≠6→1≤m∧m≤100000000
  m6:k=6→m=0
  lot:(k=1∨k=2)→Has lots l
  apart:k=4→fr≠to
  from_:(k=3∨k=4∨k=5)→m≤sumH (holds.getD fr.toNat [])
  two:k=6→2≤(holds.getD fr.toNat []).length
  room:k=2→(holds.getD to.toNat []).length≠4
  into:(k=1∨k=2∨k=4)→sumH (holds.getD to.toNat []) + m≤100000000
theorem F24_allowed {f:Nat} {lots:List Lot} {holds:List (List (List Part))} (hs:StockOk lots holds) (h9:holds.length=9) (hf:40<f) {k l fr to m:Int} (h:F24 f lots holds k l fr to m=some 0):Allowed lots holds k l fr to m:=by
  obtain ⟨b,eb⟩:=named_some (f:=f) hs.lok hf holds k l fr to m
  unfold F24 at h
  rcases F22_eq (lots:=lots) h9 hf with ⟨_,e22⟩ | ⟨hn,_⟩
  · rw [e22,eb] at h
    simp only [Option.bind_some] at h
    cases b with
    | false=>simp at h
    | true =>
      obtain ⟨hk,hfr,hto,hm,hm6⟩:=named_true hs.lok hf eb
      obtain ⟨hlot,hap⟩:=named_more hs.lok hf eb
      have hfr':fr.toNat<holds.length:=by omega
      have hto':to.toNat<holds.length:=by omega
      have efr:getI holds fr=some holds[fr.toNat]:=by have:=getI_nat hfr'; rwa [Int.toNat_of_nonneg hfr.1] at this
      have eto:getI holds to=some holds[to.toNat]:=by have:=getI_nat hto'; rwa [Int.toNat_of_nonneg hto.1] at this
      have gfr:=hs.hok _ (List.getElem_mem hfr')
      have gto:=hs.hok _ (List.getElem_mem hto')
      have sfr:=F75_eq (f:=f) gfr.len (fun x hx=>(gfr.heaps x hx).ok) hf
      have sto:=F75_eq (f:=f) gto.len (fun x hx=>(gto.heaps x hx).ok) hf
      have hs0:=(sumH_bound fun x hx=>(gto.heaps x hx).ok).1
      have hs1:=gto.sum
      have hw:k≠6→w64 (sumH holds[to.toNat] + m)=sumH holds[to.toNat] + m:=fun e=>w64_id (by have:=hm e; omega) (by have:=hm e; omega)
      have d1:holds.getD fr.toNat []=holds[fr.toNat]:=by simp [hfr']
      have d2:holds.getD to.toNat []=holds[to.toNat]:=by simp [hto']
      simp only [F24_j1,F24_j2,F24_j3,F24_j4,F24_j5,efr,eto,F77_75,sfr,sto,Option.bind_some,bq] at h
      have hk':k=1∨k=2∨k=3∨k=4∨k=5∨k=6:=by omega
      have fin:((k=3∨k=4∨k=5)→m≤sumH holds[fr.toNat])∧(k=6→2≤holds[fr.toNat].length)∧(k=2→holds[to.toNat].length≠4)∧((k=1∨k=2∨k=4)→sumH holds[to.toNat] + m≤100000000):=by
        by_cases c1:m > sumH holds[fr.toNat] <;> by_cases c2:(holds[fr.toNat].length:Int)<2 <;> by_cases c3:(holds[to.toNat].length:Int)=4 <;> by_cases c4:sumH holds[to.toNat] + m > 100000000 <;>
          rcases hk' with rfl | rfl | rfl | rfl | rfl | rfl <;>
          first
          | (exfalso; simp [hw,c1,c2,c3,c4] at h; done)
          | (refine ⟨fun _=>by omega,fun _=>by omega,fun _=>by omega,fun _=>by omega⟩)
          | omega
      exact ⟨hk,hfr,hto,hm,hm6,hlot,hap,by rw [d1]; exact fin.1,by rw [d1]; exact fin.2.1,by rw [d2]; exact fin.2.2.1,by rw [d2]; exact fin.2.2.2⟩
  · exact absurd hs hn
end Go.Proofs.Ytlmgjjmighajdaa
set_option linter.unusedSimpArgs false
set_option linter.unusedVariables false
namespace Go.Proofs.Ytlmgjjmighajdaa
open Go.Sl Go.Sx
theorem one_ok {l m:Int} (h:PartOk ⟨l,m⟩):HeapOk [⟨l,m⟩]:=⟨by simp,by simpa using h,List.pairwise_singleton _ _,by have:=h.m1; simpa [sumM] using this⟩
theorem one_has (l m:Int):Has1 [⟨l,m⟩] (putK [] l true):=fun q hq=>by rw [List.mem_singleton] at hq; subst hq; exact tin_put.2 (.inl rfl)
theorem F138_eq {f:Nat} (hf:200≤f) {t:Nat} {x:Pl} {H:List (List Part)} {M:List (List (Int×Bool))} (ha:At9 x t H M) (hH:∀p∈H,HeapOk p) {l m:Int} (hp:PartOk ⟨l,m⟩) (k fr:Int) :
    ∃s M',M'.length=(ontoS H [⟨l,m⟩]).length∧F138 f x k l fr (t:Int) m=some ([⟨l,m⟩],s,x.put t (ontoS H [⟨l,m⟩]) M')∧(Tells H M→Tells (ontoS H [⟨l,m⟩]) M'):=by
  unfold F138 F147
  obtain ⟨M',hM,e,hT⟩:=F146_eq hf ha hH (one_ok hp) (by simp) (putK [] l true)
  simp only [Option.bind_some]
  rw [e]
  exact ⟨_,M',hM,rfl,fun k=>hT k (one_has l m)⟩
theorem F139_eq {f:Nat} {t:Nat} {x:Pl} {H:List (List Part)} {M:List (List (Int×Bool))} (ha:At9 x t H M) (k l fr m:Int) :
    ∃s,F139 f x k l fr (t:Int) m=some ([⟨l,m⟩],s,x.put t (H ++ [[⟨l,m⟩]]) (M ++ [putK [] l true])):=by
  unfold F139 F147
  simp only [Option.bind_some]
  rw [F148_put ha (by simp)]
  exact ⟨_,rfl⟩
end Go.Proofs.Ytlmgjjmighajdaa
set_option linter.unusedSimpArgs false
set_option linter.unusedVariables false
namespace Go.Proofs.Ytlmgjjmighajdaa
open Go.Sl Go.Sx
variable {ids : List Int}
theorem drawR_spec:∀(r:List (List Part)) (out:List Part) (m:Int),Hold ids r→In ids out→0<m→m≤sumH r→sumM out + sumH r≤100000000→0≤sumM out →
    Hold ids (drawR r out m).1∧In ids (drawR r out m).2∧sumH (drawR r out m).1=sumH r - m∧sumM (drawR r out m).2=sumM out + m∧(drawR r out m).1.length≤r.length
  | [],out,m,_,_,h0,h1,_,_=>by simp [sumH] at h1; omega
  | p::r,out,m,hk,ho,h0,h1,h2,hoo=>by
    have hr:=hk.tail
    have hsr:=hr.sum_pos
    have hp:=hk.ins p (by simp)
    have hpp:=hp.pos (hk.ne p (by simp))
    have hsum:sumH (p::r)=sumM p + sumH r:=by simp [sumH]
    rw [hsum] at h1 h2 ⊢
    by_cases hle:m≤sumM p
    · have c:Cut ids p m:=⟨hp,hk.i8,by omega,by omega,hle⟩
      have htk:=c.tk_sum
      have hlf:=c.lf_sum
      have hms:=merge_sum _ out (tk p m) (Nat.le_refl _)
      simp only [drawR,if_pos hle]
      by_cases hl:lf p m=[]
      · rw [if_pos hl]
        rw [hl] at hlf
        simp [sumM] at hlf
        exact ⟨hr,ho.merge c.tk_in (by omega),by simp only [sumM] at *; omega,by omega,by simp⟩
      · rw [if_neg hl]
        refine ⟨⟨hk.i8,fun q hq=>?_,fun q hq=>?_,by have:=hk.len; simpa using this⟩,ho.merge c.tk_in (by omega),?_,by omega,by simp⟩
        · rcases List.mem_cons.1 hq with rfl | hq
          · exact c.lf_in
          · exact hr.ins q hq
        · rcases List.mem_cons.1 hq with rfl | hq
          · exact hl
          · exact hr.ne q hq
        · have:sumH (lf p m::r)=sumM (lf p m) + sumH r:=by simp [sumH]
          omega
    · have c:Cut ids p (sumM p):=⟨hp,hk.i8,by omega,by omega,Int.le_refl _⟩
      have htk:=c.tk_sum
      have hms:=merge_sum _ out (tk p (sumM p)) (Nat.le_refl _)
      obtain ⟨a1,a2,a3,a4,a5⟩:=drawR_spec r (mergeP out (tk p (sumM p))) (m - sumM p) hr (ho.merge c.tk_in (by omega)) (by omega) (by omega) (by omega) (by omega)
      simp only [drawR,if_neg hle]
      exact ⟨a1,a2,by omega,by omega,by simp; omega⟩
end Go.Proofs.Ytlmgjjmighajdaa
set_option linter.unusedSimpArgs false
set_option linter.unusedVariables false
namespace Go.Proofs.Ytlmgjjmighajdaa
open Go.Sl Go.Sx
variable {ids : List Int}
theorem Hold.append {H:List (List Part)} {p:List Part} (k:Hold ids H) (hp:In ids p) (ne:p≠[]) (hl:H.length<100):Hold ids (H ++ [p]) :=
  ⟨k.i8,fun q hq=>by rcases List.mem_append.1 hq with h | h; exact k.ins q h; simp at h; subst h; exact hp,fun q hq=>by rcases List.mem_append.1 hq with h | h; exact k.ne q h; simp at h; subst h; exact ne,by simp; omega⟩
theorem Hold.left {H:List (List Part)} {p:List Part} (k:Hold ids (H ++ [p])):Hold ids H∧In ids p∧p≠[] :=
  ⟨⟨k.i8,fun q hq=>k.ins q (by simp [hq]),fun q hq=>k.ne q (by simp [hq]),by have:=k.len; simp at this; omega⟩,k.ins p (by simp),k.ne p (by simp)⟩
theorem sumH_one (H:List (List Part)) (p:List Part):sumH (H ++ [p])=sumH H + sumM p:=by rw [sumH_app]; simp [sumH]
theorem ontoS_spec {H:List (List Part)} (k:Hold ids H) (hl:H.length<100) {b:List Part} (hb:In ids b) (ne:b≠[]) (hs:sumH H + sumM b≤100000000) :
    Hold ids (ontoS H b)∧sumH (ontoS H b)=sumH H + sumM b∧(ontoS H b).length=max 1 H.length:=by
  rcases List.eq_nil_or_concat H with rfl | ⟨H',p,rfl⟩
  · refine ⟨⟨k.i8,fun q hq=>?_,fun q hq=>?_,by simp [ontoS_nil]⟩,by simp [ontoS_nil,sumH],by simp [ontoS_nil]⟩
    · rw [ontoS_nil,List.mem_singleton] at hq; subst hq; exact hb
    · rw [ontoS_nil,List.mem_singleton] at hq; subst hq; exact ne
  · have e:H'.concat p=H' ++ [p]:=by simp
    rw [e] at k hl hs ⊢
    obtain ⟨k1,k2,k3⟩:=k.left
    have h0:=k1.sum_pos
    rw [sumH_one] at hs ⊢
    rw [ontoS_last,sumH_one,merge_sum _ p b (Nat.le_refl _)]
    refine ⟨k1.append (k2.merge hb (by omega)) (merge_ne (.inr ne)) (by simp at hl; omega),by omega,by simp⟩
end Go.Proofs.Ytlmgjjmighajdaa
set_option linter.unusedSimpArgs false
set_option linter.unusedVariables false
namespace Go.Proofs.Ytlmgjjmighajdaa
open Go.Sl Go.Sx
variable {ids : List Int}
theorem loseL_spec (i8:ids.length≤8):∀ {H:List (List Part)} {d:List Int},Fit ids H d→∀(res:List (List Part)) (out:List Part),Hold ids res→res.length + H.length≤100→In ids out→0≤sumM out→sumM out + d.sum≤100000000 →
    Hold ids (loseL H d res out).1∧In ids (loseL H d res out).2∧sumH (loseL H d res out).1=sumH res + sumH H - d.sum∧sumM (loseL H d res out).2=sumM out + d.sum∧(loseL H d res out).1.length≤res.length + H.length
  | _,_, .nil,res,out,hr,hl,ho,h0,hs=>by simp [loseL,sumH,hr,ho]
  | p::H,n::d, .cons c k,res,out,hr,hl,ho,h0,hs=>by
    simp only [List.sum_cons,List.length_cons] at hs hl ⊢
    have hsum:sumH (p::H)=sumM p + sumH H:=by simp [sumH]
    have hd0:=k.sum0
    have hc0:=c.m0
    have htk:=c.tk_sum
    have hlf:=c.lf_sum
    have hms:=merge_sum _ out (tk p n) (Nat.le_refl _)
    simp only [loseL]
    by_cases hz:lf p n=[]
    · rw [if_pos hz]
      rw [hz] at hlf
      have hlf0:(0:Int)=sumM p - n:=by simpa [sumM] using hlf
      obtain ⟨a1,a2,a3,a4,a5⟩:=loseL_spec i8 k res (mergeP out (tk p n)) hr (by omega) (ho.merge c.tk_in (by omega)) (by omega) (by omega)
      exact ⟨a1,a2,by omega,by omega,by omega⟩
    · rw [if_neg hz]
      obtain ⟨a1,a2,a3,a4,a5⟩:=loseL_spec i8 k (res ++ [lf p n]) (mergeP out (tk p n)) (hr.append c.lf_in hz (by omega)) (by simp; omega) (ho.merge c.tk_in (by omega)) (by omega) (by omega)
      rw [sumH_one] at a3
      rw [List.length_append] at a5
      simp only [List.length_cons,List.length_nil] at a5
      exact ⟨a1,a2,by omega,by omega,by omega⟩
end Go.Proofs.Ytlmgjjmighajdaa
set_option linter.unusedSimpArgs false
set_option linter.unusedVariables false
namespace Go.Proofs.Ytlmgjjmighajdaa
open Go.Sl Go.Sx
variable {ids : List Int}
def drawS (H:List (List Part)) (m:Int):List (List Part)×List Part:=((drawR H.reverse [] m).1.reverse,(drawR H.reverse [] m).2)
def mixS (H:List (List Part)):List (List Part):=match H.reverse with
  | q::p::r=>r.reverse ++ [mergeP p q]
  | _=>H
theorem mixS_last (H:List (List Part)) (p q:List Part):mixS (H ++ [p] ++ [q])=H ++ [mergeP p q]:=by simp [mixS]
def doS (holds:List (List (List Part))) (k l fr to m:Int):List (List (List Part))×List Part :=
  let F:=holds.getD fr.toNat []
  let T:=holds.getD to.toNat []
  if k=1 then (holds.set to.toNat (ontoS T [⟨l,m⟩]),[⟨l,m⟩])
  else if k=2 then (holds.set to.toNat (T ++ [[⟨l,m⟩]]),[⟨l,m⟩])
  else if k=3 then (holds.set fr.toNat (drawS F m).1,(drawS F m).2)
  else if k=4 then ((holds.set fr.toNat (drawS F m).1).set to.toNat (ontoS T (drawS F m).2),(drawS F m).2)
  else if k=5 then (holds.set fr.toNat (loseS F m).1,(loseS F m).2)
  else (holds.set fr.toNat (mixS F),[])
theorem sumH_rev:∀H:List (List Part),sumH H.reverse=sumH H
  | []=>rfl
  | p::H=>by
    rw [List.reverse_cons,sumH_one,sumH_rev H]
    have:sumH (p::H)=sumM p + sumH H:=by simp [sumH]
    omega
theorem Hold.rev {H:List (List Part)} (k:Hold ids H):Hold ids H.reverse:=⟨k.i8,fun p hp=>k.ins p (by simpa using hp),fun p hp=>k.ne p (by simpa using hp),by simpa using k.len⟩
theorem drawS_spec {H:List (List Part)} {m:Int} (k:Hold ids H) (h0:0<m) (h1:m≤sumH H) (hs:sumH H≤100000000) :
    Hold ids (drawS H m).1∧In ids (drawS H m).2∧sumH (drawS H m).1=sumH H - m∧sumM (drawS H m).2=m∧(drawS H m).1.length≤H.length:=by
  obtain ⟨a1,a2,a3,a4,a5⟩:=drawR_spec H.reverse [] m k.rev (In.nil ids) h0 (by rw [sumH_rev]; exact h1) (by rw [sumH_rev]; simp [sumM]; exact hs) (by simp [sumM])
  rw [sumH_rev] at a3
  refine ⟨a1.rev,a2,by unfold drawS; rw [sumH_rev]; exact a3,by unfold drawS; rw [a4]; simp [sumM],by simpa [drawS] using a5⟩
end Go.Proofs.Ytlmgjjmighajdaa
set_option linter.unusedSimpArgs false
set_option linter.unusedVariables false
namespace Go.Proofs.Ytlmgjjmighajdaa
open Go.Sl Go.Sx
def idsOf (lots:List Lot):List Int:=lots.map (·.id)
theorem mem_ids {lots:List Lot} {x:Int}:x∈idsOf lots↔Has lots x:=by simp [idsOf,Has]
theorem GoodHold.hold {lots:List Lot} {H:List (List Part)} (g:GoodHold lots H) (h8:lots.length≤8):Hold (idsOf lots) H :=
  ⟨by simpa [idsOf] using h8,fun p hp=>⟨(g.heaps p hp).ok.2.1,(g.heaps p hp).ok.2.2.1,fun q hq=>mem_ids.2 ((g.heaps p hp).lots q hq)⟩,fun p hp=>(g.heaps p hp).ne,by have:=g.len; omega⟩
theorem Hold.good {lots:List Lot} {H:List (List Part)} (k:Hold (idsOf lots) H) (hl:H.length≤4) (hs:sumH H≤100000000):GoodHold lots H :=
  ⟨hl,fun p hp=>⟨(k.ins p hp).heap (by have:=k.i8; omega) (by have:=k.one_le p hp; omega),k.ne p hp,fun q hq=>mem_ids.1 ((k.ins p hp).ids q hq)⟩,hs⟩
theorem StockOk.set {lots:List Lot} {holds:List (List (List Part))} (s:StockOk lots holds) {t:Nat} {H:List (List Part)} (g:GoodHold lots H):StockOk lots (holds.set t H) :=
  ⟨s.lok,fun l hl=>by rcases List.mem_or_eq_of_mem_set hl with h | rfl; exact s.hok l h; exact g⟩
theorem StockOk.small {lots:List Lot} {holds:List (List (List Part))} (s:StockOk lots holds) (h9:holds.length=9):Small holds :=
  ⟨h9,fun l hl=>by have:=(s.hok l hl).len; omega,fun l hl p hp=>by have:=((s.hok l hl).heaps p hp).ok.1; omega⟩
end Go.Proofs.Ytlmgjjmighajdaa
set_option linter.unusedSimpArgs false
set_option linter.unusedVariables false
namespace Go.Proofs.Ytlmgjjmighajdaa
open Go.Sl Go.Sx
theorem two_last {α:Type} {l:List α} (h:2≤l.length):∃l' p q,l=l' ++ [p] ++ [q]:=by
  rcases List.eq_nil_or_concat l with rfl | ⟨l1,q,rfl⟩
  · simp at h
  · rcases List.eq_nil_or_concat l1 with rfl | ⟨l2,p,rfl⟩
    · simp at h
    · exact ⟨l2,p,q,by simp⟩
theorem mixS_spec {ids:List Int} {H:List (List Part)} (k:Hold ids H) (h2:2≤H.length) (hs:sumH H≤100000000):Hold ids (mixS H)∧sumH (mixS H)=sumH H∧(mixS H).length≤H.length:=by
  obtain ⟨H',p,q,rfl⟩:=two_last h2
  obtain ⟨k1,k2,k3⟩:=k.left
  obtain ⟨k4,k5,k6⟩:=k1.left
  have h0:=k4.sum_pos
  have hp:=k5.pos k6
  have hq:=k2.pos k3
  have hl:=k.len
  rw [sumH_one,sumH_one] at hs ⊢
  rw [mixS_last,sumH_one,merge_sum _ p q (Nat.le_refl _)]
  exact ⟨k4.append (k5.merge k2 (by omega)) (merge_ne (.inl k6)) (by simp at hl; omega),by omega,by simp⟩
end Go.Proofs.Ytlmgjjmighajdaa
set_option linter.unusedSimpArgs false
set_option linter.unusedVariables false
namespace Go.Proofs.Ytlmgjjmighajdaa
open Go.Sl Go.Sx
theorem hold_at {lots:List Lot} {holds:List (List (List Part))} (s:StockOk lots holds) (h8:lots.length≤8) (h9:holds.length=9) {t:Nat} (ht:t<9):Hold (idsOf lots) (holds.getD t [])∧(holds.getD t []).length≤4∧sumH (holds.getD t [])≤100000000∧holds[t]? =some (holds.getD t []):=by
  have h:t<holds.length:=by omega
  have e:holds.getD t []=holds[t]:=by simp [h]
  rw [e]
  have g:=s.hok _ (List.getElem_mem h)
  exact ⟨g.hold h8,g.len,g.sum,by simp [h]⟩
theorem one_in {lots:List Lot} (hl:LotsOk lots) {l m:Int} (hh:Has lots l) (h0:1≤m) (h1:m≤100000000):In (idsOf lots) [⟨l,m⟩]:=by
  refine ⟨fun p hp=>?_,List.pairwise_singleton _ _,fun p hp=>?_⟩
  · rw [List.mem_singleton] at hp
    subst hp
    obtain ⟨y,hy,e⟩:=hh
    have:=hl.2.1 y hy
    exact ⟨by show 1≤l; rw [← e]; exact this.id0,by show l≤9999; rw [← e]; exact this.id1,h0,h1⟩
  · rw [List.mem_singleton] at hp
    subst hp
    exact mem_ids.2 hh
theorem doS_good {lots:List Lot} {holds:List (List (List Part))} (s:StockOk lots holds) (h8:lots.length≤8) (h9:holds.length=9) {k l fr to m:Int} (a:Allowed lots holds k l fr to m) :
    StockOk lots (doS holds k l fr to m).1∧(doS holds k l fr to m).1.length=9∧In (idsOf lots) (doS holds k l fr to m).2∧sumM (doS holds k l fr to m).2=m:=by
  obtain ⟨f1,f2,f3,f4⟩:=hold_at s h8 h9 (t:=fr.toNat) (by have:=a.fr0; omega)
  obtain ⟨t1,t2,t3,t4⟩:=hold_at s h8 h9 (t:=to.toNat) (by have:=a.to0; omega)
  have hk:=a.k0
  have hk':k=1∨k=2∨k=3∨k=4∨k=5∨k=6:=by omega
  unfold doS
  rcases hk' with rfl | rfl | rfl | rfl | rfl | rfl
  · have hm:=a.m0 (by omega)
    have h1:=one_in s.lok (a.lot (.inl rfl)) hm.1 hm.2
    have hi:=a.into (.inl rfl)
    have hs1:sumM [(⟨l,m⟩:Part)]=m:=by simp [sumM]
    obtain ⟨b1,b2,b3⟩:=ontoS_spec t1 (by omega) h1 (by simp) (by rw [hs1]; exact hi)
    simp only [if_true]
    exact ⟨s.set (b1.good (by omega) (by omega)),by simp [h9],h1,hs1⟩
  · have hm:=a.m0 (by omega)
    have h1:=one_in s.lok (a.lot (.inr rfl)) hm.1 hm.2
    have hi:=a.into (.inr (.inl rfl))
    have hr:=a.room rfl
    have hs1:sumM [(⟨l,m⟩:Part)]=m:=by simp [sumM]
    simp only [show ¬ (2:Int)=1 by omega,if_false,if_true]
    exact ⟨s.set ((t1.append h1 (by simp) (by omega)).good (by simp only [List.length_append,List.length_cons,List.length_nil]; omega) (by rw [sumH_one,hs1]; exact hi)),by simp [h9],h1,hs1⟩
  · have hm:=a.m0 (by omega)
    obtain ⟨d1,d2,d3,d4,d5⟩:=drawS_spec f1 (m:=m) (by omega) (a.from_ (.inl rfl)) f3
    simp only [show ¬ (3:Int)=1 by omega,show ¬ (3:Int)=2 by omega,if_false,if_true]
    exact ⟨s.set (d1.good (by omega) (by omega)),by simp [h9],d2,d4⟩
  · have hm:=a.m0 (by omega)
    obtain ⟨d1,d2,d3,d4,d5⟩:=drawS_spec f1 (m:=m) (by omega) (a.from_ (.inr (.inl rfl))) f3
    have hi:=a.into (.inr (.inr rfl))
    have hne:(drawS (holds.getD fr.toNat []) m).2≠[]:=fun e=>by rw [e] at d4; simp [sumM] at d4; omega
    obtain ⟨b1,b2,b3⟩:=ontoS_spec t1 (by omega) d2 hne (by rw [d4]; exact hi)
    simp only [show ¬ (4:Int)=1 by omega,show ¬ (4:Int)=2 by omega,show ¬ (4:Int)=3 by omega,if_false,if_true]
    exact ⟨(s.set (d1.good (by omega) (by omega))).set (b1.good (by omega) (by omega)),by simp [h9],d2,d4⟩
  · have hm:=a.m0 (by omega)
    have hfr:=a.from_ (.inr (.inr rfl))
    have hd:=dealOk_hold f1 (by omega) f3 (m:=m) (by omega) hfr
    have hfit:=fit_hold f1 (by omega) f3 (m:=m) (by omega) hfr
    obtain ⟨d1,d2,d3,d4,d5⟩:=loseL_spec f1.i8 hfit [] [] ⟨f1.i8,by simp,by simp,by simp⟩ (by simp only [List.length_nil]; omega) (In.nil _) (by simp [sumM]) (by rw [deal_sum hd]; simp [sumM]; omega)
    rw [deal_sum hd] at d3 d4
    simp only [show ¬ (5:Int)=1 by omega,show ¬ (5:Int)=2 by omega,show ¬ (5:Int)=3 by omega,show ¬ (5:Int)=4 by omega,if_false,if_true]
    have e0:sumH []=0:=rfl
    have e1:sumM []=0:=rfl
    exact ⟨s.set (d1.good (by simp only [List.length_nil] at d5; omega) (by omega)),by simp [h9],d2,by unfold loseS; omega⟩
  · obtain ⟨d1,d2,d3⟩:=mixS_spec f1 (a.two rfl) f3
    simp only [show ¬ (6:Int)=1 by omega,show ¬ (6:Int)=2 by omega,show ¬ (6:Int)=3 by omega,show ¬ (6:Int)=4 by omega,show ¬ (6:Int)=5 by omega,if_false]
    exact ⟨s.set (d1.good (by omega) (by omega)),by simp [h9],In.nil _,by rw [a.m6 rfl]; rfl⟩
end Go.Proofs.Ytlmgjjmighajdaa
set_option linter.unusedSimpArgs false
set_option linter.unusedVariables false
namespace Go.Proofs.Ytlmgjjmighajdaa
open Go.Sl Go.Sx
theorem Hold.heapOk {ids:List Int} {H:List (List Part)} (k:Hold ids H) (hs:sumH H≤100000000):∀p∈H,HeapOk p:=fun p hp=>(k.ins p hp).heap (by have:=k.i8; omega) (by have:=k.one_le p hp; omega)
theorem F28_end {f:Nat} (hf:200≤f) {lots:List Lot} {H holds:List (List (List Part))} (s:StockOk lots H) (h9:H.length=9) (hl:lots.length≤8) {mv:List Part} (hm:mv.length≤100) :
    F28_j1 f (lots,holds) H mv=some (lots,H,mv,0):=by
  unfold F28_j1 F28_j2
  rw [F85_eq (s.small h9) (show lots.length≤100 by omega) hf]
  simp only [Option.bind_some]
  rw [app_small (by simp) (by omega)]
  rfl
theorem F28_eq {f:Nat} (hf:200≤f) {lots:List Lot} {holds:List (List (List Part))} (s:StockOk lots holds) (h8:lots.length≤8) (h9:holds.length=9) {k l fr to m:Int} (h24:F24 f lots holds k l fr to m=some 0) :
    F28 f lots holds k l fr to m=some (lots,(doS holds k l fr to m).1,(doS holds k l fr to m).2,0):=by
  have a:=F24_allowed s h9 (by omega) h24
  obtain ⟨g1,g2,g3,g4⟩:=doS_good s h8 h9 a
  have gl:=g3.len
  have gi:(idsOf lots).length≤8:=by simpa [idsOf] using h8
  obtain ⟨f1,f2,f3,f4⟩:=hold_at s h8 h9 (t:=fr.toNat) (by have:=a.fr0; omega)
  obtain ⟨t1,t2,t3,t4⟩:=hold_at s h8 h9 (t:=to.toNat) (by have:=a.to0; omega)
  have ef:getI holds fr=some (holds.getD fr.toNat []):=by
    have:fr=(fr.toNat:Int):=by have:=a.fr0; omega
    rw [this,getI_opt,Int.toNat_natCast]; exact f4
  have et:getI holds to=some (holds.getD to.toNat []):=by
    have:to=(to.toNat:Int):=by have:=a.to0; omega
    rw [this,getI_opt,Int.toNat_natCast]; exact t4
  unfold F28
  rw [h24]
  simp only [Option.bind_some,bne_self_eq_false,cond_false]
  rw [F85_eq (s.small h9) (by omega) hf]
  simp only [Option.bind_some,bq]
  have hk:=a.k0
  have hk':k=1∨k=2∨k=3∨k=4∨k=5∨k=6:=by omega
  rcases hk' with rfl | rfl | rfl | rfl | rfl | rfl
  · have hm:=a.m0 (by omega)
    have h1:=one_in s.lok (a.lot (.inl rfl)) hm.1 hm.2
    have hs1:sumM [(⟨l,m⟩:Part)]=m:=by simp [sumM]
    simp only [doS,if_true,decide_true,cond_true,et,Option.bind_some] at g1 g2 ⊢
    rw [F86_eq hf (by omega) (t1.heapOk t3) (h1.heap (by omega) (by omega))]
    simp only [Option.bind_some]
    exact F28_end hf g1 g2 h8 (by simp)
  · simp only [doS,show ¬ (2:Int)=1 by omega,if_false,if_true,decide_true,decide_false,cond_true,cond_false,et,Option.bind_some] at g1 g2 ⊢
    rw [app_small (by omega) (by simp)]
    simp only [Option.bind_some]
    exact F28_end hf g1 g2 h8 (by simp)
  · have hm:=a.m0 (by omega)
    simp only [doS,show ¬ (3:Int)=1 by omega,show ¬ (3:Int)=2 by omega,if_false,if_true,decide_true,decide_false,cond_true,cond_false,ef,Option.bind_some] at g1 g2 gl ⊢
    rw [F87_eq hf f1.rev (by omega) (by rw [sumH_rev]; exact a.from_ (.inl rfl)) (by rw [sumH_rev]; exact f3)]
    simp only [Option.bind_some]
    exact F28_end hf g1 g2 h8 (show (drawS (holds.getD fr.toNat []) m).2.length≤100 by omega)
  · have hm:=a.m0 (by omega)
    have hap:=a.apart rfl
    have hne:fr.toNat≠to.toNat:=by have:=a.fr0; have:=a.to0; omega
    obtain ⟨d1,d2,d3,d4,d5⟩:=drawS_spec f1 (m:=m) (by omega) (a.from_ (.inr (.inl rfl))) f3
    have hi:=a.into (.inr (.inr rfl))
    simp only [doS,show ¬ (4:Int)=1 by omega,show ¬ (4:Int)=2 by omega,show ¬ (4:Int)=3 by omega,if_false,if_true,decide_true,decide_false,cond_true,cond_false,ef,Option.bind_some] at g1 g2 gl ⊢
    rw [F87_eq hf f1.rev (by omega) (by rw [sumH_rev]; exact a.from_ (.inr (.inl rfl))) (by rw [sumH_rev]; exact f3)]
    have e5:∀v,getI (holds.set fr.toNat v) to=some (holds.getD to.toNat []):=fun v=>by
      have:to=(to.toNat:Int):=by have:=a.to0; omega
      rw [this,getI_opt,Int.toNat_natCast,List.getElem?_set_ne hne]; exact t4
    simp only [Option.bind_some,e5]
    have e6:((drawR (holds.getD fr.toNat []).reverse [] m).1.reverse,(drawR (holds.getD fr.toNat []).reverse [] m).2)=drawS (holds.getD fr.toNat []) m:=rfl
    have e7:(drawR (holds.getD fr.toNat []).reverse [] m).2=(drawS (holds.getD fr.toNat []) m).2:=rfl
    rw [e7,F86_eq hf (by omega) (t1.heapOk t3) (d2.heap (by omega) (by omega))]
    simp only [Option.bind_some]
    exact F28_end hf g1 g2 h8 (by omega)
  · have hm:=a.m0 (by omega)
    simp only [doS,show ¬ (5:Int)=1 by omega,show ¬ (5:Int)=2 by omega,show ¬ (5:Int)=3 by omega,show ¬ (5:Int)=4 by omega,if_false,if_true,decide_true,decide_false,cond_true,cond_false,ef,Option.bind_some] at g1 g2 gl ⊢
    rw [F88_eq hf f1 (by omega) f3 (by omega) (a.from_ (.inr (.inr rfl)))]
    simp only [Option.bind_some]
    exact F28_end hf g1 g2 h8 (by omega)
  · obtain ⟨H,p,q,e⟩:=two_last (a.two rfl)
    simp only [doS,show ¬ (6:Int)=1 by omega,show ¬ (6:Int)=2 by omega,show ¬ (6:Int)=3 by omega,show ¬ (6:Int)=4 by omega,show ¬ (6:Int)=5 by omega,if_false,decide_true,decide_false,cond_true,cond_false,ef,Option.bind_some] at g1 g2 gl ⊢
    have hok:=f1.heapOk f3
    rw [e] at hok f2 g1 g2 ⊢
    have hp:=hok p (by simp)
    have hq:=hok q (by simp)
    simp only [List.length_append,List.length_cons,List.length_nil] at f2
    obtain ⟨m1,m2,m3⟩:=mix_ref hf (H:=H) (by omega) hp hq
    rw [m1,m2,m3]
    simp only [Option.bind_some]
    rw [app_small (by simp) (by omega)]
    simp only [Option.bind_some,List.nil_append]
    rw [F89_eq hp hq (by omega)]
    simp only [Option.bind_some]
    rw [app_small (by omega) (by simp)]
    simp only [Option.bind_some]
    rw [mixS_last] at g1 g2 ⊢
    exact F28_end hf g1 g2 h8 (by simp)
end Go.Proofs.Ytlmgjjmighajdaa
set_option linter.unusedSimpArgs false
set_option linter.unusedVariables false
namespace Go.Proofs.Ytlmgjjmighajdaa
open Go.Sl Go.Sx
theorem getD_set {α:Type} (l:List α) (t u:Nat) (v d:α):(l.set t v).getD u d=if t=u∧t<l.length then v else l.getD u d:=by
  by_cases e:t=u
  · subst e
    by_cases h:t<l.length
    · simp [h]
    · have:l.length≤t:=by omega
      simp [List.getElem?_eq_none this,h]
  · simp [List.getElem?_set_ne e,e]
structure PlOk (lots:List Lot) (x:Pl):Prop where
  el:x.lots=lots
  sok:StockOk lots x.holds
  h9:x.holds.length=9
  m9:x.may.length=9
  len:∀t:Nat,(x.may.getD t []).length=(x.holds.getD t []).length
def PlTells (x:Pl):Prop:=∀t:Nat,Tells (x.holds.getD t []) (x.may.getD t [])
theorem PlOk.at9 {lots:List Lot} {x:Pl} (k:PlOk lots x) {t:Nat} (ht:t<9):At9 x t (x.holds.getD t []) (x.may.getD t []):=by
  have h1:t<x.holds.length:=by have:=k.h9; omega
  have h2:t<x.may.length:=by have:=k.m9; omega
  refine ⟨by simp [h1],by simp [h2],k.len t,?_⟩
  have e:x.holds.getD t []=x.holds[t]:=by simp [h1]
  rw [e]
  have:=(k.sok.hok _ (List.getElem_mem h1)).len
  omega
theorem PlOk.put {lots:List Lot} {x:Pl} (k:PlOk lots x) {t:Nat} {H:List (List Part)} {M:List (List (Int×Bool))} (hl:M.length=H.length) (s:StockOk lots (x.holds.set t H)):PlOk lots (x.put t H M):=by
  refine ⟨k.el,s,by simp [Pl.put,k.h9],by simp [Pl.put,k.m9],fun u=>?_⟩
  simp only [Pl.put,getD_set,k.h9,k.m9]
  split
  · exact hl
  · exact k.len u
theorem PlTells.put {x:Pl} (k:PlTells x) (h9:x.holds.length=x.may.length) {t:Nat} {H:List (List Part)} {M:List (List (Int×Bool))} (h:Tells H M):PlTells (x.put t H M):=fun u=>by
  simp only [Pl.put,getD_set,h9]
  split
  · exact h
  · exact k u
def MayIn (x y:Pl) (l:Int):Prop:=∀t:Nat,∀u∈y.may.getD t [],u∈x.may.getD t []∨u=putK [] l true
theorem MayIn.put {x:Pl} {t:Nat} {H:List (List Part)} {M:List (List (Int×Bool))} {l:Int} (h:∀u∈M,u∈x.may.getD t []∨u=putK [] l true):MayIn x (x.put t H M) l:=fun v u hu=>by
  simp only [Pl.put,getD_set] at hu
  split at hu
  · rename_i e; rw [← e.1]; exact h u hu
  · exact .inl hu
theorem F140_eq {f:Nat} (hf:200≤f) {ids:List Int} {t:Nat} {x:Pl} {H:List (List Part)} {M:List (List (Int×Bool))} (ha:At9 x t H M) (k:Hold ids H) {m:Int} (h0:0<m) (h1:m≤sumH H) (hs:sumH H≤100000000) (hl:H.length≤90) (a b c:Int) :
    ∃s' M',M'.length=(drawS H m).1.length∧F140 f x a b (t:Int) c m=some ((drawS H m).2,s',x.put t (drawS H m).1 M')∧(∀u∈M',u∈M)∧(Tells H M→Tells (drawS H m).1 M'∧Has1 (drawS H m).2 s'):=by
  obtain ⟨s',M',e1,e2,e3,e4⟩:=F140_l1_eq hf t H.reverse f x M [] [] m (by simp; omega) k.rev (by simpa using ha) (In.nil ids) h0 (by rw [sumH_rev]; exact h1) (by rw [sumH_rev]; simp [sumM]; exact hs)
  refine ⟨s',M',by simpa [drawS] using e1,?_,e3,fun kk=>?_⟩
  · unfold F140 F140_j1
    rw [e2]; rfl
  · have:=e4 (by simpa using kk) (Has1.nil _)
    exact this
theorem F82_eq {f:Nat} (hf:200≤f) {lots:List Lot} (h8:lots.length≤8) {x:Pl} (p:PlOk lots x) {k l fr to m:Int} (h78:F78 f lots x.holds k l fr to m=some 0) (a:Allowed lots x.holds k l fr to m) :
    ∃s y,F82 f x k l fr to m=some ((doS x.holds k l fr to m).2,s,0,y)∧y.holds=(doS x.holds k l fr to m).1∧PlOk lots y∧(PlTells x→PlTells y)∧(k=2∨k=3∨k=5→MayIn x y l):=by
  have s:=p.sok
  have h9:=p.h9
  have hpl:x.holds.length=x.may.length:=by rw [p.h9,p.m9]
  obtain ⟨g1,g2,g3,g4⟩:=doS_good s h8 h9 a
  have gl:=g3.len
  have gi:(idsOf lots).length≤8:=by simpa [idsOf] using h8
  obtain ⟨f1,f2,f3,f4⟩:=hold_at s h8 h9 (t:=fr.toNat) (by have:=a.fr0; omega)
  obtain ⟨t1,t2,t3,t4⟩:=hold_at s h8 h9 (t:=to.toNat) (by have:=a.to0; omega)
  have af:=p.at9 (t:=fr.toNat) (by have:=a.fr0; omega)
  have at_:=p.at9 (t:=to.toNat) (by have:=a.to0; omega)
  have efr:(fr.toNat:Int)=fr:=by have:=a.fr0; omega
  have eto:(to.toNat:Int)=to:=by have:=a.to0; omega
  have hk:=a.k0
  unfold F82
  rw [p.el,h78]
  simp only [Option.bind_some,bne_self_eq_false,cond_false,F125_eq,lkK]
  rcases deeds_at k with ⟨rfl,e⟩ | ⟨rfl,e⟩ | ⟨rfl,e⟩ | ⟨rfl,e⟩ | ⟨rfl,e⟩ | ⟨rfl,e⟩ | ⟨hk,e⟩
  · have hm:=a.m0 (by omega)
    have h1:=one_in s.lok (a.lot (.inl rfl)) hm.1 hm.2
    have hpo:PartOk ⟨l,m⟩:=h1.ok _ (by simp)
    obtain ⟨s',M',c1,c2,c3⟩:=F138_eq hf at_ (t1.heapOk t3) hpo 1 fr
    rw [eto] at c2
    simp only [doS,if_true] at g1 ⊢
    simp only [e,Option.getD_some,beq_self_eq_true,cond_true,c2,Option.bind_some]
    exact ⟨s',_,rfl,rfl,p.put c1 g1,fun k=>k.put hpl (c3 (k _)),fun h=>absurd h (by decide)⟩
  · have hm:=a.m0 (by omega)
    obtain ⟨s',c2⟩:=F139_eq (f:=f) at_ 2 l fr m
    rw [eto] at c2
    simp only [doS,show ¬ (2:Int)=1 by omega,if_false,if_true] at g1 ⊢
    simp only [e,Option.getD_some,show ((some 139:Option Nat) == some 138)=false from rfl,beq_self_eq_true,cond_true,cond_false,c2,Option.bind_some]
    refine ⟨s',_,rfl,rfl,p.put (by have:=at_.len; rw [List.length_append,List.length_append,this]; rfl) g1,fun k=>k.put hpl ((k _).append (one_has l m)),fun _=>MayIn.put fun u hu=>?_⟩
    rcases List.mem_append.1 hu with h | h
    · exact .inl h
    · exact .inr (by simpa using h)
  · have hm:=a.m0 (by omega)
    obtain ⟨s',M',c1,c2,c3,c4⟩:=F140_eq hf af f1 (m:=m) (by omega) (a.from_ (.inl rfl)) f3 (by omega) 3 l to
    rw [efr] at c2
    simp only [doS,show ¬ (3:Int)=1 by omega,show ¬ (3:Int)=2 by omega,if_false,if_true] at g1 ⊢
    simp only [e,Option.getD_some,show ((some 140:Option Nat) == some 138)=false from rfl,show ((some 140:Option Nat) == some 139)=false from rfl,beq_self_eq_true,cond_true,cond_false,c2,Option.bind_some]
    exact ⟨s',_,rfl,rfl,p.put c1 g1,fun k=>k.put hpl (c4 (k _)).1,fun _=>MayIn.put fun u hu=> .inl (c3 u hu)⟩
  · have hm:=a.m0 (by omega)
    have hap:=a.apart rfl
    have hne:fr.toNat≠to.toNat:=by have:=a.fr0; have:=a.to0; omega
    obtain ⟨d1,d2,d3,d4,d5⟩:=drawS_spec f1 (m:=m) (by omega) (a.from_ (.inr (.inl rfl))) f3
    obtain ⟨s',M',c1,c2,c3,c4⟩:=F140_eq hf af f1 (m:=m) (by omega) (a.from_ (.inr (.inl rfl))) f3 (by omega) 4 l to
    rw [efr] at c2
    have sg:=s.set (t:=fr.toNat) (d1.good (by omega) (by omega))
    have p2:=p.put c1 sg
    have hn2:(drawS (x.holds.getD fr.toNat []) m).2≠[]:=fun h=>by rw [h] at d4; simp [sumM] at d4; omega
    simp only [doS,show ¬ (4:Int)=1 by omega,show ¬ (4:Int)=2 by omega,show ¬ (4:Int)=3 by omega,if_false,if_true] at g1 gl g3 ⊢
    obtain ⟨M2,b1,b2,b3⟩:=F146_eq hf (at_.other hne (H':=(drawS (x.holds.getD fr.toNat []) m).1) (M':=M')) (t1.heapOk t3) (g3.heap (by omega) (by omega)) hn2 s'
    rw [eto] at b2
    simp only [e,Option.getD_some,show ((some 141:Option Nat) == some 138)=false from rfl,show ((some 141:Option Nat) == some 139)=false from rfl,show ((some 141:Option Nat) == some 140)=false from rfl,beq_self_eq_true,cond_true,cond_false,F141,c2,b2,Option.bind_some]
    refine ⟨s',_,rfl,rfl,p2.put b1 g1,fun k=>?_,fun h=>absurd h (by decide)⟩
    obtain ⟨k1,k2⟩:=c4 (k _)
    exact (k.put hpl k1).put (by simp [Pl.put,hpl]) (b3 (k _) k2)
  · have hm:=a.m0 (by omega)
    obtain ⟨s',M',c1,c2,c3,c4⟩:=F142_eq hf af f1 (by omega) f3 (m:=m) (by omega) (a.from_ (.inr (.inr rfl))) 5 l to
    rw [efr] at c2
    simp only [doS,show ¬ (5:Int)=1 by omega,show ¬ (5:Int)=2 by omega,show ¬ (5:Int)=3 by omega,show ¬ (5:Int)=4 by omega,if_false,if_true] at g1 ⊢
    simp only [e,Option.getD_some,show ((some 142:Option Nat) == some 138)=false from rfl,show ((some 142:Option Nat) == some 139)=false from rfl,show ((some 142:Option Nat) == some 140)=false from rfl,show ((some 142:Option Nat) == some 141)=false from rfl,beq_self_eq_true,cond_true,cond_false,c2,Option.bind_some]
    exact ⟨s',_,rfl,rfl,p.put c1 g1,fun k=>k.put hpl (c4 (k _)),fun _=>MayIn.put fun u hu=> .inl (c3 u hu)⟩
  · obtain ⟨H,p',q,eH⟩:=two_last (a.two rfl)
    have hok:=f1.heapOk f3
    have hne:=f1.ne
    rw [eH] at hok hne
    have af':=af
    rw [eH] at af'
    obtain ⟨M',c1,c2,c3⟩:=F143_eq hf af' (hok p' (by simp)) (hok q (by simp)) (hne q (by simp)) 6 l to m
    rw [efr] at c2
    simp only [doS,show ¬ (6:Int)=1 by omega,show ¬ (6:Int)=2 by omega,show ¬ (6:Int)=3 by omega,show ¬ (6:Int)=4 by omega,show ¬ (6:Int)=5 by omega,if_false,eH,mixS_last] at g1 ⊢
    simp only [e,Option.getD_some,show ((some 143:Option Nat) == some 138)=false from rfl,show ((some 143:Option Nat) == some 139)=false from rfl,show ((some 143:Option Nat) == some 140)=false from rfl,show ((some 143:Option Nat) == some 141)=false from rfl,show ((some 143:Option Nat) == some 142)=false from rfl,beq_self_eq_true,cond_true,cond_false,c2,Option.bind_some]
    exact ⟨[],_,rfl,rfl,p.put c1 g1,fun k=>k.put hpl (c3 (by have:=k fr.toNat; rwa [eH] at this)),fun h=>absurd h (by decide)⟩
  · omega
theorem F82_no {f:Nat} {x:Pl} {k l fr to m r:Int} (h:F78 f x.lots x.holds k l fr to m=some r) (hr:r≠0):F82 f x k l fr to m=some ([],[],r,x):=by
  unfold F82
  have:(r != 0)=true:=by simpa using hr
  rw [h,Option.bind_some,this,cond_true]
end Go.Proofs.Ytlmgjjmighajdaa
set_option linter.unusedSimpArgs false
set_option linter.unusedVariables false
namespace Go.Proofs.Ytlmgjjmighajdaa
open Go.Sl Go.Sx
theorem getD_map {α β:Type} (g:List α→List β) (hg:g []=[]) (l:List (List α)) (t:Nat):(l.map g).getD t []=g (l.getD t []):=by
  by_cases h:t<l.length
  · simp [h]
  · have:l.length≤t:=by omega
    simp [List.getElem?_eq_none this,hg]
def plOf (lots:List Lot) (holds:List (List (List Part))):Pl:=⟨lots,holds,mayOf holds⟩
theorem plOf_ok {lots:List Lot} {holds:List (List (List Part))} (s:StockOk lots holds) (h9:holds.length=9):PlOk lots (plOf lots holds) where
  el:=rfl
  sok:=s
  h9:=h9
  m9:=by simp [plOf,mayOf,h9]
  len t:=by
    show ((mayOf holds).getD t []).length=(holds.getD t []).length
    unfold mayOf
    rw [getD_map _ rfl]
    simp
theorem F78_of {f:Nat} {lots:List Lot} {holds:List (List (List Part))} (s:StockOk lots holds) (h9:holds.length=9) (hf:40<f) (k l fr to m:Int) :
    ∃r,F78 f lots holds k l fr to m=some r∧F24 f lots holds k l fr to m=some r:=by
  obtain ⟨r,e1,e2⟩:=check_eq s h9 hf k l fr to m
  rcases F22_eq (lots:=lots) h9 hf with ⟨_,e⟩ | ⟨hn,_⟩
  · exact ⟨r,e1,e2 e⟩
  · exact absurd s hn
abbrev Holds:=List (List (List Part))
def nine:Holds:=[[],[],[],[],[],[],[],[],[]]
def doD (h:Holds) (d:Deed):Holds:=(doS h d.kind d.lot d.frm d.to d.mass).1
def run (h:Holds) (ds:List Deed):Holds:=ds.foldl doD h
def Can (f:Nat) (lots:List Lot) (h:Holds) (d:Deed):Prop:=F24 f lots h d.kind d.lot d.frm d.to d.mass=some 0
def Chain (f:Nat) (lots:List Lot) (h:Holds):List Deed→Prop
  | []=>True
  | d::ds=>Can f lots h d∧Chain f lots (doD h d) ds
theorem Chain.snoc {f:Nat} {lots:List Lot}:∀ {h:Holds} {ds:List Deed} {d:Deed},Chain f lots h ds→Can f lots (run h ds) d→Chain f lots h (ds ++ [d])
  | h,[],d,_,k=>⟨k,trivial⟩
  | h,e::ds,d,c,k=>⟨c.1,Chain.snoc c.2 k⟩
theorem nine_ok {lots:List Lot} (h:LotsOk lots):StockOk lots nine:=by
  refine ⟨h,fun l hl=>?_⟩
  have:l=[]:=by simp [nine] at hl; exact hl
  subst this
  exact ⟨by simp,by simp,by simp [sumH]⟩
theorem doD_good {f:Nat} (hf:200≤f) {lots:List Lot} {h:Holds} (s:StockOk lots h) (h8:lots.length≤8) (h9:h.length=9) {d:Deed} (c:Can f lots h d):StockOk lots (doD h d)∧(doD h d).length=9:=by
  obtain ⟨g1,g2,_,_⟩:=doS_good s h8 h9 (F24_allowed s h9 (by omega) c)
  exact ⟨g1,g2⟩
theorem run_snoc (h:Holds) (ds:List Deed) (d:Deed):run h (ds ++ [d])=doD (run h ds) d:=by simp [run]
theorem run_good {f:Nat} (hf:200≤f) {lots:List Lot} (h8:lots.length≤8):∀ {ds:List Deed} {h:Holds},StockOk lots h→h.length=9→Chain f lots h ds→StockOk lots (run h ds)∧(run h ds).length=9
  | [],h,s,h9,_=>⟨s,h9⟩
  | d::ds,h,s,h9,c=>by
    obtain ⟨g1,g2⟩:=doD_good hf s h8 h9 c.1
    exact run_good (ds:=ds) hf h8 g1 g2 c.2
end Go.Proofs.Ytlmgjjmighajdaa
set_option linter.unusedSimpArgs false
set_option linter.unusedVariables false
namespace Go.Proofs.Ytlmgjjmighajdaa
open Go.Sl Go.Sx
theorem F35_eq (f:Nat) (p n:Int) (h0:0<n) (h1:n≤1000000000):F35 f p n=some (p % n):=by
  unfold F35
  rw [nzS (by omega)]
  simp only [Option.bind_some]
  have a1:=Int.lt_tmod_of_pos p h0
  have a2:=Int.tmod_lt_of_pos p h0
  rw [w64_id (by omega) (by omega),Int.tmod_eq_emod_of_nonneg (by omega)]
  congr 1
  rw [Int.add_emod_right]
  have e:p.tmod n % n=p % n:=by
    rw [Int.tmod_eq_emod]
    split
    · simp
    · have:((n.natAbs:Nat):Int)=n:=by omega
      rw [this,Int.sub_emod]; simp
  exact e
theorem mod_b (p n:Int) (h0:0<n):0≤p % n∧p % n<n:=⟨Int.emod_nonneg _ (by omega),Int.emod_lt_of_pos _ h0⟩
structure LotsTo (l:List Lot) (i:Nat) (m:Int):Prop where
  len:l.length=i
  ok:∀x∈l,LotOk x∧x.id≤m
  rise:l.Pairwise fun a b=>a.id<b.id
  m0:0≤m
  m1:m≤3 * i
theorem F94_loop {f:Nat} (x:List A4):∀n i (l:List Lot) (m:Int),LotsTo l i m→i≤8→9 - i≤n→∃lots,F94_l1 f x n l m (i:Int)=some lots∧LotsOk lots∧lots.length≤8
  | 0,i,l,m,k,h8,hn=>by omega
  | n + 1,i,l,m,k,h8,hn=>by
    have fin:LotsOk l∧l.length≤8:=⟨⟨by have:=k.len; omega,fun y hy=>(k.ok y hy).1,k.rise⟩,by have:=k.len; omega⟩
    simp only [F94_l1]
    by_cases hx:i<x.length
    · rw [decide_eq_true (by omega:(i:Int)<(x.length:Int)),cond_true]
      by_cases hi:i<8
      · rw [decide_eq_true (by omega:(i:Int)<8)]
        simp only [F94_j1,cond_true,getI_nat hx,Option.bind_some]
        have b0:=mod_b x[i].a0 3 (by omega)
        have b1:=mod_b x[i].a1 3 (by omega)
        have b2:=mod_b x[i].a2 3 (by omega)
        have b3:=mod_b x[i].a3 10001 (by omega)
        rw [F35_eq f x[i].a0 3 (by omega) (by omega),F35_eq f x[i].a1 3 (by omega) (by omega),F35_eq f x[i].a2 3 (by omega) (by omega),F35_eq f x[i].a3 10001 (by omega) (by omega)]
        simp only [Option.bind_some]
        have k0:=k.m0
        have k1:=k.m1
        rw [w64_id (n:=m + 1) (by omega) (by omega),w64_id (n:=m + 1 + x[i].a0 % 3) (by omega) (by omega),w64_id (n:=1 + x[i].a1 % 3) (by omega) (by omega),w64_id (n:=1 + x[i].a2 % 3) (by omega) (by omega),app_small (by have:=k.len; omega) (by simp)]
        simp only [Option.bind_some]
        rw [succ_w (by omega)]
        refine F94_loop x n (i + 1) _ _ ⟨by simp [k.len],fun y hy=>?_,?_,by omega,by push_cast; omega⟩ (by omega) (by omega)
        · rcases List.mem_append.1 hy with h | h
          · have:=k.ok y h
            exact ⟨this.1,by omega⟩
          · rw [List.mem_singleton] at h
            subst h
            exact ⟨⟨by show 1≤m + 1 + _; omega,by show m + 1 + _≤9999; omega,by show 1≤1 + _; omega,by show 1 + _≤9; omega,by show 1≤1 + _; omega,by show 1 + _≤9; omega,by show 0≤x[i].a3 % 10001; omega,by show x[i].a3 % 10001≤10000; omega⟩,Int.le_refl _⟩
        · refine List.pairwise_append.2 ⟨k.rise,List.pairwise_singleton _ _,fun a ha b hb=>?_⟩
          rw [List.mem_singleton] at hb
          subst hb
          have:=(k.ok a ha).2
          show a.id<m + 1 + _
          omega
      · rw [decide_eq_false (by omega:¬ (i:Int)<8)]
        simp only [F94_j1,cond_false]
        exact ⟨l,rfl,fin⟩
    · rw [decide_eq_false (by omega:¬ (i:Int)<(x.length:Int)),cond_false]
      simp only [F94_j1,cond_false]
      exact ⟨l,rfl,fin⟩
theorem F94_eq {f:Nat} (hf:200≤f) (x:List A4):∃lots,F94 f x=some lots∧LotsOk lots∧lots.length≤8:=by
  have:=F94_loop (f:=f) x f 0 [] 0 ⟨rfl,by simp,List.Pairwise.nil,by omega,by omega⟩ (by omega) (by omega)
  simpa [F94] using this
theorem F95_eq {f:Nat} (hf:200≤f) {lots:List Lot} {h:Holds} (s:StockOk lots h) (h8:lots.length≤8) (h0:0<lots.length) (h9:h.length=9) (a b c d e:Int) :
    ∃k l fr to m g,F95 f lots h a b c d e=some (k,l,fr,to,m,g)∧(g=true→F24 f lots h k l fr to m=some 0):=by
  have j2':∀r1 l fr to m,∃k l' fr' to' m' g,F95_j2 f lots h r1 l fr to m=some (k,l',fr',to',m',g)∧(g=true→F24 f lots h k l' fr' to' m'=some 0):=by
    intro r1 l fr to m
    obtain ⟨r,_,e2⟩:=F78_of s h9 (by omega:40<f) (w64 (1 + r1)) l fr to m
    refine ⟨w64 (1 + r1),l,fr,to,m,r == 0,by unfold F95_j2; rw [e2]; rfl,fun hg=>?_⟩
    have:r=0:=by simpa using hg
    rw [e2,this]
  have j4:∀e r1 r3 y6,0≤r3→r3<4→∃k l' fr' to' m' g,F95_j4 f lots h e r1 r3 y6=some (k,l',fr',to',m',g)∧(g=true→F24 f lots h k l' fr' to' m'=some 0):=by
    intro e r1 r3 y6 hr0 hr1
    unfold F95_j4
    cases h6:(w64 (1 + r1) != 6)
    · rw [cond_false]; exact j2' _ _ _ _ _
    · have hlt:r3.toNat<h.length:=by omega
      have er:getI h r3=some h[r3.toNat]:=by have:=getI_nat hlt; rwa [Int.toNat_of_nonneg hr0] at this
      have g:=s.hok _ (List.getElem_mem hlt)
      have hs0:=(sumH_bound fun x hx=>(g.heaps x hx).ok).1
      have hs1:=g.sum
      rw [cond_true,er]
      simp only [Option.bind_some]
      rw [F77_75,F75_eq g.len (fun x hx=>(g.heaps x hx).ok) (by omega)]
      simp only [Option.bind_some]
      rw [F35_eq f e _ (by split <;> omega) (by split <;> omega)]
      exact j2' _ _ _ _ _
  have j3:∀b e r1 r3 r6 y8 y9,0≤r3→r3<4→∃k l' fr' to' m' g,F95_j3 f lots h b e r1 r3 r6 y8 y9=some (k,l',fr',to',m',g)∧(g=true→F24 f lots h k l' fr' to' m'=some 0):=by
    intro b e r1 r3 r6 y8 y9 hr0 hr1
    unfold F95_j3
    cases y9
    · rw [cond_false]
      cases h4:(w64 (1 + r1) == 4)
      · rw [cond_false]; exact j4 _ _ _ _ hr0 hr1
      · rw [cond_true]; exact j4 _ _ _ _ hr0 hr1
    · rw [cond_true,F35_eq f b _ (by omega) (by omega)]
      have mb:=mod_b b (lots.length:Int) (by omega)
      have hlt:(b % (lots.length:Int)).toNat<lots.length:=by omega
      have er:getI lots (b % (lots.length:Int))=some lots[(b % (lots.length:Int)).toNat]:=by have:=getI_nat hlt; rwa [Int.toNat_of_nonneg mb.1] at this
      simp only [Option.bind_some,er]
      exact j2' _ _ _ _ _
  have mc:=mod_b c 4 (by omega)
  have j1:∀m,∃k l' fr' to' m' g,F95_j1 f lots h b e (a % 6) (c % 4) (d % 4) m=some (k,l',fr',to',m',g)∧(g=true→F24 f lots h k l' fr' to' m'=some 0):=by
    intro m
    unfold F95_j1
    cases h1:(w64 (1 + a % 6) == 1)
    · rw [cond_false]; exact j3 _ _ _ _ _ _ _ mc.1 mc.2
    · rw [cond_true]; exact j3 _ _ _ _ _ _ _ mc.1 mc.2
  unfold F95
  rw [F35_eq f a 6 (by omega) (by omega),F35_eq f c 4 (by omega) (by omega),F35_eq f d 4 (by omega) (by omega),F35_eq f e 400 (by omega) (by omega),F35_eq f (w64 (Int.tdiv e 400)) 9 (by omega) (by omega)]
  simp only [Option.bind_some]
  cases h1:(w64 (Int.tdiv e 400) % 9 == 0)
  · rw [cond_false]; exact j1 _
  · rw [cond_true,F35_eq f e 5000000 (by omega) (by omega)]
    exact j1 _
theorem F37_loop {f:Nat} (hf:200≤f) (x:List A5) {lots:List Lot} (hl:LotsOk lots) (h8:lots.length≤8):∀n i (ds:List Deed),ds.length≤i→i≤24→25 - i≤n→Chain f lots nine ds→(lots=[]→ds=[]) →
    ∃ds',F37_l1 f x lots n ds lots (run nine ds) (i:Int)=some (lots,ds')∧ds'.length≤24∧Chain f lots nine ds'∧(lots=[]→ds'=[])
  | 0,i,ds,_,_,hn,_,_=>by omega
  | n + 1,i,ds,hd,hi,hn,hc,h00=>by
    have fin:ds.length≤24∧Chain f lots nine ds∧(lots=[]→ds=[]):=⟨by omega,hc,h00⟩
    simp only [F37_l1]
    by_cases hx:i<x.length
    · rw [decide_eq_true (by omega:(i:Int)<(x.length:Int)),cond_true]
      by_cases hi:i<24
      · rw [decide_eq_true (by omega:(i:Int)<24),cond_true]
        by_cases h0:0<lots.length
        · rw [decide_eq_true (by omega:(lots.length:Int) > 0)]
          obtain ⟨g1,g2⟩:=run_good hf h8 (nine_ok hl) rfl hc
          obtain ⟨k,l,fr,to,m,g,e1,e2⟩:=F95_eq hf g1 h8 h0 g2 x[i].a0 x[i].a1 x[i].a2 x[i].a3 x[i].a4
          simp only [F37_j1,cond_true,getI_nat hx,Option.bind_some,e1]
          cases g
          · simp only [F37_j3,cond_false,F37_j2]
            rw [succ_w (by omega)]
            exact F37_loop hf x hl h8 n (i + 1) ds (by omega) (by omega) (by omega) hc h00
          · have h24:=e2 rfl
            simp only [F37_j3,cond_true,F37_j2]
            rw [F28_eq hf g1 h8 g2 h24]
            simp only [Option.bind_some]
            rw [app_small (by omega) (by simp)]
            simp only [Option.bind_some]
            rw [succ_w (by omega)]
            have e3:(doS (run nine ds) k l fr to m).1=run nine (ds ++ [⟨k,l,fr,to,m⟩]):=by rw [run_snoc]; rfl
            rw [e3]
            exact F37_loop hf x hl h8 n (i + 1) _ (by simp; omega) (by omega) (by omega) (hc.snoc h24) (fun e=>by rw [e] at h0; simp at h0)
        · rw [decide_eq_false (by omega:¬ (lots.length:Int) > 0)]
          simp only [F37_j1,cond_false]
          exact ⟨ds,rfl,fin⟩
      · rw [decide_eq_false (by omega:¬ (i:Int)<24),cond_false]
        simp only [F37_j1,cond_false]
        exact ⟨ds,rfl,fin⟩
    · rw [decide_eq_false (by omega:¬ (i:Int)<(x.length:Int)),cond_false]
      simp only [F37_j1,cond_false]
      exact ⟨ds,rfl,fin⟩
structure MadeOk (f:Nat) (lots:List Lot) (ds:List Deed):Prop where
  lok:LotsOk lots
  h8:lots.length≤8
  len:ds.length≤24
  chain:Chain f lots nine ds
  none:lots=[]→ds=[]
theorem F37_eq {f:Nat} (hf:200≤f) (x:List A4) (y:List A5):∃lots ds,F37 f x y=some (lots,ds)∧MadeOk f lots ds:=by
  obtain ⟨lots,e,hl,h8⟩:=F94_eq hf x
  obtain ⟨ds,e2,h1,h2,h3⟩:=F37_loop hf y hl h8 f 0 [] (by simp) (by omega) (by omega) trivial (fun _=>rfl)
  refine ⟨lots,ds,?_,hl,h8,h1,h2,h3⟩
  unfold F37
  rw [e]
  exact e2
end Go.Proofs.Ytlmgjjmighajdaa
set_option linter.unusedSimpArgs false
set_option linter.unusedVariables false
namespace Go.Proofs.Ytlmgjjmighajdaa
open Go.Sl Go.Sx
theorem F24_some {f:Nat} (hf:200≤f) {lots:List Lot} {h:Holds} (s:StockOk lots h) (h9:h.length=9) (d:Deed):∃r,F24 f lots h d.kind d.lot d.frm d.to d.mass=some r:=by
  obtain ⟨r,_,e⟩:=F78_of s h9 (by omega:40<f) d.kind d.lot d.frm d.to d.mass
  exact ⟨r,e⟩
theorem F82_step {f:Nat} (hf:200≤f) {lots:List Lot} (h8:lots.length≤8) {x:Pl} (p:PlOk lots x) (d:Deed) :
    (∃r,r≠0∧F24 f lots x.holds d.kind d.lot d.frm d.to d.mass=some r∧F82 f x d.kind d.lot d.frm d.to d.mass=some ([],[],r,x)) ∨
    (∃s y,Can f lots x.holds d∧F82 f x d.kind d.lot d.frm d.to d.mass=some ((doS x.holds d.kind d.lot d.frm d.to d.mass).2,s,0,y)∧y.holds=doD x.holds d∧PlOk lots y∧(PlTells x→PlTells y)∧(d.kind=2∨d.kind=3∨d.kind=5→MayIn x y d.lot)):=by
  obtain ⟨r,e1,e2⟩:=F78_of p.sok p.h9 (by omega:40<f) d.kind d.lot d.frm d.to d.mass
  by_cases hr:r=0
  · subst hr
    obtain ⟨s,y,k1,k2,k3,k4,k5⟩:=F82_eq hf h8 p e1 (F24_allowed p.sok p.h9 (by omega) e2)
    exact .inr ⟨s,y,e2,k1,k2,k3,k4,k5⟩
  · exact .inl ⟨r,hr,e2,F82_no (by rw [p.el]; exact e1) hr⟩
def playS (f:Nat) (lots:List Lot):Holds→List Deed→Nat→Option Holds×Nat×Int
  | h,[],i=>(some h,i,0)
  | h,d::ds,i=>match F24 f lots h d.kind d.lot d.frm d.to d.mass with
    | some 0=>playS f lots (doD h d) ds (i + 1)
    | some r=>(none,i,r)
    | none=>(none,i,1)
def outP (lots:List Lot):Option Holds×Nat×Int→List Lot×Holds×Int×Int
  | (some h,n,_)=>(lots,h,n,0)
  | (none,n,e)=>([],nine,n,e)
theorem play_can {f:Nat} {lots:List Lot} {h:Holds} {d:Deed} (c:Can f lots h d) (ds:List Deed) (i:Nat):playS f lots h (d::ds) i=playS f lots (doD h d) ds (i + 1):=by
  unfold Can at c
  simp only [playS,c]
theorem play_not {f:Nat} {lots:List Lot} {h:Holds} {d:Deed} {r:Int} (hr:r≠0) (c:F24 f lots h d.kind d.lot d.frm d.to d.mass=some r) (ds:List Deed) (i:Nat):playS f lots h (d::ds) i=(none,i,r):=by
  simp only [playS,c]
theorem play_chain {f:Nat} {lots:List Lot}:∀ {ds:List Deed} {h:Holds} (i:Nat),Chain f lots h ds→playS f lots h ds i=(some (run h ds),i + ds.length,0)
  | [],h,i,_=>rfl
  | d::ds,h,i,c=>by
    rw [play_can c.1,play_chain (ds:=ds) (i + 1) c.2]
    simp only [run,List.foldl_cons,List.length_cons]
    congr 2
    omega
theorem drop_head {α:Type} {ds:List α} {i:Nat} {d:α} {rest:List α} (e:ds.drop i=d::rest):∃h:i<ds.length,ds[i]=d∧ds.drop (i + 1)=rest:=by
  have hlt:i<ds.length:=by
    rcases Nat.lt_or_ge i ds.length with h | h
    · exact h
    · rw [List.drop_eq_nil_of_le h] at e; cases e
  have e2:=List.drop_eq_getElem_cons hlt
  rw [e] at e2
  injection e2 with ed er
  exact ⟨hlt,ed.symm,er.symm⟩
theorem F38_loop {f:Nat} (hf:200≤f) {lots:List Lot} (h8:lots.length≤8) {ds:List Deed} (hd:ds.length≤60):∀(rest:List Deed) n i (x:Pl),PlOk lots x→ds.drop i=rest→i≤ds.length→rest.length<n →
    F38_l1 f ds n x (i:Int)=some (outP lots (playS f lots x.holds rest i))
  | _,0,i,x,_,_,_,hn=>by omega
  | [],n + 1,i,x,p,e,hi,hn=>by
    have:ds.length≤i:=by simpa using e
    have h1:decide ((i:Int)<(ds.length:Int))=false:=decide_eq_false (by omega)
    have h2:i=ds.length:=by omega
    simp only [F38_l1,h1,cond_false,F38_j1,bne_self_eq_false,Option.bind_some]
    rw [p.el,F83_eq (p.sok.small p.h9) (by omega) hf,h2]
    rfl
  | d::rest,n + 1,i,x,p,e,hi,hn=>by
    obtain ⟨hlt,ed,er⟩:=drop_head e
    have h1:decide ((i:Int)<(ds.length:Int))=true:=decide_eq_true (by omega)
    simp only [F38_l1,h1,cond_true,getI_nat hlt,Option.bind_some,ed]
    rcases F82_step hf h8 p d with ⟨r,hr,e1,e2⟩ | ⟨s,y,c,e1,e2,p2,_,_⟩
    · rw [e2,play_not hr e1]
      have hb:(r != 0)=true:=by simpa using hr
      simp only [Option.bind_some,hb,cond_true,F38_j1]
      rfl
    · rw [e1,play_can c]
      simp only [Option.bind_some,bne_self_eq_false,cond_false,F97]
      rw [succ_w (by omega),F38_loop hf h8 hd rest n (i + 1) y p2 er hlt (by simp at hn; omega),e2]
theorem F110_ok {f:Nat} (hf:200≤f) {lots:List Lot} (hl:LotsOk lots) {ds:List Deed} (hd:ds.length≤60):F110 f lots ds=some 0:=by
  unfold F110
  rcases F19_eq (l:=lots) (by omega:40<f) with ⟨_,e⟩ | ⟨hn,_⟩
  · have:decide ((ds.length:Int) > 60)=false:=decide_eq_false (by omega)
    rw [e]
    simp only [Option.bind_some,bne_self_eq_false,cond_false,this]
  · exact absurd hl hn
theorem F81_nine {f:Nat} (hf:200≤f) {lots:List Lot} (hl:LotsOk lots) (h8:lots.length≤8):F81 f lots nine=some (plOf lots nine):=F81_eq ((nine_ok hl).small rfl) (by omega) hf
theorem F38_eq {f:Nat} (hf:200≤f) {lots:List Lot} (hl:LotsOk lots) (h8:lots.length≤8) {ds:List Deed} (hd:ds.length≤60):F38 f lots ds=some (outP lots (playS f lots nine ds 0)):=by
  unfold F38
  rw [F110_ok hf hl hd]
  simp only [Option.bind_some,bne_self_eq_false,cond_false]
  change (F81 f lots nine).bind _=_
  rw [F81_nine hf hl h8]
  exact F38_loop hf h8 hd ds f 0 (plOf lots nine) (plOf_ok (nine_ok hl) rfl) (by simp) (by omega) (by omega)
end Go.Proofs.Ytlmgjjmighajdaa
set_option linter.unusedSimpArgs false
set_option linter.unusedVariables false
namespace Go.Proofs.Ytlmgjjmighajdaa
open Go.Sl Go.Sx
variable {ids : List Int}
def ofM (l:Int) (p:List Part):Int:=(p.map fun q=>if q.lot=l then q.mass else 0).sum
def ofH (l:Int) (H:List (List Part)):Int:=(H.map (ofM l)).sum
def ofA (l:Int) (h:Holds):Int:=(h.map (ofH l)).sum
theorem ofM_cons (l:Int) (q:Part) (p:List Part):ofM l (q::p)=(if q.lot=l then q.mass else 0) + ofM l p:=by simp [ofM]
theorem ofH_cons (l:Int) (p:List Part) (H:List (List Part)):ofH l (p::H)=ofM l p + ofH l H:=by simp [ofH]
theorem ofH_app (l:Int) (a b:List (List Part)):ofH l (a ++ b)=ofH l a + ofH l b:=by unfold ofH; rw [List.map_append,sum_app]
theorem ofM_bound {l:Int}:∀ {p:List Part},(∀q∈p,1≤q.mass)→0≤ofM l p∧ofM l p≤sumM p
  | [],_=>by simp [ofM,sumM]
  | q::p,h=>by
    have ih:=ofM_bound (l:=l) (p:=p) fun x hx=>h x (by simp [hx])
    have h1:=h q (by simp)
    rw [ofM_cons]
    have:sumM (q::p)=q.mass + sumM p:=by simp [sumM]
    rw [this]
    split <;> omega
def mvD (h:Holds) (d:Deed):List Part:=(doS h d.kind d.lot d.frm d.to d.mass).2
def gainS (c:Int→Bool) (l:Int):Holds→List Deed→Int
  | _,[]=>0
  | h,d::ds=>(if c d.kind=true then ofM l (mvD h d) else 0) + gainS c l (doD h d) ds
def isIn (k:Int):Bool:=(k == 1) || (k == 2)
def isDraw (k:Int):Bool:=k == 3
def isLose (k:Int):Bool:=k == 5
theorem mvD_ok {f:Nat} (hf:200≤f) {lots:List Lot} {h:Holds} (s:StockOk lots h) (h8:lots.length≤8) (h9:h.length=9) {d:Deed} (c:Can f lots h d) (l:Int):In (idsOf lots) (mvD h d)∧(mvD h d).length≤8∧0≤ofM l (mvD h d)∧ofM l (mvD h d)≤100000000∧sumM (mvD h d)≤100000000:=by
  have a:=F24_allowed s h9 (by omega) c
  obtain ⟨g1,g2,g3,g4⟩:=doS_good s h8 h9 a
  have gi:(idsOf lots).length≤8:=by simpa [idsOf] using h8
  have hm:d.mass≤100000000:=by
    by_cases e:d.kind=6
    · have:=a.m6 e; omega
    · exact (a.m0 e).2
  have b:=ofM_bound (l:=l) (p:=mvD h d) fun q hq=>(g3.ok q hq).m0
  change sumM (mvD h d)=_ at g4
  have hl:(mvD h d).length≤(idsOf lots).length:=g3.len
  exact ⟨g3,by omega,b.1,by omega,by omega⟩
end Go.Proofs.Ytlmgjjmighajdaa
set_option linter.unusedSimpArgs false
set_option linter.unusedVariables false
namespace Go.Proofs.Ytlmgjjmighajdaa
open Go.Sl Go.Sx
abbrev Tab:=List (Int×Int)
def addK (y:Tab) (q:Part):Tab:=putK y q.lot (w64 (lkK y q.lot 0 + q.mass))
theorem lk_put (y:Tab) (k v l:Int):lkK (putK y k v) l 0=if k=l then v else lkK y l 0:=by
  unfold lkK; rw [getK_put]; split <;> rfl
def Bd (y:Tab) (b:Int):Prop:=∀l,0≤lkK y l 0∧lkK y l 0≤b
theorem Bd.nil:Bd [] 0:=fun l=>by simp [lkK,getK]
theorem fold_lk:∀ {p:List Part} {y:Tab} {b:Int},(∀q∈p,PartOk q)→Bd y b→b + 100000000 * (p.length:Int)≤1000000000000→∀l,lkK (p.foldl addK y) l 0=lkK y l 0 + ofM l p
  | [],y,b,_,_,_,l=>by simp [ofM]
  | q::p,y,b,h,hb,hl,l=>by
    have hq:=h q (by simp)
    have q0:=hq.m0
    have q1:=hq.m1
    simp only [List.length_cons] at hl
    push_cast at hl
    have hy:=hb q.lot
    have hw:w64 (lkK y q.lot 0 + q.mass)=lkK y q.lot 0 + q.mass:=w64_id (by omega) (by omega)
    have hb2:Bd (addK y q) (b + 100000000):=fun l=>by
      unfold addK
      rw [lk_put,hw]
      have:=hb l
      split <;> omega
    rw [List.foldl_cons,fold_lk (fun x hx=>h x (by simp [hx])) hb2 (by omega) l,ofM_cons]
    have:lkK (addK y q) l 0=lkK y l 0 + (if q.lot=l then q.mass else 0):=by
      unfold addK
      rw [lk_put,hw]
      split
      · rename_i e; subst e; rfl
      · omega
    omega
theorem F45_l2_eq {f:Nat} (hf:200≤f) (k5:Pl→Tab→Tab→Tab→Int→Option (List Account×Int)) (a b:Tab) (i:Int) (r:List Part×List (Int×Bool)×Int×Pl) (hr:r.1.length≤100) (y:Tab):F45_l2 k5 a b i r f y 0=F45_j2 k5 i r a b (r.1.foldl addK y):=by
  have key:=from_st (T:=fun n j=>F45_l2 k5 a b i r n ((r.1.take j).foldl addK y) (j:Int)) (len:=r.1.length) (n:=f) (out:=F45_j2 k5 i r a b (r.1.foldl addK y)) (by omega)
    (fun n j hj=>by
      simp only [F45_l2,lt_len,hj,decide_true,cond_true,getI_nat hj,Option.bind_some]
      rw [succ_w (by omega),take_fold _ _ hj]; rfl)
    (fun n=>by simp only [F45_l2,lt_len,Nat.lt_irrefl,decide_false,cond_false,List.take_length])
  exact key
theorem F45_l3_eq {f:Nat} (hf:200≤f) (k5:Pl→Tab→Tab→Tab→Int→Option (List Account×Int)) (a b:Tab) (i:Int) (r:List Part×List (Int×Bool)×Int×Pl) (hr:r.1.length≤100) (y:Tab):F45_l3 k5 a b i r f y 0=F45_j2 k5 i r a (r.1.foldl addK y) b:=by
  have key:=from_st (T:=fun n j=>F45_l3 k5 a b i r n ((r.1.take j).foldl addK y) (j:Int)) (len:=r.1.length) (n:=f) (out:=F45_j2 k5 i r a (r.1.foldl addK y) b) (by omega)
    (fun n j hj=>by
      simp only [F45_l3,lt_len,hj,decide_true,cond_true,getI_nat hj,Option.bind_some]
      rw [succ_w (by omega),take_fold _ _ hj]; rfl)
    (fun n=>by simp only [F45_l3,lt_len,Nat.lt_irrefl,decide_false,cond_false,List.take_length])
  exact key
theorem F45_l4_eq {f:Nat} (hf:200≤f) (k5:Pl→Tab→Tab→Tab→Int→Option (List Account×Int)) (a b:Tab) (i:Int) (r:List Part×List (Int×Bool)×Int×Pl) (hr:r.1.length≤100) (y:Tab):F45_l4 k5 a b i r f y 0=F45_j2 k5 i r (r.1.foldl addK y) a b:=by
  have key:=from_st (T:=fun n j=>F45_l4 k5 a b i r n ((r.1.take j).foldl addK y) (j:Int)) (len:=r.1.length) (n:=f) (out:=F45_j2 k5 i r (r.1.foldl addK y) a b) (by omega)
    (fun n j hj=>by
      simp only [F45_l4,lt_len,hj,decide_true,cond_true,getI_nat hj,Option.bind_some]
      rw [succ_w (by omega),take_fold _ _ hj]; rfl)
    (fun n=>by simp only [F45_l4,lt_len,Nat.lt_irrefl,decide_false,cond_false,List.take_length])
  exact key
theorem F45_l5_eq {f:Nat} (hf:200≤f) (k5:Pl→Tab→Tab→Tab→Int→Option (List Account×Int)) (a b c:Tab) (i:Int) (r:List Part×List (Int×Bool)×Int×Pl) (hr:r.1.length≤100):F45_l5 k5 a b c i r f 0=F45_j2 k5 i r a b c:=by
  have key:=from_st (T:=fun n j=>F45_l5 k5 a b c i r n (j:Int)) (len:=r.1.length) (n:=f) (out:=F45_j2 k5 i r a b c) (by omega)
    (fun n j hj=>by
      simp only [F45_l5,lt_len,hj,decide_true,cond_true,getI_nat hj,Option.bind_some]
      rw [succ_w (by omega)])
    (fun n=>by simp only [F45_l5,lt_len,Nat.lt_irrefl,decide_false,cond_false])
  exact key
def addP (y:Tab) (p:List Part):Tab:=p.foldl addK y
def addH (y:Tab) (H:List (List Part)):Tab:=H.foldl addP y
theorem addH_lk {lots:List Lot}:∀ {H:List (List Part)} {y:Tab} {b:Int},(∀p∈H,GoodHeap lots p)→lots.length≤8→Bd y b→b + 1000000000 * (H.length:Int)≤100000000000→∀l,lkK (addH y H) l 0=lkK y l 0 + ofH l H
  | [],y,b,_,_,_,_,l=>by simp [addH,ofH]
  | p::H,y,b,h,h8,hb,hl,l=>by
    have hp:=h p (by simp)
    have hin:In (idsOf lots) p:=⟨hp.ok.2.1,hp.ok.2.2.1,fun q hq=>mem_ids.2 (hp.lots q hq)⟩
    have hlen:=hin.len
    have gi:(idsOf lots).length≤8:=by simpa [idsOf] using h8
    simp only [List.length_cons] at hl
    push_cast at hl
    have hk:=fold_lk (p:=p) hp.ok.2.1 hb (by omega)
    have hb2:Bd (addP y p) (b + 100000000):=fun l=>by
      have:=hb l
      have hbd:=ofM_bound (l:=l) (p:=p) fun q hq=>(hp.ok.2.1 q hq).m0
      have hs:=hp.ok.2.2.2
      unfold addP
      rw [hk l]
      omega
    show lkK (addH (addP y p) H) l 0=_
    rw [addH_lk (fun x hx=>h x (by simp [hx])) h8 hb2 (by omega) l,ofH_cons]
    unfold addP
    rw [hk l]
    omega
theorem F45_l7_eq {f:Nat} (hf:200≤f) (k3:Tab→Int→Option (List Account×Int)) (i:Int) {H:List (List Part)} (hH:H.length≤100) (hp:∀p∈H,p.length≤100) (y:Tab):F45_l7 f k3 i H f y 0=k3 (addH y H) (w64 (i + 1)):=by
  have h8:∀k1 (t:Int) (p:List Part) (hl:p.length≤100) (y:Tab),F45_l8 k1 t p f y 0=k1 (addP y p) (w64 (t + 1)):=fun k1 t p hl y=>by
    have key:=from_st (T:=fun n j=>F45_l8 k1 t p n ((p.take j).foldl addK y) (j:Int)) (len:=p.length) (n:=f) (out:=k1 (addP y p) (w64 (t + 1))) (by omega)
      (fun n j hj=>by
        simp only [F45_l8,lt_len,hj,decide_true,cond_true,getI_nat hj,Option.bind_some]
        rw [succ_w (by omega),take_fold _ _ hj]; rfl)
      (fun n=>by simp only [F45_l8,lt_len,Nat.lt_irrefl,decide_false,cond_false,List.take_length]; rfl)
    exact key
  have key:=from_st (T:=fun n j=>F45_l7 f k3 i H n (addH y (H.take j)) (j:Int)) (len:=H.length) (n:=f) (out:=k3 (addH y H) (w64 (i + 1))) (by omega)
    (fun n j hj=>by
      simp only [F45_l7,lt_len,hj,decide_true,cond_true,getI_nat hj,Option.bind_some]
      rw [h8 _ _ _ (hp _ (List.getElem_mem hj)),succ_w (by omega)]
      unfold addH
      rw [take_fold _ _ hj])
    (fun n=>by simp only [F45_l7,lt_len,Nat.lt_irrefl,decide_false,cond_false,List.take_length])
  exact key
def acctK (a b c d:Tab) (x:Lot):Account:=⟨x.id,lkK c x.id 0,lkK b x.id 0,lkK a x.id 0,lkK d x.id 0⟩
theorem F45_l9_eq {f:Nat} (hf:200≤f) {lots:List Lot} (h8:lots.length≤100) (a b c d:Tab):F45_l9 lots a b c d f [] 0=some (lots.map (acctK a b c d),0):=by
  have key:=from_st (T:=fun n j=>F45_l9 lots a b c d n ((lots.take j).map (acctK a b c d)) (j:Int)) (len:=lots.length) (n:=f) (out:=some (lots.map (acctK a b c d),0)) (by omega)
    (fun n j hj=>by
      simp only [F45_l9,lt_len,hj,decide_true,cond_true,getI_nat hj,Option.bind_some]
      rw [app_small (by simp; omega) (by simp)]
      simp only [Option.bind_some]
      rw [succ_w (by omega),List.take_succ_eq_append_getElem hj,List.map_append]
      rfl)
    (fun n=>by simp only [F45_l9,lt_len,Nat.lt_irrefl,decide_false,cond_false,List.take_length])
  exact key
def addA (y:Tab) (h:Holds):Tab:=h.foldl addH y
theorem addA_lk {lots:List Lot} (h8:lots.length≤8):∀ {h:Holds} {y:Tab} {b:Int},(∀H∈h,GoodHold lots H)→Bd y b→b + 4000000000 * (h.length:Int)≤90000000000→∀l,lkK (addA y h) l 0=lkK y l 0 + ofA l h
  | [],y,b,_,_,_,l=>by simp [addA,ofA]
  | H::h,y,b,g,hb,hl,l=>by
    have gH:=g H (by simp)
    have h4:=gH.len
    simp only [List.length_cons] at hl
    push_cast at hl
    have hk:=addH_lk (y:=y) gH.heaps h8 hb (by omega)
    have hH:=gH.hold h8
    have hb2:Bd (addH y H) (b + 400000000):=fun l=>by
      have:=hb l
      have:∀K:List (List Part),(∀p∈K,GoodHeap lots p)→0≤ofH l K∧ofH l K≤100000000 * (K.length:Int):=by
        intro K
        induction K with
        | nil=>intro _; simp [ofH]
        | cons p K ih =>
          intro hK
          have i1:=ih fun x hx=>hK x (by simp [hx])
          have hp:=hK p (by simp)
          have hbd:=ofM_bound (l:=l) (p:=p) fun q hq=>(hp.ok.2.1 q hq).m0
          have hs:=hp.ok.2.2.2
          rw [ofH_cons,List.length_cons]
          push_cast
          omega
      have:=this H gH.heaps
      rw [hk l]
      omega
    show lkK (addA (addH y H) h) l 0=_
    rw [addA_lk h8 (fun x hx=>g x (by simp [hx])) hb2 (by omega) l,hk l]
    have:ofA l (H::h)=ofH l H + ofA l h:=by simp [ofA]
    omega
theorem F45_l6_eq {f:Nat} (hf:200≤f) {lots:List Lot} (h8:lots.length≤8) (a b c:Tab) {x:Pl} (p:PlOk lots x):F45_l6 f lots a b c x f [] 0=some (lots.map (acctK a b c (addA [] x.holds)),0):=by
  have h9:=p.h9
  have sm:=p.sok.small p.h9
  have key:=from_st (T:=fun n j=>F45_l6 f lots a b c x n (addA [] (x.holds.take j)) (j:Int)) (len:=9) (n:=f) (out:=some (lots.map (acctK a b c (addA [] x.holds)),0)) (by omega)
    (fun n j hj=>by
      have h1:decide ((j:Int)<9)=true:=decide_eq_true (by omega)
      have hlt:j<x.holds.length:=by omega
      simp only [F45_l6,h1,cond_true,getI_nat hlt,Option.bind_some]
      rw [F45_l7_eq hf _ _ (sm.len _ (List.getElem_mem hlt)) (sm.heaps _ (List.getElem_mem hlt)),succ_w (by omega)]
      unfold addA
      rw [take_fold _ _ hlt])
    (fun n=>by
      have h1:decide (((9:Nat):Int)<9)=false:=by decide
      simp only [F45_l6,h1,cond_false,List.take_of_length_le (show x.holds.length≤9 by omega)]
      exact F45_l9_eq hf (by omega) _ _ _ _)
  exact key
theorem F45_loop {f:Nat} (hf:200≤f) {lots:List Lot} (h8:lots.length≤8) {ds:List Deed} (hd:ds.length≤60):∀(rest:List Deed) n i (x:Pl) (a b c:Tab),PlOk lots x→Chain f lots x.holds rest→ds.drop i=rest→i≤ds.length→rest.length<n →
    Bd a (100000000 * (i:Int))→Bd b (100000000 * (i:Int))→Bd c (100000000 * (i:Int)) →
    ∃a' b' c' y,F45_l1 f lots ds n x a b c (i:Int)=F45_j1 f lots a' b' c' (some y) (ds.length:Int) 0∧PlOk lots y∧y.holds=run x.holds rest ∧
      ∀l,lkK a' l 0=lkK a l 0 + gainS isLose l x.holds rest∧lkK b' l 0=lkK b l 0 + gainS isDraw l x.holds rest∧lkK c' l 0=lkK c l 0 + gainS isIn l x.holds rest
  | _,0,i,x,a,b,c,_,_,_,_,hn,_,_,_=>by omega
  | [],n + 1,i,x,a,b,c,p,ch,e,hi,hn,ha,hb,hc=>by
    have:ds.length≤i:=by simpa using e
    have h1:decide ((i:Int)<(ds.length:Int))=false:=decide_eq_false (by omega)
    simp only [F45_l1,h1,cond_false]
    exact ⟨a,b,c,x,rfl,p,rfl,fun l=>by simp [gainS]⟩
  | d::rest,n + 1,i,x,a,b,c,p,ch,e,hi,hn,ha,hb,hc=>by
    obtain ⟨hlt,ed,er⟩:=drop_head e
    have h1:decide ((i:Int)<(ds.length:Int))=true:=decide_eq_true (by omega)
    rcases F82_step hf h8 p d with ⟨r,hr,e1,e2⟩ | ⟨s,y,c',e1,e2,p2,_,_⟩
    · have:=ch.1
      unfold Can at this
      rw [e1] at this
      exact absurd (Option.some.inj this) hr
    · obtain ⟨m1,m2,m3,m4,m5⟩:=mvD_ok hf p.sok h8 p.h9 ch.1 0
      have mb:∀l,0≤ofM l (mvD x.holds d)∧ofM l (mvD x.holds d)≤100000000:=fun l=>by
        obtain ⟨_,_,k1,k2,_⟩:=mvD_ok hf p.sok h8 p.h9 ch.1 l
        exact ⟨k1,k2⟩
      have hfold:∀z:Tab,Bd z (100000000 * (i:Int))→(∀l,lkK ((mvD x.holds d).foldl addK z) l 0=lkK z l 0 + ofM l (mvD x.holds d))∧Bd ((mvD x.holds d).foldl addK z) (100000000 * ((i + 1:Nat):Int)):=fun z hz=>by
        have hk:=fold_lk (p:=mvD x.holds d) m1.ok hz (by omega)
        refine ⟨hk,fun l=>?_⟩
        have:=hz l
        have:=mb l
        rw [hk l]
        push_cast
        omega
      have hup:∀z:Tab,Bd z (100000000 * (i:Int))→Bd z (100000000 * ((i + 1:Nat):Int)):=fun z hz l=>by have:=hz l; push_cast; omega
      have ih:=fun a b c ha hb hc=>F45_loop hf h8 hd rest n (i + 1) y a b c p2 (by rw [e2]; exact ch.2) er hlt (by simp at hn; omega) ha hb hc
      simp only [F45_l1,h1,cond_true,getI_nat hlt,Option.bind_some,ed]
      rw [e1]
      simp only [Option.bind_some,bne_self_eq_false,cond_false]
      have hmv:((doS x.holds d.kind d.lot d.frm d.to d.mass).2).length≤100:=by
        change (mvD x.holds d).length≤100
        omega
      cases k12:((d.kind == 1) || (d.kind == 2))
      · rw [cond_false]
        cases k3:(d.kind == 3)
        · rw [cond_false]
          cases k5:(d.kind == 5)
          · rw [cond_false,F45_l5_eq hf _ _ _ _ _ _ hmv]
            simp only [F45_j2]
            rw [succ_w (by omega)]
            obtain ⟨a',b',c'',z,h1,h2,h3,h4⟩:=ih a b c (hup a ha) (hup b hb) (hup c hc)
            refine ⟨a',b',c'',z,h1,h2,by rw [h3,e2]; rfl,fun l=>?_⟩
            rw [e2] at h4
            simp only [gainS,isIn,isDraw,isLose,k12,k3,k5]
            have:=h4 l
            simp only [Bool.false_eq_true,if_false] at *
            omega
          · rw [cond_true,F45_l4_eq hf _ _ _ _ _ hmv]
            simp only [F45_j2]
            rw [succ_w (by omega)]
            obtain ⟨g1,g2⟩:=hfold a ha
            obtain ⟨a',b',c'',z,h1,h2,h3,h4⟩:=ih _ b c g2 (hup b hb) (hup c hc)
            refine ⟨a',b',c'',z,h1,h2,by rw [h3,e2]; rfl,fun l=>?_⟩
            rw [e2] at h4
            simp only [gainS,isIn,isDraw,isLose,k12,k3,k5]
            have:=h4 l
            have:=g1 l
            simp only [Bool.false_eq_true,if_false,if_true] at *
            omega
        · rw [cond_true,F45_l3_eq hf _ _ _ _ _ hmv]
          have k5:(d.kind == 5)=false:=by simp at k3 ⊢; omega
          simp only [F45_j2]
          rw [succ_w (by omega)]
          obtain ⟨g1,g2⟩:=hfold b hb
          obtain ⟨a',b',c'',z,h1,h2,h3,h4⟩:=ih a _ c (hup a ha) g2 (hup c hc)
          refine ⟨a',b',c'',z,h1,h2,by rw [h3,e2]; rfl,fun l=>?_⟩
          rw [e2] at h4
          simp only [gainS,isIn,isDraw,isLose,k12,k3,k5]
          have:=h4 l
          have:=g1 l
          simp only [Bool.false_eq_true,if_false,if_true] at *
          omega
      · rw [cond_true,F45_l2_eq hf _ _ _ _ _ hmv]
        have k3:(d.kind == 3)=false:=by simp at k12 ⊢; omega
        have k5:(d.kind == 5)=false:=by simp at k12 ⊢; omega
        simp only [F45_j2]
        rw [succ_w (by omega)]
        obtain ⟨g1,g2⟩:=hfold c hc
        obtain ⟨a',b',c'',z,h1,h2,h3,h4⟩:=ih a b _ (hup a ha) (hup b hb) g2
        refine ⟨a',b',c'',z,h1,h2,by rw [h3,e2]; rfl,fun l=>?_⟩
        rw [e2] at h4
        simp only [gainS,isIn,isDraw,isLose,k12,k3,k5]
        have:=h4 l
        have:=g1 l
        simp only [Bool.false_eq_true,if_false,if_true] at *
        omega
def acctS (ds:List Deed) (x:Lot):Account:=⟨x.id,gainS isIn x.id nine ds,gainS isDraw x.id nine ds,gainS isLose x.id nine ds,ofA x.id (run nine ds)⟩
end Go.Proofs.Ytlmgjjmighajdaa
set_option linter.unusedSimpArgs false
set_option linter.unusedVariables false
namespace Go.Proofs.Ytlmgjjmighajdaa
open Go.Sl Go.Sx
theorem ofM_zero {l:Int}:∀ {p:List Part},(∀q∈p,q.lot≠l)→ofM l p=0
  | [],_=>rfl
  | q::p,h=>by rw [ofM_cons,if_neg (h q (by simp)),ofM_zero fun x hx=>h x (by simp [hx])]; rfl
end Go.Proofs.Ytlmgjjmighajdaa
set_option linter.unusedSimpArgs false
set_option linter.unusedVariables false
namespace Go.Proofs.Ytlmgjjmighajdaa
open Go.Sl Go.Sx
theorem F28_no {f:Nat} {lots:List Lot} {h:Holds} {k l fr to m r:Int} (hr:r≠0) (e:F24 f lots h k l fr to m=some r):F28 f lots h k l fr to m=some ([],nine,[],r):=by
  have hb:(r != 0)=true:=by simpa using hr
  unfold F28
  rw [e]
  simp only [Option.bind_some,hb,cond_true]
  rfl
theorem F44_any {f:Nat} (hf:200≤f) {lots:List Lot} (h8:lots.length≤8) {ds:List Deed} (hd:ds.length≤60):∀(rest:List Deed) n i (h:Holds),StockOk lots h→h.length=9→ds.drop i=rest→i≤ds.length→rest.length<n →
    F44_l1 f ds n lots h (i:Int)=some (outP lots (playS f lots h rest i))
  | _,0,i,h,_,_,_,_,hn=>by omega
  | [],n + 1,i,h,s,h9,e,hi,hn=>by
    have:ds.length≤i:=by simpa using e
    have h1:decide ((i:Int)<(ds.length:Int))=false:=decide_eq_false (by omega)
    have h2:i=ds.length:=by omega
    simp only [F44_l1,h1,cond_false]
    rw [h2]
    rfl
  | d::rest,n + 1,i,h,s,h9,e,hi,hn=>by
    obtain ⟨hlt,ed,er⟩:=drop_head e
    have h1:decide ((i:Int)<(ds.length:Int))=true:=decide_eq_true (by omega)
    simp only [F44_l1,h1,cond_true,getI_nat hlt,Option.bind_some,ed]
    obtain ⟨r,hr⟩:=F24_some hf s h9 d
    by_cases h0:r=0
    · subst h0
      have c:Can f lots h d:=hr
      obtain ⟨g1,g2⟩:=doD_good hf s h8 h9 c
      rw [F28_eq hf s h8 h9 c,play_can c]
      simp only [Option.bind_some,F44_j1,bne_self_eq_false,cond_false]
      rw [succ_w (by omega)]
      exact F44_any hf h8 hd rest n (i + 1) (doD h d) g1 g2 er hlt (by simp at hn; omega)
    · have hb:(r != 0)=true:=by simpa using h0
      rw [F28_no h0 hr,play_not h0 hr]
      simp only [Option.bind_some,F44_j1,hb,cond_true]
      rfl
theorem F44_full {f:Nat} (hf:200≤f) {lots:List Lot} (hl:LotsOk lots) (h8:lots.length≤8) {ds:List Deed} (hd:ds.length≤60):F44 f lots ds=some (outP lots (playS f lots nine ds 0)):=by
  unfold F44
  rw [F20_19]
  rcases F19_eq (l:=lots) (by omega:40<f) with ⟨_,e⟩ | ⟨hn,_⟩
  · have:decide ((ds.length:Int) > 60)=false:=decide_eq_false (by omega)
    rw [e]
    simp only [Option.bind_some,bne_self_eq_false,cond_false,this]
    rw [app_small (by simp) (by omega)]
    simp only [Option.bind_some,List.nil_append]
    exact F44_any hf h8 hd ds f 0 nine (nine_ok hl) rfl (by simp) (by omega) (by omega)
  · exact absurd hl hn
theorem F44_bad {f:Nat} (hf:200≤f) {lots:List Lot} (hn:¬ LotsOk lots) (ds:List Deed):F44 f lots ds=some ([],nine,0,60):=by
  unfold F44
  rw [F20_19]
  rcases F19_eq (l:=lots) (by omega:40<f) with ⟨k,_⟩ | ⟨_,e⟩
  · exact absurd k hn
  · rw [e]; rfl
theorem F110_bad {f:Nat} (hf:200≤f) {lots:List Lot} (hn:¬ LotsOk lots) (ds:List Deed):F110 f lots ds=some 60:=by
  unfold F110
  rcases F19_eq (l:=lots) (by omega:40<f) with ⟨k,_⟩ | ⟨_,e⟩
  · exact absurd k hn
  · rw [e]; rfl
theorem F38_bad {f:Nat} (hf:200≤f) {lots:List Lot} (hn:¬ LotsOk lots) (ds:List Deed):F38 f lots ds=some ([],nine,0,60):=by
  unfold F38
  rw [F110_bad hf hn]
  rfl
theorem F45_bad {f:Nat} (hf:200≤f) {lots:List Lot} (hn:¬ LotsOk lots) (ds:List Deed):F45 f lots ds=some ([],60):=by
  unfold F45
  rw [F110_bad hf hn]
  rfl
theorem F46_err {f:Nat} {lots:List Lot} {ds:List Deed} {a:List Lot} {h:Holds} {n e:Int} (he:e≠0) (k:F44 f lots ds=some (a,h,n,e)):F46 f lots ds=some ([],e):=by
  have hb:(e != 0)=true:=by simpa using he
  unfold F46
  rw [k]
  simp only [Option.bind_some,hb,cond_true]
theorem play_split {f:Nat} (hf:200≤f) {lots:List Lot} (h8:lots.length≤8):∀(ds:List Deed) (h:Holds) (i:Nat),StockOk lots h→h.length=9→Chain f lots h ds∨∃n r,r≠0∧playS f lots h ds i=(none,n,r)
  | [],h,i,_,_=> .inl trivial
  | d::ds,h,i,s,h9=>by
    obtain ⟨r,hr⟩:=F24_some hf s h9 d
    by_cases h0:r=0
    · subst h0
      have c:Can f lots h d:=hr
      obtain ⟨g1,g2⟩:=doD_good hf s h8 h9 c
      rcases play_split hf h8 ds (doD h d) (i + 1) g1 g2 with k | ⟨n,r,h1,h2⟩
      · exact .inl ⟨c,k⟩
      · exact .inr ⟨n,r,h1,by rw [play_can c]; exact h2⟩
    · exact .inr ⟨i,r,h0,play_not h0 hr ds i⟩
end Go.Proofs.Ytlmgjjmighajdaa
set_option linter.unusedSimpArgs false
set_option linter.unusedVariables false
namespace Go.Proofs.Ytlmgjjmighajdaa
open Go.Sl Go.Sx
theorem F45_refuse {f:Nat} (hf:200≤f) {lots:List Lot} (h8:lots.length≤8) {ds:List Deed} (hd:ds.length≤60) {m:Nat} {r:Int} (hr:r≠0):∀(rest:List Deed) n i (x:Pl) (a b c:Tab),PlOk lots x→ds.drop i=rest→i≤ds.length→rest.length<n →
    playS f lots x.holds rest i=(none,m,r)→F45_l1 f lots ds n x a b c (i:Int)=some ([],r)
  | _,0,i,x,a,b,c,_,_,_,hn,_=>by omega
  | [],n + 1,i,x,a,b,c,p,e,hi,hn,hp=>by cases hp
  | d::rest,n + 1,i,x,a,b,c,p,e,hi,hn,hp=>by
    obtain ⟨hlt,ed,er⟩:=drop_head e
    have h1:decide ((i:Int)<(ds.length:Int))=true:=decide_eq_true (by omega)
    simp only [F45_l1,h1,cond_true,getI_nat hlt,Option.bind_some,ed]
    rcases F82_step hf h8 p d with ⟨r',hr',e1,e2⟩ | ⟨s,y,c',e1,e2,p2,_,_⟩
    · rw [play_not hr' e1] at hp
      cases hp
      have hb:(r != 0)=true:=by simpa using hr
      rw [e2]
      simp only [Option.bind_some,hb,cond_true,F45_j1]
    · rw [play_can c'] at hp
      obtain ⟨m1,m2,_⟩:=mvD_ok hf p.sok h8 p.h9 c' 0
      have ih:=fun a b c=>F45_refuse hf h8 hd hr rest n (i + 1) y a b c p2 er hlt (by simp at hn; omega) (by rw [e2]; exact hp)
      rw [e1]
      simp only [Option.bind_some,bne_self_eq_false,cond_false]
      have hmv:((doS x.holds d.kind d.lot d.frm d.to d.mass).2).length≤100:=by
        change (mvD x.holds d).length≤100
        omega
      cases k12:((d.kind == 1) || (d.kind == 2))
      · rw [cond_false]
        cases k3:(d.kind == 3)
        · rw [cond_false]
          cases k5:(d.kind == 5)
          · rw [cond_false,F45_l5_eq hf _ _ _ _ _ _ hmv]
            simp only [F45_j2]
            rw [succ_w (by omega)]
            exact ih _ _ _
          · rw [cond_true,F45_l4_eq hf _ _ _ _ _ hmv]
            simp only [F45_j2]
            rw [succ_w (by omega)]
            exact ih _ _ _
        · rw [cond_true,F45_l3_eq hf _ _ _ _ _ hmv]
          simp only [F45_j2]
          rw [succ_w (by omega)]
          exact ih _ _ _
      · rw [cond_true,F45_l2_eq hf _ _ _ _ _ hmv]
        simp only [F45_j2]
        rw [succ_w (by omega)]
        exact ih _ _ _
theorem F45_no {f:Nat} (hf:200≤f) {lots:List Lot} (hl:LotsOk lots) (h8:lots.length≤8) {ds:List Deed} (hd:ds.length≤60) {m:Nat} {r:Int} (hr:r≠0) (hp:playS f lots nine ds 0=(none,m,r)):F45 f lots ds=some ([],r):=by
  unfold F45
  rw [F110_ok hf hl hd]
  simp only [Option.bind_some,bne_self_eq_false,cond_false]
  change (F81 f lots nine).bind _=_
  rw [F81_nine hf hl h8]
  exact F45_refuse hf h8 hd hr ds f 0 (plOf lots nine) [] [] [] (plOf_ok (nine_ok hl) rfl) (by simp) (by omega) (by omega) hp
theorem F46_no {f:Nat} (hf:200≤f) {lots:List Lot} (hl:LotsOk lots) (h8:lots.length≤8) {ds:List Deed} (hd:ds.length≤60) {m:Nat} {r:Int} (hr:r≠0) (hp:playS f lots nine ds 0=(none,m,r)):F46 f lots ds=some ([],r):=by
  have:=F44_full hf hl h8 hd
  rw [hp] at this
  exact F46_err hr this
end Go.Proofs.Ytlmgjjmighajdaa
set_option linter.unusedSimpArgs false
set_option linter.unusedVariables false
namespace Go.Proofs.Ytlmgjjmighajdaa
open Go.Sl Go.Sx
theorem F105_of {f:Nat} (hf:200≤f) {p:List Part} (hl:p.length≤100) (hr0:p.Pairwise fun a b=>a.lot<b.lot) (x:Int):F105 f p x=some (ofM x p):=by
  have key:∀n i,i≤p.length→p.length - i<n→F105_l1 p x n (i:Int)=some (ofM x (p.drop i)):=by
    intro n
    induction n with
    | zero=>intro i _ hn; omega
    | succ n ih =>
      intro i hi hn
      rcases Nat.lt_or_ge i p.length with hlt | hge
      · have e1:p.drop i=p[i]::p.drop (i + 1):=List.drop_eq_getElem_cons hlt
        simp only [F105_l1,lt_len,hlt,decide_true,cond_true,getI_nat hlt,Option.bind_some,bq]
        rw [e1,ofM_cons]
        by_cases e:p[i].lot=x
        · rw [decide_eq_true e,cond_true,if_pos e,ofM_zero (p:=p.drop (i + 1)) fun q hq=>?_]
          · simp
          · have hr:=hr0
            rw [← List.take_append_drop i p,e1] at hr
            have:=(List.pairwise_cons.1 (List.pairwise_append.1 hr).2.1).1 q hq
            omega
        · rw [decide_eq_false e,cond_false,if_neg e,succ_w (by omega),ih (i + 1) hlt (by omega)]
          simp
      · have:i=p.length:=by omega
        subst this
        simp [F105_l1,ofM]
  have:=key f 0 (by omega) (by omega)
  simpa [F105] using this
theorem ofH_bound {lots:List Lot} {l:Int}:∀ {K:List (List Part)},(∀p∈K,GoodHeap lots p)→0≤ofH l K∧ofH l K≤100000000 * (K.length:Int)
  | [],_=>by simp [ofH]
  | p::K,hK=>by
    have i1:=ofH_bound (l:=l) (K:=K) fun x hx=>hK x (by simp [hx])
    have hp:=hK p (by simp)
    have hbd:=ofM_bound (l:=l) (p:=p) fun q hq=>(hp.ok.2.1 q hq).m0
    have hs:=hp.ok.2.2.2
    rw [ofH_cons,List.length_cons]
    push_cast
    omega
theorem ofH_take {l:Int} {H:List (List Part)} {j:Nat} (hj:j<H.length):ofH l (H.take (j + 1))=ofH l (H.take j) + ofM l H[j]:=by
  rw [List.take_succ_eq_append_getElem hj,ofH_app,ofH_cons]; simp [ofH]
theorem ofA_take {l:Int} {h:Holds} {j:Nat} (hj:j<h.length):ofA l (h.take (j + 1))=ofA l (h.take j) + ofH l h[j]:=by
  unfold ofA
  rw [List.take_succ_eq_append_getElem hj,List.map_append,sum_app]
  simp
theorem F46_l3_eq {f:Nat} (hf:200≤f) {lots:List Lot} {h:Holds} (s:StockOk lots h) (h9:h.length=9) (k4:List Account→Int→Option (List Account×Int)) (u:List Lot) (e0' e1':Int) (A:List Account) (y:Int) (P:Lot) (a b c:Int) (hA:A.length≤100) (hy:0≤y∧y≤1000):F46_l3 f k4 (u,h,e0',e1') A y P a b c f 0 0=k4 (A ++ [⟨P.id,a,b,c,ofA P.id h⟩]) (y + 1):=by
  have l2:∀(k1:Int→Int→Option (List Account×Int)) (t:Nat) (ht:t<h.length) (v:Int),0≤v→v≤10000000000→F46_l4 f k1 (u,h,e0',e1') P (t:Int) f v 0=k1 (v + ofH P.id h[t]) ((t + 1:Nat):Int):=fun k1 t ht v v0 v1=>by
    have g:=s.hok _ (List.getElem_mem ht)
    have g4:=g.len
    have key:=from_st (T:=fun n j=>F46_l4 f k1 (u,h,e0',e1') P (t:Int) n (v + ofH P.id (h[t].take j)) (j:Int)) (len:=h[t].length) (n:=f) (out:=k1 (v + ofH P.id h[t]) ((t + 1:Nat):Int)) (by omega)
      (fun n j hj=>by
        have hp:=g.heaps _ (List.getElem_mem hj)
        simp only [F46_l4,getI_nat ht,Option.bind_some,lt_len,hj,decide_true,cond_true,getI_nat hj]
        rw [F105_of hf (show h[t][j].length≤100 by have:=hp.ok.1; omega) hp.ok.2.2.1]
        simp only [Option.bind_some]
        have b1:=ofH_bound (lots:=lots) (l:=P.id) (K:=h[t].take j) fun p hp=>g.heaps p (List.mem_of_mem_take hp)
        have b2:=ofM_bound (l:=P.id) (p:=h[t][j]) fun q hq=>(hp.ok.2.1 q hq).m0
        have b3:=hp.ok.2.2.2
        have:(h[t].take j).length≤4:=by rw [List.length_take]; omega
        rw [w64_id (by omega) (by omega),succ_w (by omega),ofH_take hj,Int.add_assoc])
      (fun n=>by
        simp only [F46_l4,getI_nat ht,Option.bind_some,lt_len,Nat.lt_irrefl,decide_false,cond_false,List.take_length]
        rw [succ_w (by omega)])
    have e0:v + ofH P.id (h[t].take 0)=v:=by simp [ofH]
    rw [e0] at key
    exact key
  have bA:∀j,0≤ofA P.id (h.take j)∧ofA P.id (h.take j)≤400000000 * ((h.take j).length:Int):=fun j=>by
    have:∀K:Holds,(∀H∈K,GoodHold lots H)→0≤ofA P.id K∧ofA P.id K≤400000000 * (K.length:Int):=by
      intro K
      induction K with
      | nil=>intro _; simp [ofA]
      | cons H K ih =>
        intro hK
        have i1:=ih fun y hy=>hK y (by simp [hy])
        have hH:=hK H (by simp)
        have b:=ofH_bound (lots:=lots) (l:=P.id) hH.heaps
        have h4:=hH.len
        have e:ofA P.id (H::K)=ofH P.id H + ofA P.id K:=by simp [ofA]
        rw [e,List.length_cons]
        push_cast
        omega
    exact this _ fun H hH=>s.hok H (List.mem_of_mem_take hH)
  have key:=from_st (T:=fun n j=>F46_l3 f k4 (u,h,e0',e1') A y P a b c n (ofA P.id (h.take j)) (j:Int)) (len:=9) (n:=f) (out:=k4 (A ++ [⟨P.id,a,b,c,ofA P.id h⟩]) (y + 1)) (by omega)
    (fun n j hj=>by
      have h1:decide ((j:Int)<9)=true:=decide_eq_true (by omega)
      have hlt:j<h.length:=by omega
      have b:=bA j
      have hl:(h.take j).length≤9:=by rw [List.length_take]; omega
      simp only [F46_l3,h1,cond_true]
      rw [l2 _ j hlt _ b.1 (by omega),ofA_take hlt])
    (fun n=>by
      have h1:decide (((9:Nat):Int)<9)=false:=by decide
      simp only [F46_l3,h1,cond_false,List.take_of_length_le (show h.length≤9 by omega)]
      rw [app_small (by omega) (by simp)]
      simp only [Option.bind_some]
      rw [w64_id (by omega) (by omega)])
  exact key
end Go.Proofs.Ytlmgjjmighajdaa
set_option linter.unusedSimpArgs false
set_option linter.unusedVariables false
namespace Go.Proofs.Ytlmgjjmighajdaa
open Go.Sl Go.Sx
theorem F46_l2_eq {f:Nat} (hf:200≤f) {lots:List Lot} (h8:lots.length≤8) {ds:List Deed} (hd:ds.length≤60) (k4:List Account→Int→Option (List Account×Int)) (r2:List Lot×List (List (List Part))×Int×Int) (A:List Account) (y:Int) (P:Lot):∀(rest:List Deed) n i (h:Holds) (a b c:Int),StockOk lots h→h.length=9→Chain f lots h rest→ds.drop i=rest→i≤ds.length→rest.length<n →
    (0≤a∧a≤100000000 * (i:Int))→(0≤b∧b≤100000000 * (i:Int))→(0≤c∧c≤100000000 * (i:Int)) →
    F46_l2 f k4 ds r2 A y P n lots h a b c (i:Int)=F46_l3 f k4 r2 A y P (a + gainS isIn P.id h rest) (b + gainS isDraw P.id h rest) (c + gainS isLose P.id h rest) f 0 0
  | _,0,i,h,a,b,c,_,_,_,_,_,hn,_,_,_=>by omega
  | [],n + 1,i,h,a,b,c,s,h9,ch,e,hi,hn,ha,hb,hc=>by
    have:ds.length≤i:=by simpa using e
    have h1:decide ((i:Int)<(ds.length:Int))=false:=decide_eq_false (by omega)
    simp only [F46_l2,h1,cond_false,gainS,Int.add_zero]
  | d::rest,n + 1,i,h,a,b,c,s,h9,ch,e,hi,hn,ha,hb,hc=>by
    obtain ⟨hlt,ed,er⟩:=drop_head e
    have h1:decide ((i:Int)<(ds.length:Int))=true:=decide_eq_true (by omega)
    obtain ⟨g1,g2⟩:=doD_good hf s h8 h9 ch.1
    obtain ⟨m1,m2,m3,m4,m5⟩:=mvD_ok hf s h8 h9 ch.1 P.id
    simp only [F46_l2,h1,cond_true,getI_nat hlt,Option.bind_some,ed]
    rw [F28_eq hf s h8 h9 ch.1]
    have e105:F105 f (doS h d.kind d.lot d.frm d.to d.mass).2 P.id=some (ofM P.id (mvD h d)):=F105_of hf (show (mvD h d).length≤100 by omega) m1.rise P.id
    simp only [Option.bind_some,F46_j1,e105,getI_nat hlt,ed]
    have ih:=fun a b c ha hb hc=>F46_l2_eq hf h8 hd k4 r2 A y P rest n (i + 1) (doD h d) a b c g1 g2 ch.2 er hlt (by simp at hn; omega) ha hb hc
    have up:∀z:Int,(0≤z∧z≤100000000 * (i:Int))→(0≤z∧z≤100000000 * ((i + 1:Nat):Int)):=fun z hz=>by push_cast; omega
    have upm:∀z:Int,(0≤z∧z≤100000000 * (i:Int))→(0≤z + ofM P.id (mvD h d)∧z + ofM P.id (mvD h d)≤100000000 * ((i + 1:Nat):Int)):=fun z hz=>by push_cast; omega
    have hw:∀z:Int,(0≤z∧z≤100000000 * (i:Int))→w64 (z + ofM P.id (mvD h d))=z + ofM P.id (mvD h d):=fun z hz=>w64_id (by omega) (by omega)
    have step:∀x:Bool,x=((d.kind == 1) || (d.kind == 2))→F46_j3 (F46_l2 f k4 ds r2 A y P n) a b c (i:Int) lots (doS h d.kind d.lot d.frm d.to d.mass).1 (ofM P.id (mvD h d)) d x=F46_l3 f k4 r2 A y P (a + gainS isIn P.id h (d::rest)) (b + gainS isDraw P.id h (d::rest)) (c + gainS isLose P.id h (d::rest)) f 0 0:=by
      intro x hx
      subst hx
      unfold F46_j3 F46_j2
      change cond _ (F46_l2 f k4 ds r2 A y P n lots (doD h d) _ _ _ _) _=_
      rw [succ_w (by omega),hw a ha,hw b hb,hw c hc]
      cases k12:((d.kind == 1) || (d.kind == 2))
      · rw [cond_false]
        cases k3:(d.kind == 3)
        · rw [cond_false]
          cases k5:(d.kind == 5)
          · rw [cond_false]
            refine (ih a b c (up a ha) (up b hb) (up c hc)).trans ?_
            simp only [gainS,isIn,isDraw,isLose,k12,k3,k5,Bool.false_eq_true,if_false,Int.zero_add]
          · rw [cond_true]
            refine (ih a b _ (up a ha) (up b hb) (upm c hc)).trans ?_
            simp only [gainS,isIn,isDraw,isLose,k12,k3,k5,Bool.false_eq_true,if_false,if_true,Int.zero_add,Int.add_assoc]
        · have k5:(d.kind == 5)=false:=by simp at k3 ⊢; omega
          rw [cond_true]
          refine (ih a _ c (up a ha) (upm b hb) (up c hc)).trans ?_
          simp only [gainS,isIn,isDraw,isLose,k12,k3,k5,Bool.false_eq_true,if_false,if_true,Int.zero_add,Int.add_assoc]
      · have k3:(d.kind == 3)=false:=by simp at k12 ⊢; omega
        have k5:(d.kind == 5)=false:=by simp at k12 ⊢; omega
        rw [cond_true]
        refine (ih _ b c (upm a ha) (up b hb) (up c hc)).trans ?_
        simp only [gainS,isIn,isDraw,isLose,k12,k3,k5,Bool.false_eq_true,if_false,if_true,Int.zero_add,Int.add_assoc]
    cases k1:(d.kind == 1)
    · rw [cond_false]
      exact step _ (by rw [k1,Bool.false_or])
    · rw [cond_true]
      exact step _ (by rw [k1,Bool.true_or])
theorem F46_eq {f:Nat} (hf:200≤f) {lots:List Lot} (hl:LotsOk lots) (h8:lots.length≤8) {ds:List Deed} (hd:ds.length≤60) (ch:Chain f lots nine ds):F46 f lots ds=some (lots.map (acctS ds),0):=by
  have e44:F44 f lots ds=some (lots,run nine ds,((0 + ds.length:Nat):Int),0):=by
    rw [F44_full hf hl h8 hd,play_chain 0 ch]; rfl
  obtain ⟨g1,g2⟩:=run_good hf h8 (nine_ok hl) rfl ch
  unfold F46
  rw [e44]
  simp only [Option.bind_some,bne_self_eq_false,cond_false]
  have key:=from_st (T:=fun n j=>F46_l1 f lots ds (lots,run nine ds,((0 + ds.length:Nat):Int),0) n ((lots.take j).map (acctS ds)) (j:Int)) (len:=lots.length) (n:=f) (out:=some (lots.map (acctS ds),0)) (by omega)
    (fun n j hj=>by
      simp only [F46_l1,lt_len,hj,decide_true,cond_true,getI_nat hj,Option.bind_some]
      rw [app_small (by simp) (by omega)]
      simp only [Option.bind_some,List.nil_append]
      refine (F46_l2_eq hf h8 hd _ _ _ _ lots[j] ds f 0 nine 0 0 0 (nine_ok hl) rfl ch (by simp) (by omega) (by omega) (by omega) (by omega) (by omega)).trans ?_
      rw [F46_l3_eq hf g1 g2 _ _ _ _ _ _ _ _ _ _ (by simp; omega) (by omega)]
      simp only [Int.zero_add]
      rw [List.take_succ_eq_append_getElem hj,List.map_append]
      rfl)
    (fun n=>by simp only [F46_l1,lt_len,Nat.lt_irrefl,decide_false,cond_false,List.take_length])
  exact key
end Go.Proofs.Ytlmgjjmighajdaa
set_option linter.unusedSimpArgs false
set_option linter.unusedVariables false
namespace Go.Proofs.Ytlmgjjmighajdaa
open Go.Sl Go.Sx
theorem F47_refl {f:Nat} (hf:200≤f) {A:List Account} (hA:A.length≤100):F47 f A A=some true:=by
  unfold F47
  rw [beq_self_eq_true]
  exact from_st (T:=fun n j=>F47_l1 A A n true (j:Int)) (len:=A.length) (n:=f) (out:=some true) (by omega)
    (fun n j hj=>by
      simp only [F47_l1,F47_j1,lt_len,hj,decide_true,cond_true,getI_nat hj,Option.bind_some,beq_self_eq_true,Bool.and_self]
      rw [succ_w (by omega)])
    (fun n=>by simp only [F47_l1,F47_j1,lt_len,Nat.lt_irrefl,decide_false,cond_false])
theorem set_nat {α:Type} {l:List α} {k:Nat} (hk:k<l.length) (v:α):setI l (k:Int) v=some (l.set k v):=by
  unfold setI
  rw [if_pos ⟨by omega,by omega⟩,Int.toNat_natCast]
theorem sub_nat {α:Type} {l:List α} {a b:Nat} (h:a≤b) (hb:b≤l.length):subI l (a:Int) (b:Int)=some ((l.take b).drop a):=by
  unfold subI
  rw [if_pos ⟨by omega,by omega,by omega⟩,Int.toNat_natCast,Int.toNat_natCast]
theorem mod_nat {b:Int} {n:Nat} (hn:0<n):∃k:Nat,k<n∧b % (n:Int)=(k:Int):=by
  have h1:=Int.emod_nonneg b (show (n:Int)≠0 by omega)
  have h2:=Int.emod_lt_of_pos b (show (0:Int)<(n:Int) by omega)
  exact ⟨(b % (n:Int)).toNat,by omega,by omega⟩
theorem F43_deeds {f:Nat} (b c:Int) (lots:List Lot) {ds:List Deed} (hd:ds.length≤24) (r:Int) (l:List Lot):∃d,F43_j1 f b c (lots,ds) r l=some (l,d)∧d.length≤24:=by
  unfold F43_j1
  have no:F43_j3 f b c (lots,ds) r l false=some (l,ds):=rfl
  cases hp:decide ((((lots,ds).2.length:Nat):Int) > 0) with
  | false=>exact ⟨ds,no,hd⟩
  | true =>
    rw [cond_true]
    cases decide (r≥3) with
    | false=>exact ⟨ds,no,hd⟩
    | true =>
      have hp':0<ds.length:=by have:=of_decide_eq_true hp; dsimp only at this; omega
      obtain ⟨k,hk,ek⟩:=mod_nat (b:=b) hp'
      unfold F43_j3
      dsimp only
      rw [cond_true,F35_eq f b (ds.length:Int) (by omega) (by omega),ek]
      simp only [Option.bind_some,getI_nat hk,set_nat hk]
      have hs:∀v:Deed,(ds.set k v).length≤24:=fun v=>by rw [List.length_set]; exact hd
      cases (r == 3) with
      | true=>exact ⟨_,rfl,hs _⟩
      | false =>
        cases (r == 4) with
        | true=>exact ⟨_,rfl,hs _⟩
        | false =>
          cases (r == 5) with
          | true=>exact ⟨_,rfl,hs _⟩
          | false =>
            cases (r == 6) with
            | true=>exact ⟨_,rfl,hs _⟩
            | false =>
              cases (r == 7) with
              | true=>exact ⟨_,rfl,hs _⟩
              | false =>
                cases (r == 8) with
                | false=>exact ⟨_,rfl,hd⟩
                | true =>
                  simp only [cond_false,cond_true]
                  rw [show subI ds 0 (k:Int)=some ((ds.take k).drop 0) from sub_nat (a:=0) (Nat.zero_le _) (by omega),succ_w (by omega),sub_nat (show k + 1≤ds.length by omega) (Nat.le_refl _)]
                  simp only [Option.bind_some]
                  rw [app_small (by simp) (by simp; omega)]
                  simp only [Option.bind_some]
                  rw [app_small (by simp; omega) (by simp; omega)]
                  exact ⟨_,rfl,by simp; omega⟩
theorem F43_len {f:Nat} (hf:200≤f) (x:List A4) (y:List A5) (a b c:Int):∃l d,F43 f x y a b c=some (l,d)∧l.length≤8∧d.length≤24:=by
  obtain ⟨lots,ds,e,k⟩:=F37_eq hf x y
  have h8:=k.h8
  have J:=fun l=>F43_deeds (f:=f) b c lots k.len (a % 12) l
  have out:∀l:List Lot,l.length≤8→∃l' d,F43_j1 f b c (lots,ds) (a % 12) l=some (l',d)∧l'.length≤8∧d.length≤24:=fun l hl=>by
    obtain ⟨d,h1,h2⟩:=J l
    exact ⟨l,d,h1,hl,h2⟩
  unfold F43
  rw [e]
  simp only [Option.bind_some]
  rw [F35_eq f a 12 (by omega) (by omega)]
  simp only [Option.bind_some]
  have no:F43_j2 f b c (lots,ds) (a % 12) false=F43_j1 f b c (lots,ds) (a % 12) lots:=rfl
  cases hp:decide ((lots.length:Int) > 0) with
  | false=>rw [cond_false,no]; exact out _ h8
  | true =>
    rw [cond_true]
    cases decide (a % 12<3) with
    | false=>rw [no]; exact out _ h8
    | true =>
      have hp':0<lots.length:=by have:=of_decide_eq_true hp; omega
      obtain ⟨q,hq,eq⟩:=mod_nat (b:=b) hp'
      unfold F43_j2
      dsimp only
      rw [cond_true,F35_eq f b (lots.length:Int) (by omega) (by omega),eq]
      simp only [Option.bind_some,getI_nat hq,set_nat hq]
      have hs:∀v:Lot,(lots.set q v).length≤8:=fun v=>by rw [List.length_set]; exact h8
      cases (a % 12 == 0) with
      | true=>exact out _ (hs _)
      | false =>
        cases (a % 12 == 1) with
        | true=>exact out _ (hs _)
        | false =>
          cases (a % 12 == 2) with
          | true=>exact out _ (hs _)
          | false=>exact out _ h8
theorem F45_chain {f:Nat} (hf:200≤f) {lots:List Lot} (hl:LotsOk lots) (h8:lots.length≤8) {ds:List Deed} (h24:ds.length≤24) (ch:Chain f lots nine ds):F45 f lots ds=some (lots.map (acctS ds),0):=by
  have b0:Bd [] (100000000 * ((0:Nat):Int)):=fun l=>by simp [lkK,getK]
  obtain ⟨a,b,c,y,e1,p,e2,h⟩:=F45_loop (ds:=ds) hf h8 (by omega) ds f 0 (plOf lots nine) [] [] [] (plOf_ok (nine_ok hl) rfl) ch (by simp) (by omega) (by omega) b0 b0 b0
  unfold F45
  rw [F110_ok hf hl (by omega)]
  simp only [Option.bind_some,bne_self_eq_false,cond_false]
  change (F81 f lots nine).bind _=_
  rw [F81_nine hf hl h8]
  refine Eq.trans (show _=F45_l1 f lots ds f (plOf lots nine) [] [] [] ((0:Nat):Int) from rfl) ?_
  rw [e1]
  simp only [F45_j1,bne_self_eq_false,cond_false,Option.bind_some]
  rw [F45_l6_eq hf h8 a b c p]
  have e2':y.holds=run nine ds:=e2
  rw [e2']
  have hA:=addA_lk (lots:=lots) h8 (h:=run nine ds) (y:=[]) (b:=0) (fun H hH=>by have:=p.sok.hok H; rw [e2'] at this; exact this hH) Bd.nil (by have:=p.h9; rw [e2'] at this; omega)
  congr 2
  refine List.map_congr_left fun x _=>?_
  have nil:∀l,lkK ([]:Tab) l 0=0:=fun l=>by simp [lkK,getK]
  unfold acctK acctS
  have h1:=h x.id
  rw [nil] at h1
  rw [h1.1,h1.2.1,h1.2.2,hA x.id,nil]
  simp only [Int.zero_add]
  rfl
end Go.Proofs.Ytlmgjjmighajdaa
set_option linter.unusedSimpArgs false
set_option linter.unusedVariables false
namespace Go.Proofs.Ytlmgjjmighajdaa
open Go.Sl Go.Sx
theorem part_beq' (p q:Part):((p.lot == q.lot) && ((p.mass == q.mass) && true))=decide (p=q):=by
  obtain ⟨a,b⟩:=p
  obtain ⟨c,d⟩:=q
  by_cases h1:a=c <;> by_cases h2:b=d <;> simp [h1,h2]
theorem lot_beq (p q:Lot):((p.id == q.id) && ((p.owner == q.owner) && ((p.grade == q.grade) && ((p.wet == q.wet) && true))))=decide (p=q):=by
  obtain ⟨a,b,c,d⟩:=p
  obtain ⟨a',b',c',d'⟩:=q
  by_cases h1:a=a' <;> by_cases h2:b=b' <;> by_cases h3:c=c' <;> by_cases h4:d=d' <;> simp [h1,h2,h3,h4]
theorem cmp_loop {α ρ:Type} [DecidableEq α] {L:Nat→Int→Option ρ} {a b:List α} {no yes:Option ρ} (hl:a.length=b.length)
    (h:∀n i (h1:i<a.length) (h2:i<b.length),L (n + 1) (i:Int)=if a[i]=b[i] then L n ((i + 1:Nat):Int) else no)
    (he:∀n,L (n + 1) (a.length:Int)=yes) {n:Nat} (hn:a.length<n):L n 0=if a=b then yes else no:=by
  have key:=loop_all0 (L:=L) (len:=a.length) (good:=fun j=>∀h:j<a.length,a[j]=b[j]'(by omega)) (no:=no) (yes:=yes) (fun n i hi=>by
    have hib:i<b.length:=by omega
    rw [h n i hi hib]
    by_cases hh:a[i]=b[i]
    · exact .inl ⟨fun _=>hh,if_pos hh⟩
    · exact .inr ⟨fun k=>hh (k hi),if_neg hh⟩) he hn
  rcases key with ⟨hg,e⟩ | ⟨hg,e⟩
  · have:a=b:=List.ext_getElem hl fun i h1 h2=>hg i h1 h1
    rw [e,if_pos this]
  · have:¬ a=b:=fun e=>hg fun j hj _=>by subst e; rfl
    rw [e,if_neg this]
theorem ne_len {α:Type} {a b:List α}:((a.length:Int) != (b.length:Int))= !decide (a.length=b.length):=by
  by_cases h:a.length=b.length
  · simp [h]
  · have:¬ (a.length:Int)=(b.length:Int):=by omega
    simp [h,this]
theorem F29_refl {f:Nat} (hf:200≤f) (lots:List Lot) (hl:lots.length≤100) {a:Holds} (ha:Small a):F29 f lots a lots a=some true:=by
  have a9:=ha.n9
  have h3:∀k i (h1:i<a.length),F29_l3 f k a a (i:Int) f 0=k ((i + 1:Nat):Int):=fun k i h1=>by
    have s1:=ha.len _ (List.getElem_mem h1)
    have key:=from_st (T:=fun n j=>F29_l3 f k a a (i:Int) n (j:Int)) (len:=a[i].length) (n:=f) (out:=k ((i + 1:Nat):Int)) (by omega)
      (fun n j hj=>by
        have s2:=ha.heaps _ (List.getElem_mem h1) _ (List.getElem_mem hj)
        simp only [F29_l3,getI_nat h1,Option.bind_some,lt_len,hj,decide_true,cond_true,getI_nat hj]
        have e:F26 f a[i][j] a[i][j]=some true:=by
          unfold F26
          rw [ne_len,decide_eq_true rfl,Bool.not_true,cond_false,cmp_loop (L:=F26_l1 a[i][j] a[i][j]) (a:=a[i][j]) (b:=a[i][j]) rfl (no:=some false) (yes:=some true) (fun n m h1 h2=>by
            simp only [F26_l1,lt_len,h1,decide_true,cond_true,getI_nat h1,Option.bind_some,part_beq',Bool.not_true,cond_false,if_true]
            rw [succ_w (by omega)]) (fun n=>by simp [F26_l1]) (by omega)]
          simp
        rw [e]
        simp only [Option.bind_some,Bool.not_true,cond_false]
        rw [succ_w (by omega)])
      (fun n=>by
        simp only [F29_l3,getI_nat h1,Option.bind_some,lt_len,Nat.lt_irrefl,decide_false,cond_false]
        rw [succ_w (by omega)])
    exact key
  have h2:F29_l2 f a a f 0=some true:=by
    have key:=from_st (T:=fun n j=>F29_l2 f a a n (j:Int)) (len:=9) (n:=f) (out:=some true) (by omega)
      (fun n i hi=>by
        have h1:i<a.length:=by omega
        have hd:decide ((i:Int)<9)=true:=decide_eq_true (by omega)
        simp only [F29_l2,hd,cond_true,getI_nat h1,Option.bind_some,bne_self_eq_false,cond_false]
        exact h3 _ i h1)
      (fun n=>by simp [F29_l2])
    exact key
  unfold F29
  rw [bne_self_eq_false,cond_false]
  have key:=from_st (T:=fun n j=>F29_l1 f lots a lots a n (j:Int)) (len:=lots.length) (n:=f) (out:=some true) (by omega)
    (fun n j hj=>by
      simp only [F29_l1,lt_len,hj,decide_true,cond_true,getI_nat hj,Option.bind_some,lot_beq,Bool.not_true,cond_false]
      rw [succ_w (by omega)])
    (fun n=>by simp only [F29_l1,lt_len,Nat.lt_irrefl,decide_false,cond_false]; exact h2)
  exact key
theorem nine_small:Small nine:=(nine_ok (lots:=[]) (by constructor <;> simp)).small rfl
theorem F10_gen {f:Nat} (hf:200≤f) (hs:F16 f=some true) (x:List A4) (y:List A5) (a b c:Int):F10 f x y a b c=some true:=by
  obtain ⟨lots,ds,e,h8,h24⟩:=F43_len hf x y a b c
  have fin:∀(L:List Lot) (H:Holds) (n e1:Int) (A:List Account) (e2:Int),F38 f lots ds=some (L,H,n,e1)→F44 f lots ds=some (L,H,n,e1)→F45 f lots ds=some (A,e2)→F46 f lots ds=some (A,e2)→L.length≤100→Small H→A.length≤100→F10 f x y a b c=some true:=by
    intro L H n e1 A e2 k1 k2 k3 k4 hL hH hA
    unfold F10
    rw [hs,e]
    simp only [Option.bind_some]
    rw [k1,k2,k3,k4]
    simp only [Option.bind_some]
    rw [F29_refl hf L hL hH,F47_refl hf hA]
    simp only [Option.bind_some,cond_true,beq_self_eq_true,F10_j1]
  by_cases hl:LotsOk lots
  · rcases play_split hf h8 ds nine 0 (nine_ok hl) rfl with ch | ⟨n,r,hr,hp⟩
    · have k:F45 f lots ds=some (lots.map (acctS ds),0):=F45_chain hf hl h8 h24 ch
      obtain ⟨g1,g2⟩:=run_good hf h8 (nine_ok hl) rfl ch
      have e1:=F38_eq hf hl h8 (ds:=ds) (by omega)
      have e2:=F44_full hf hl h8 (ds:=ds) (by omega)
      rw [play_chain 0 ch] at e1 e2
      exact fin _ _ _ _ _ _ e1 e2 k (F46_eq hf hl h8 (by omega) ch) (by omega) (g1.small g2) (by rw [List.length_map]; omega)
    · have e1:=F38_eq hf hl h8 (ds:=ds) (by omega)
      have e2:=F44_full hf hl h8 (ds:=ds) (by omega)
      rw [hp] at e1 e2
      exact fin _ _ _ _ _ _ e1 e2 (F45_no hf hl h8 (by omega) hr hp) (F46_no hf hl h8 (by omega) hr hp) (by simp) nine_small (by simp)
  · exact fin _ _ _ _ _ _ (F38_bad hf hl ds) (F44_bad hf hl ds) (F45_bad hf hl ds) (F46_err (by decide) (F44_bad hf hl ds)) (by simp) nine_small (by simp)
theorem F10_true' (x:List A4) (y:List A5) (a b c:Int):∃fuel,F10 fuel x y a b c=some true:=⟨200,F10_gen (by omega) sane_true x y a b c⟩
end Go.Proofs.Ytlmgjjmighajdaa
