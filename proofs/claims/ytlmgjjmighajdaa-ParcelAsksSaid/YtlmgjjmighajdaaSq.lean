/-
  Ranges over functions: the loop's record and the block of its deferred calls are atoms; a round is walked where yield is called. Program-independent. No condition.
-/
import Derived.Test.YtlmgjjmighajdaaSv
namespace Go.Sx
open Go.Sl
variable {P : Program} {a a' a1 : Act} {N N0 : Nat} {fl fl0 : FL} {ds : List Nat} {w : World} {R : Array Oper} {m : List Nat} {S : World → Prop} {K : Act → World → Prop} {pl : List (Nat × Bool)} {h : Zone} {L : List Atom}
variable {ro : Option Nat} {c : Code} {Q : Exit → Act → World → Prop}

/-- One block that is an object, in focus. -/
theorem _root_.Go.Sl.St.focus1 (s : St h L w) {i l : Nat} {A : Atom} (hi : L[i]? = some A) (hA : ∀ z, A.P h z → ∃ o, z = Hp.one l o) :
    ∃ o, A.P h (Hp.one l o) ∧ w.heap[l]? = some o ∧ ∀ (B : Atom) (o' : Obj), B.P h (Hp.one l o') → St h (L.set i B) (w.putObj l o') := by
  obtain ⟨x, hx, hxw, _, k⟩ := s.focus hi
  obtain ⟨o, rfl⟩ := hA x hx
  have hl : w.heap[l]? = some o := Hp.one_le.1 hxw
  have hlt : l < w.heap.size := (Array.getElem?_eq_some_iff.1 hl).1
  refine ⟨o, hx, hl, fun B o' hB => k _ B (Hp.one l o') hB (Hp.one_le.2 (World.putObj_heap_same hlt)) (fun b hb hn => World.putObj_heap_other ?_) (fun b u e => ?_) rfl rfl rfl⟩
  · intro e; subst e; simp [Hp.one] at hn
  · right
    unfold Hp.one at e ⊢
    split at e
    · rename_i hb; simp [hb]
    · cases e

/-- The record of a loop over a function. -/
def loopA (l N : Nat) (fl : FL) (ps : Array Tmp) (assign body : Code) (D : Nat) (st : LoopState) (pe : Option Code) : Atom :=
  ⟨fun _ z => ∃ (fn : FuncId) (tmps : Array Value), Fr { tmps := tmps, defers := [] } N fl ∧ z = Hp.one l (.loop { state := st, pending := pe, fn := fn, tmps := tmps, params := ps, assign := assign, body := body, defers := D }), fun _ _ _ _ h => h⟩
/-- The block of its rounds' deferred calls. -/
def defA (D : Nat) : Atom := ⟨fun _ z => z = Hp.one D (.deferred (some [])), fun _ _ _ _ h => h⟩

def rg : Code → Option Nat | .rangeFunc (.tmp g) _ _ _ => some g | _ => none
def rgP : Code → Array Tmp | .rangeFunc _ ps _ _ => ps | _ => #[]
def rgA : Code → Code | .rangeFunc _ _ x _ => x | _ => .skip
def rgB : Code → Code | .rangeFunc _ _ _ y => y | _ => .skip

/-- Behind the function that was ranged over. -/
def endR (P : Program) (l : Nat) (Q : Exit → Act → World → Prop) (a' : Act) (w : World) : Prop :=
  ∃ jump w4, (Instr.endLoop l).run P w = .ok jump w4 ∧ (match jump with | none => Q .normal a' w4 | some c => c.cw none P Q a' w4)

theorem w_range {g gf : Nat} {lb : Array Value} (hc : rg c = some g) (hf : Fr a N fl ds) (hS : St h L w) (hg : look fl g = some (.func (.func gf) #[] lb))
    (hcall : ∀ l, runO P (invoke (.fn (.func gf) lb) #[.func (.yield l) #[] #[]]) [] = some (.enter gf (#[.func (.yield l) #[] #[]] ++ lb), [], []))
    (k : ∀ ps A B, ps = rgP c → A = rgA c → B = rgB c → ∀ l D w', St h (loopA l N fl ps A B D .ready none :: defA D :: L) w' →
      Calls P gf (#[.func (.yield l) #[] #[]] ++ lb) w' fun e w'' => ∃ v, e = .returned v ∧ ∀ a', Fr a' N fl (D :: ds) → endR P l Q a' w'') : c.cw none P Q a w := by
  cases c with
  | rangeFunc x ps assign body =>
    cases x with
    | tmp t =>
      simp only [rg, Option.some.injEq] at hc
      subst hc
      have hS1 := hS.new (defA w.heap.size) (.deferred (some [])) rfl
      refine wpIn_rangeFunc fun fn _ => ?_
      have hS2 := hS1.new (loopA (w.heap.size + 1) N fl ps assign body w.heap.size .ready none)
        (.loop { state := .ready, pending := none, fn := fn, tmps := a.tmps, params := ps, assign := assign, body := body, defers := w.heap.size })
        ⟨fn, a.tmps, ⟨hf.size, rfl, hf.look⟩, by rw [World.size_alloc]⟩
      have hev : a.eval (.tmp t) = .func (.func gf) #[] lb := hf.getD hg
      have hent := run_enterLoop_outer (P := P) (w := w) fn a.tmps ps assign body
      generalize ((w.alloc (.deferred (some []))).alloc (.loop { state := .ready, pending := none, fn := fn, tmps := a.tmps, params := ps, assign := assign, body := body, defers := w.heap.size })) = W2 at hS2 hent
      refine ⟨w.heap.size + 1, marks [w.heap.size], W2, { target := .fn (.func gf) lb, args := #[.func (.yield (w.heap.size + 1)) #[] #[]] }, W2, gf,
        #[.func (.yield (w.heap.size + 1)) #[] #[]] ++ lb, W2, hent, ?_, fun _ _ => trivial, runO_sound _ (hcall _) (by simp), WF_depth, ?_⟩
      · simp only [resolve, hev]
        simp [go_sem]
      · refine callsIn_WF.2 (Calls.mono (k _ _ _ rfl rfl rfl _ _ _ hS2) ?_)
        rintro e w3 ⟨v, rfl, hk⟩
        exact hk _ ⟨hf.size, by rw [hf.defers]; rfl, hf.look⟩
    | _ => simp [rg] at hc
  | _ => simp [rg] at hc

theorem cw_eq {c' : Code} (e : c = c') (k : c'.cw ro P Q a w) : c.cw ro P Q a w := e ▸ k

theorem loopA_one {l : Nat} {ps : Array Tmp} {A B : Code} {D : Nat} {st : LoopState} {pe : Option Code} : ∀ z, (loopA l N fl ps A B D st pe).P h z → ∃ o, z = Hp.one l o := fun _ ⟨_, _, _, e⟩ => ⟨_, e⟩

theorem Hp.one_inj {l : Nat} {o o' : Obj} (e : Hp.one l o = Hp.one l o') : o = o' := by
  have := congrFun e l
  simpa [Hp.one] using this

theorem p_endLoop {j l : Nat} {ps : Array Tmp} {A B : Code} {D : Nat} {st : LoopState} {pe : Option Code} (hS : St h L w) (hj : L[j]? = some (loopA l N0 fl0 ps A B D st pe)) (hst : st ≠ .busy) :
    ∃ w4, (Instr.endLoop l).run P w = .ok pe w4 ∧ St h (L.set j emp) w4 := by
  obtain ⟨o, ⟨fn, tmps, hfr, he⟩, hl, hput⟩ := hS.focus1 hj loopA_one
  have := Hp.one_inj he
  subst this
  refine ⟨_, run_endLoop hl hst, ?_⟩
  have h1 := hput (loopA l N0 fl0 ps A B D .exhausted pe) _ ⟨fn, tmps, hfr, rfl⟩
  have h2 := h1.dropAt (i := j) (A := loopA l N0 fl0 ps A B D .exhausted pe) (by
    have hlt := (List.getElem?_eq_some_iff.1 hj).1
    simp [hlt])
  simpa using h2

theorem p_jump0 {j l : Nat} {ps : Array Tmp} {A B : Code} {D : Nat} {st : LoopState} (hS : St h L w) (hj : L[j]? = some (loopA l N0 fl0 ps A B D st none)) (hst : st ≠ .busy)
    (k : ∀ w', St h (L.set j emp) w' → Q .normal a' w') : endR P l Q a' w :=
  let ⟨w4, h1, h2⟩ := p_endLoop (P := P) hS hj hst; ⟨none, w4, h1, k w4 h2⟩
theorem p_jumpR {j l : Nat} {ps : Array Tmp} {A B : Code} {D : Nat} {st : LoopState} (hS : St h L w) (hj : L[j]? = some (loopA l N0 fl0 ps A B D st (some .ret))) (hst : st ≠ .busy)
    (k : ∀ w', St h (L.set j emp) w' → Q .ret a' w') : endR P l Q a' w :=
  let ⟨w4, h1, h2⟩ := p_endLoop (P := P) hS hj hst; ⟨some .ret, w4, h1, wpIn_ret (k w4 h2)⟩
theorem p_jumpX {j l id : Nat} {ps : Array Tmp} {A B : Code} {D : Nat} {st : LoopState} (hS : St h L w) (hj : L[j]? = some (loopA l N0 fl0 ps A B D st (some (.exit id)))) (hst : st ≠ .busy)
    (k : ∀ w', St h (L.set j emp) w' → Q (.exit id) a' w') : endR P l Q a' w :=
  let ⟨w4, h1, h2⟩ := p_endLoop (P := P) hS hj hst; ⟨some (.exit id), w4, h1, wpIn_exit (k w4 h2)⟩

/-! ### Leaving a function over a mark -/
theorem p_mark {fn : Func} {R' : Ending → World → Prop} {tmps : Array Value} {j D : Nat} (hS : St h L w) (hj : L[j]? = some (defA D)) (k : ∀ w', St h (L.set j emp) w' → outM P fn R' tmps ds w') : outM P fn R' tmps (D :: ds) w := by
  obtain ⟨o, ho, hl, hput⟩ := hS.focus1 hj (l := D) (fun z hz => ⟨_, hz⟩)
  have he : o = .deferred (some []) := Hp.one_inj ho
  subst he
  refine ⟨by simp, .inl ⟨D, _, rfl, run_takeDeferred hl, k _ ?_⟩⟩
  have h1 := hput ⟨fun _ z => z = Hp.one D (.deferred none), fun _ _ _ _ h => h⟩ (.deferred none) rfl
  have h2 := h1.dropAt (i := j) (A := ⟨fun _ z => z = Hp.one D (.deferred none), fun _ _ _ _ h => h⟩) (by
    have hlt := (List.getElem?_eq_some_iff.1 hj).1
    simp [hlt])
  simpa using h2

/-! ### A call of yield -/
theorem wpOpsIn_app {Q : Exit → Act → World → Prop} (hd : noDefer R = true) (rest : List Nat) : ∀ (l : List Nat) (a : Act) (w : World), wpPlan P R m S K (l.map fun i => (i, false)) a w → (∀ a w, K a w → wpOpsIn (WF ro) 0 P R Q rest a w) → wpOpsIn (WF ro) 0 P R Q (l ++ rest) a w
  | [], a, w, k, hQ => hQ a w k
  | i :: l, a, w, k, hQ => by
    rw [List.cons_append, wpOpsIn_cons]
    have k' : wpOp P R (fun _ _ _ => False) i (fun a' w' => (m.contains i = false → S w') ∧ wpPlan P R m S K (l.map fun i => (i, false)) a' w') a w := k
    exact wpOpIn_mono (fun a' w' h3 => wpOpsIn_app hd rest l a' w' h3.2 hQ) (wpOpIn_of hd (fun _ _ _ q => q) (fun _ _ q => q) k')

def planTo (i : Nat) : List (Nat × Bool) := (List.range i).map fun i => (i, false)
def planFrom (c : Code) (i : Nat) : List (Nat × Bool) := (List.range' (i + 1) ((cops c).size - (i + 1))).map fun i => (i, false)

/-- A region whose operation i is a call of yield. -/
theorem w_regY (i : Nat) (hc : (isReg false c && (noDefer (cops c) && Nat.blt i (cops c).size)) = true)
    (k : wpPlan P (cops c) [] (fun _ => True) (fun a w => wpOpIn (WF ro) 0 P (cops c) Q i (fun a w => wpPlan P (cops c) [] (fun _ => True) (fun a w => Q .normal a w) (planFrom c i) a w) a w) (planTo i) a w) : c.cw ro P Q a w := by
  simp only [Bool.and_eq_true] at hc
  obtain ⟨hc, hd, hi⟩ := hc
  cases c <;> simp [isReg] at hc
  rename_i id ops b
  subst hc
  have hlt : i < ops.size := by simpa [cops] using hi
  refine wpIn_region ?_
  have hr : List.range ops.size = List.range i ++ (i :: List.range' (i + 1) (ops.size - (i + 1))) := by
    have h1 : i :: List.range' (i + 1) (ops.size - (i + 1)) = List.range' i (ops.size - i) := by
      rw [show ops.size - i = (ops.size - (i + 1)) + 1 by omega, List.range'_succ]
    have h2 := List.range'_append_1 (s := 0) (m := i) (n := ops.size - i)
    rw [h1, List.range_eq_range', List.range_eq_range']
    rw [Nat.zero_add] at h2
    rw [h2]
    congr 1
    omega
  rw [hr]
  refine wpOpsIn_app hd _ _ _ _ k fun a w h1 => ?_
  rw [wpOpsIn_cons]
  exact wpOpIn_mono (fun a' w' h3 => wpOpsIn_of_plan hd _ _ _ h3 fun _ _ h => h) h1

/-- Yield's parameters set. -/
def yFL (ps : Array Tmp) (args : Array Value) (fl : FL) : FL := (ps.zip args).foldl (fun t p => (p.1, p.2) :: t) fl

theorem yFL_fr {l : List (Nat × Value)} : ∀ {tmps : Array Value} {fl : FL}, Fr { tmps := tmps, defers := [] } N fl → (l.all fun p => Nat.blt p.1 N) = true →
    Fr { tmps := l.foldl (fun t (p : Nat × Value) => t.setIfInBounds p.1 p.2) tmps, defers := [] } N (l.foldl (fun t p => (p.1, p.2) :: t) fl) := by
  induction l with
  | nil => exact fun h _ => h
  | cons p l ih =>
    intro tmps fl hf hb
    simp only [List.all_cons, Bool.and_eq_true] at hb
    have h1 := hf.put (d := some p.1) hb.1 p.2
    exact ih (tmps := tmps.setIfInBounds p.1 p.2) (fl := (p.1, p.2) :: fl) ⟨h1.size, rfl, h1.look⟩ hb.2

def yieldAt (R : Array Oper) (N i : Nat) (fl : FL) : Option (Option Nat × Nat × Array Value) :=
  match R[i]? with
  | some o => match wantedF R fl o with
    | some true => bif (known fl o && (match o.dst with | some d => Nat.blt d N | none => true)) then
        match o.op with
        | .call c => match c.callee with
          | .value f => match ev fl f with
            | .func (.yield l) ⟨[]⟩ _ => some (o.dst, l, c.args.map (ev fl))
            | _ => none
          | _ => none
        | _ => none
      else none
    | _ => none
  | none => none
/-- Beginning a round, then its body. -/
def beginG (P : Program) (l : Nat) (B : Code) (Qr : Exit → Act → World → Prop) (a1 : Act) (w1 : World) : Prop := ∃ w2, (Instr.beginRound l).run P w1 = .ok () w2 ∧ B.cw (some l) P Qr a1 w2
/-- What a round's end comes to. -/
def yR (K : Act → World → Prop) (N : Nat) (fl : FL) (ds : List Nat) (d : Option Nat) (e : Ending) (w : World) : Prop := ∃ b, e = .returned (.bool b) ∧ ∀ a', Fr a' N (putF fl d (.bool b)) ds → K a' w

theorem p_yield {i j l D : Nat} {d : Option Nat} {args : Array Value} {ps : Array Tmp} {A B : Code} (hf : Fr a N fl ds) (ho : yieldAt R N i fl = some (d, l, args)) (hS : St h L w) (hj : L[j]? = some (loopA l N0 fl0 ps A B D .ready none))
    (hps : (Nat.beq args.size ps.size && (ps.zip args).toList.all fun p => Nat.blt p.1 N0) = true)
    (k : ∀ a1, Fr a1 N0 (yFL ps args fl0) → A.cw (some l) P (Exit.then (beginG P l B (roundPost P l (yR K N fl ds d))) (fun _ _ _ => False)) a1 w) : wpOpIn (WF ro) 0 P R Q i K a w := by
  simp only [Bool.and_eq_true] at hps
  obtain ⟨hsz, hlt⟩ := hps
  have hsz := Nat.eq_of_beq_eq_true hsz
  obtain ⟨o, ⟨fn, tmps, hfr, he⟩, hl, hput⟩ := hS.focus1 hj loopA_one
  have := Hp.one_inj he
  subst this
  unfold yieldAt at ho
  unfold wpOpIn
  cases hR : R[i]? with
  | none => rw [hR] at ho; simp at ho
  | some op =>
    rw [hR] at ho
    simp only at ho ⊢
    split at ho
    · rename_i hw
      rw [wantedF_sound hf hw]
      cases hk : (known fl op && (match op.dst with | some d => Nat.blt d N | none => true)) with
      | false => rw [hk] at ho; simp at ho
      | true =>
        rw [hk] at ho
        simp only [cond_true] at ho
        simp only [Bool.and_eq_true] at hk
        split at ho
        · rename_i c hop
          split at ho
          · rename_i f hcal
            split at ho
            · rename_i l' cap hev
              simp only [Option.some.injEq, Prod.mk.injEq] at ho
              obtain ⟨rfl, rfl, rfl⟩ := ho
              have hrun : (execOp a.eval op).run P w = .ok (.round l' fn ((ps.zip (c.args.map (ev fl))).foldl (fun tmps (t, a) => tmps.setIfInBounds t a) tmps) A B) w := by
                rw [hf.exec hk.1]
                simp only [execOp, hop, resolve, hcal, hev, Deferred.ofValue, Sem.run_bind, Sem.run_pure, Result.andThen_ok, invoke]
                have e0 : (⟨[]⟩ : Array Value) ++ c.args.map (ev fl) = c.args.map (ev fl) := by simp
                rw [e0]
                exact run_yield hl hsz
              refine ⟨fun _ _ => trivial, ?_⟩
              rw [Oper.semAt_eq _ _ _ (by rw [hop]; simp), hrun]
              refine ⟨WF_depth, roundIn_of_wpIn trivial ?_⟩
              have hfr2 := yFL_fr (l := (ps.zip (c.args.map (ev fl))).toList) hfr hlt
              have hfr3 : Fr { tmps := (ps.zip (c.args.map (ev fl))).foldl (fun t (p : Nat × Value) => t.setIfInBounds p.1 p.2) tmps, defers := [] } N0 (yFL ps (c.args.map (ev fl)) fl0) := by
                unfold yFL
                rw [← Array.foldl_toList, ← Array.foldl_toList]
                exact hfr2
              refine wpIn_mono (k _ hfr3) ?_
              intro e a2 w2 q
              cases e <;> first | exact q.elim | skip
              obtain ⟨w3, hb, hbody⟩ := q
              refine ⟨w3, hb, wpIn_mono hbody ?_⟩
              intro e a3 w4 q
              cases e <;> first
                | exact q.elim
                | (obtain ⟨v, w5, hend, b, hv, hk2⟩ := q
                   cases hv
                   exact ⟨_, w5, hend, hk2 _ (hf.put hk.2 _)⟩)
            · cases ho
          · cases ho
        · cases ho
    · cases ho
theorem p_begin {j l D : Nat} {ps : Array Tmp} {A B : Code} {Qr : Exit → Act → World → Prop} (hS : St h L w) (hj : L[j]? = some (loopA l N0 fl0 ps A B D .ready none))
    (k : ∀ w2, St h (L.set j (loopA l N0 fl0 ps A B D .busy none)) w2 → B.cw (some l) P Qr a1 w2) : beginG P l B Qr a1 w := by
  obtain ⟨o, ⟨fn, tmps, hfr, he⟩, hl, hput⟩ := hS.focus1 hj loopA_one
  have := Hp.one_inj he
  subst this
  exact ⟨_, run_beginRound hl rfl, k _ (hput _ _ ⟨fn, tmps, hfr, rfl⟩)⟩

theorem p_endRound {j l D : Nat} {ps : Array Tmp} {A B : Code} {R' : Ending → World → Prop} (hS : St h L w) (hj : L[j]? = some (loopA l N0 fl0 ps A B D .busy none)) (jump : Option Code)
    (k : ∀ w', St h (L.set j (loopA l N0 fl0 ps A B D (if jump.isNone then .ready else .done) jump)) w' → R' (.returned (.bool jump.isNone)) w') :
    ∃ v w', (Instr.endRound l jump).run P w = .ok v w' ∧ R' (.returned v) w' := by
  obtain ⟨o, ⟨fn, tmps, hfr, he⟩, hl, hput⟩ := hS.focus1 hj loopA_one
  have := Hp.one_inj he
  subst this
  exact ⟨_, _, run_endRound jump hl, k _ (hput _ _ ⟨fn, tmps, hfr, rfl⟩)⟩

theorem p_roundN {j l D : Nat} {ps : Array Tmp} {A B : Code} {d : Option Nat} (hS : St h L w) (hj : L[j]? = some (loopA l N0 fl0 ps A B D .busy none))
    (k : ∀ w' a', St h (L.set j (loopA l N0 fl0 ps A B D .ready none)) w' → Fr a' N (putF fl d (.bool true)) ds → K a' w') : roundPost P l (yR K N fl ds d) .normal a1 w :=
  p_endRound hS hj none fun w' hS' => ⟨true, rfl, fun a' hf => k w' a' hS' hf⟩
theorem p_roundR {j l D : Nat} {ps : Array Tmp} {A B : Code} {d : Option Nat} (hS : St h L w) (hj : L[j]? = some (loopA l N0 fl0 ps A B D .busy none))
    (k : ∀ w' a', St h (L.set j (loopA l N0 fl0 ps A B D .done (some .ret))) w' → Fr a' N (putF fl d (.bool false)) ds → K a' w') : roundPost P l (yR K N fl ds d) .ret a1 w :=
  p_endRound hS hj (some .ret) fun w' hS' => ⟨false, rfl, fun a' hf => k w' a' hS' hf⟩
theorem p_roundX {j l D id : Nat} {ps : Array Tmp} {A B : Code} {d : Option Nat} (hS : St h L w) (hj : L[j]? = some (loopA l N0 fl0 ps A B D .busy none))
    (k : ∀ w' a', St h (L.set j (loopA l N0 fl0 ps A B D .done (some (.exit id)))) w' → Fr a' N (putF fl d (.bool false)) ds → K a' w') : roundPost P l (yR K N fl ds d) (.exit id) a1 w :=
  p_endRound hS hj (some (.exit id)) fun w' hS' => ⟨false, rfl, fun a' hf => k w' a' hS' hf⟩

/-! ### A region that draws its order, with a call of yield that waits for all that stands ahead of it -/
section drawY
variable {md : Region.Mode} {y : Nat}

def wpAnyS (P : Program) (md : Region.Mode) (ops : Array Oper) (Q : Exit → Act → World → Prop) (y : Nat) (S : World → Prop) : Nat → Array Bool → Act → World → Prop
  | 0, listed, a, w => Region.ready md ops listed = [] ∧ Q .normal a w
  | fuel + 1, listed, a, w =>
    (Region.ready md ops listed = [] → Q .normal a w) ∧
    ∀ i ∈ Region.ready md ops listed, (i = y → wpOpIn (WF ro) 0 P ops Q i (wpAnyIn (WF ro) 0 P md ops Q fuel (listed.setIfInBounds i true)) a w) ∧
      (i ≠ y → wpOp P ops (fun _ _ _ => False) i (fun a' w' => S w' ∧ wpAnyS P md ops Q y S fuel (listed.setIfInBounds i true) a' w') a w)

theorem wpAnyIn_of_S (hd : noDefer R = true) : ∀ (fuel : Nat) (listed : Array Bool) (a : Act) (w : World), wpAnyS (ro := ro) P md R Q y S fuel listed a w → wpAnyIn (WF ro) 0 P md R Q fuel listed a w
  | 0, _, _, _, h => h
  | fuel + 1, _, _, _, h => ⟨h.1, fun i hi => by
      by_cases he : i = y
      · exact (h.2 i hi).1 he
      · exact wpOpIn_of hd (fun _ _ _ q => q) (fun _ _ q => q) (wpOp_mono (fun a' w' h' => wpAnyIn_of_S hd fuel _ a' w' h'.2) ((h.2 i hi).2 he))⟩

theorem wpAnyS_first {i : Nat} {oi : Oper} {v : Value} (hi : R[i]? = some oi) (hsel : ∀ (j : Nat) (o : Oper) cs b, R[j]? = some o → o.op ≠ .select cs b) (hreach : (aheadL md R y).contains i = true) (hiy : i ≠ y) :
    ∀ (fuel : Nat) (listed : Array Bool) (a : Act) (w : World), Closed md R listed →
      (∀ j oj, R[j]? = some oj → j ≠ i → listed.getD j true = false → (∀ e ∈ oj.after, Region.binds md e = true → e.on ≠ i) → oi.apart R oj = true) →
      i ∈ Region.ready md R listed → YieldsIf P R S oi v a → S w →
      wpAnyS (ro := ro) P md R Q y S fuel (listed.setIfInBounds i true) (a.put oi.dst v) w → wpAnyS (ro := ro) P md R Q y S (fuel + 1) listed a w := by
  intro fuel
  induction fuel with
  | zero =>
    intro listed a w _ _ hr hy hS H
    refine ⟨fun h => (by rw [h] at hr; cases hr), fun j hj => ?_⟩
    by_cases hji : j = i
    · subst hji; exact ⟨fun e => absurd e hiy, fun _ => hy.wpOp hi hS ⟨hS, H⟩⟩
    · have := ready_mono hj hji
      rw [H.1] at this
      cases this
  | succ fuel ih =>
    intro listed a w hcl hfree hr hy hS H
    refine ⟨fun h => (by rw [h] at hr; cases hr), fun j hj => ?_⟩
    by_cases hji : j = i
    · subst hji; exact ⟨fun e => absurd e hiy, fun _ => hy.wpOp hi hS ⟨hS, H⟩⟩
    · obtain ⟨hjun, oj, hoj, hall⟩ := mem_ready.1 hj
      have hiun := (mem_ready.1 hr).1
      have hfalse : listed.getD i false = true → False := fun h1 => by
        rcases Nat.lt_or_ge i listed.size with h' | h'
        · simp [h'] at hiun h1; rw [hiun] at h1; cases h1
        · simp [Array.getElem?_eq_none h'] at h1
      refine ⟨fun e => ?_, fun hjy => ?_⟩
      · subst e
        exact (hfalse (reach_listed hcl hoj hall hreach)).elim
      · have h1 := (H.2 j (ready_mono hj hji)).2 hjy
        have hnot : ∀ e ∈ oj.after, Region.binds md e = true → e.on ≠ i := fun e he hb heq => by
          have h1 := hall e he hb
          rw [heq] at h1
          exact hfalse h1
        have h2 := wpOp_putIf hoj (hfree j oj hoj hji hjun hnot) (fun cs b => hsel i oi cs b hi) (fun cs b => hsel j oj cs b hoj) (fun _ _ _ q => q) hy h1
        have hfree' : ∀ k ok, R[k]? = some ok → k ≠ i → (listed.setIfInBounds j true).getD k true = false →
            (∀ e ∈ ok.after, Region.binds md e = true → e.on ≠ i) → oi.apart R ok = true := fun k ok hk hki hun hno => by
          refine hfree k ok hk hki ?_ hno
          by_cases hjk : j = k
          · subst hjk; exact hjun
          · rw [getD_set_ne true hjk] at hun; exact hun
        refine wpOp_mono (fun a' w' h3 => ?_) h2
        have hS' : S w' := h3.2.1
        refine ⟨hS', ih (listed.setIfInBounds j true) a' w' (hcl.set hj) hfree' (ready_mono hr (Ne.symm hji)) h3.1 hS' ?_⟩
        rw [Array.setIfInBounds_comm _ _ hji]
        exact h3.2.2

def normY (md : Region.Mode) (ops : Array Oper) (y : Nat) (pl2 : List (Nat × Bool)) : List (Nat × Bool) → Array Bool → Bool
  | [], listed => (match Region.ready md ops listed with | [j] => Nat.beq y j | _ => false) && normB md ops [] pl2 (listed.setIfInBounds y true)
  | (i, true) :: rest, listed => (Region.ready md ops listed).contains i && Region.free md ops listed i && (aheadL md ops y).contains i && !Nat.beq i y && normY md ops y pl2 rest (listed.setIfInBounds i true)
  | (_, false) :: _, _ => false

theorem wpAnyS_plan {pl2 : List (Nat × Bool)} (hs : Region.noSelect R = true) (hd : noDefer R = true) :
    ∀ (pl : List (Nat × Bool)) (listed : Array Bool) (a : Act) (w : World), Closed .any R listed → listed.size = R.size → S w → normY .any R y pl2 pl listed = true →
      wpPlan P R [] S (fun a w => wpOpIn (WF ro) 0 P R Q y (fun a w => wpPlan P R [] (fun _ => True) (fun a w => Q .normal a w) pl2 a w) a w) pl a w →
      wpAnyS (ro := ro) P .any R Q y S (pl.length + 1 + pl2.length) listed a w
  | [], listed, a, w, hcl, hsz, hSw, hB, h => by
    simp only [normY, Bool.and_eq_true] at hB
    obtain ⟨hr, hB'⟩ := hB
    have hready : Region.ready .any R listed = [y] := by
      split at hr
      · rename_i j hj; have := Nat.eq_of_beq_eq_true hr; subst this; exact hj
      · cases hr
    have e0 : ([] : List (Nat × Bool)).length + 1 + pl2.length = pl2.length + 1 := by simp [Nat.add_comm]
    rw [e0]
    refine ⟨fun h0 => (by rw [hready] at h0; cases h0), fun j hj => ?_⟩
    have hj0 := hj
    rw [hready] at hj
    simp only [List.mem_singleton] at hj
    subst hj
    refine ⟨fun _ => ?_, fun e => absurd rfl e⟩
    have h' : wpOpIn (WF ro) 0 P R Q j (fun a w => wpPlan P R [] (fun _ => True) (fun a w => Q .normal a w) pl2 a w) a w := h
    exact wpOpIn_mono (fun a' w' h3 => wpAnyIn_of_K hd (fun _ _ q => q) _ _ _ _ (wpAnyK_plan (S := fun _ => True) hs pl2 _ a' w' (hcl.set hj0) (by simp [hsz]) (fun _ => trivial) hB' h3)) h'
  | (i, true) :: rest, listed, a, w, hcl, hsz, hSw, hB, h => by
    simp only [normY, Bool.and_eq_true] at hB
    obtain ⟨⟨⟨⟨hr, hf⟩, hre⟩, hne⟩, hB'⟩ := hB
    obtain ⟨o, v, hi, hy, hrest⟩ := h
    have hy' : YieldsIf P R S o v a := by
      rcases hy with ⟨hy, _⟩ | hy
      · exact hy
      · exact hy.imp (fun ⟨h1, h2⟩ => ⟨h1, fun w _ => h2 w trivial⟩) id
    have hr' : i ∈ Region.ready .any R listed := by simpa using hr
    have hiy : i ≠ y := fun e => by subst e; simp [Nat.beq_refl] at hne
    have e0 : ((i, true) :: rest).length + 1 + pl2.length = (rest.length + 1 + pl2.length) + 1 := by simp only [List.length_cons]; omega
    rw [e0]
    exact wpAnyS_first hi (Region.noSelect_spec hs) hre hiy _ listed a w hcl (Region.free_spec hi hf) hr' hy' hSw (wpAnyS_plan hs hd rest _ _ _ (hcl.set hr') (by simp [hsz]) hSw hB' hrest)
  | (_, false) :: _, listed, a, w, hcl, hsz, hSw, hB, h => by simp [normY] at hB

def drawY (c : Code) (y : Nat) (pl pl2 : List (Nat × Bool)) : Bool :=
  (isReg true c && noDefer (cops c)) && (Region.noSelect (cops c) && (Nat.beq (pl.length + 1 + pl2.length) (cops c).size && normY .any (cops c) y pl2 pl (Array.replicate (cops c).size false)))

theorem w_regDY (hm : P.follows .mixedOrders = true) (y : Nat) (pl pl2 : List (Nat × Bool)) (hB : drawY c y pl pl2 = true)
    (k : wpPlan P (cops c) [] (fun x => x = w.drew) (fun a w => wpOpIn (WF ro) 0 P (cops c) Q y (fun a w => wpPlan P (cops c) [] (fun _ => True) (fun a w => Q .normal a w) pl2 a w) a w) pl a w.drew) : c.cw ro P Q a w := by
  simp only [drawY, Bool.and_eq_true] at hB
  obtain ⟨⟨hc, hd⟩, hs, hl, hn⟩ := hB
  cases c <;> simp [isReg] at hc
  rename_i id ops b
  subst hc
  have hl' : pl.length + 1 + pl2.length = ops.size := Nat.eq_of_beq_eq_true hl
  have k1 := wpAnyS_plan (ro := ro) (Q := Q) (S := fun x => x = w.drew) hs hd pl (Array.replicate ops.size false) a w.drew (Closed.none _) (by simp [cops]) rfl hn k
  have k2 := wpAnyIn_of_S (ro := ro) (Q := Q) hd _ _ _ _ k1
  rw [hl'] at k2
  exact wpIn_region_any hm k2
end drawY
end Go.Sx
