/-
  Code by its parts; operations that make or write memory; boxes. Program-independent. No condition.
-/
import Derived.Test.YtlmgjjmighajdaaSx
import Derived.OrdersIn
import Derived.RangeFuncLeaves
import Derived.RangeFuncRecord
namespace Go.Sx
open Go.Sl
variable {P : Program} {a : Act} {N : Nat} {fl : FL} {ds : List Nat} {w : World} {R : Array Oper} {m : List Nat} {S : World → Prop} {K : Act → World → Prop} {pl : List (Nat × Bool)} {h : Zone} {L : List Atom}

/-! ### Fences: wide, in a round or not -/
abbrev WF (ro : Option Nat) : Fence := { Fence.wide with round := ro }
theorem WF_depth {ro : Option Nat} {n : Nat} : (WF ro).depth.isSome = true → 1 ≤ n := fun e => absurd (show false = true from e) (by decide)
theorem stepsIn_WF {ro : Option Nat} {m m' : Machine} : StepsIn (Machine.fenced P (WF ro)) P m m' ↔ Steps P m m' := stepsIn_wide (P := P)
theorem callsIn_WF {ro : Option Nat} {n : Nat} {f : FuncId} {args : Array Value} {w : World} {R : Ending → World → Prop} : CallsIn (WF ro) n P f args w R ↔ Calls P f args w R :=
  callsIn_wide (n := n)
theorem rowsIn_WF {ro : Option Nat} {n : Nat} {row : String} {args : Array Value} {w : World} {R : Value → World → Prop} (h : Rows P row args w R) : RowsIn (WF ro) n P row args w R :=
  fun c cs _ => let ⟨v, w', r, s⟩ := h c cs; ⟨v, w', r, stepsIn_WF.2 s⟩

/-- The code's law, in a round (ro) or not. -/
def _root_.Go.Code.cw (ro : Option Nat) (P : Program) (c : Code) (Q : Exit → Act → World → Prop) (a : Act) (w : World) : Prop := c.wpIn (WF ro) 0 P Q a w

def noDefer (ops : Array Oper) : Bool := ops.all fun o => match o.op with | .defer _ => false | _ => true
theorem noDefer_spec {ops : Array Oper} (h : noDefer ops = true) {i : Nat} {o : Oper} (hi : ops[i]? = some o) : ∀ c, o.op ≠ .defer c := by
  intro c e
  have hlt := (Array.getElem?_eq_some_iff.1 hi).1
  have := Array.all_eq_true.1 h i hlt
  rw [(Array.getElem?_eq_some_iff.1 hi).2, e] at this
  cases this

theorem wpOpIn_of {ro : Option Nat} {ops : Array Oper} {i : Nat} {K : Act → World → Prop} {a : Act} {w : World} {Q : Exit → Act → World → Prop} (hd : noDefer ops = true) {Q0 : Exit → Act → World → Prop} (hp : ∀ c a w, ¬ Q0 (.panic c) a w) (hg : ∀ a w, ¬ Q0 .outgrown a w)
    (h : wpOp P ops Q0 i K a w) : wpOpIn (WF ro) 0 P ops Q i K a w := by
  unfold wpOp at h
  unfold wpOpIn
  cases ho : ops[i]? with
  | none => rw [ho] at h; exact h
  | some o =>
    rw [ho] at h
    simp only at h ⊢
    cases hw : Region.wanted o (yielded ops a.tmps) with
    | false => rw [hw] at h; simp only [Bool.false_eq_true, if_false] at h ⊢; exact ⟨fun _ _ => trivial, h⟩
    | true =>
      rw [hw] at h
      simp only [if_true] at h ⊢
      have h1 : o.wp P a w K Q0 := h.resolve_right (fun ⟨_, _, _, hF⟩ => hg _ _ hF)
      unfold Oper.wp at h1
      refine ⟨fun _ _ => trivial, ?_⟩
      rw [Oper.semAt_eq _ _ _ (noDefer_spec hd ho)]
      generalize (execOp a.eval o).run P w = r at *
      cases r with
      | ok x w' =>
        cases x <;> simp only [Oper.upon, Oper.uponIn] at h1 ⊢ <;>
          first
            | exact h1
            | exact h1.elim
            | exact ⟨WF_depth, callsIn_WF.2 (Calls.mono h1 fun e w'' he => by cases e <;> first | exact he | exact (hp _ _ _ he).elim | exact (let ⟨_, _, hF⟩ := he; (hg _ _ hF).elim))⟩
            | exact ⟨WF_depth, rowsIn_WF h1⟩
      | halt x w' => cases x <;> simp only [Oper.upon, Oper.uponIn] at h1 ⊢ <;> first | exact (hp _ _ _ h1).elim | exact h1.elim

theorem wpAnyIn_of_K {ro : Option Nat} {md : Region.Mode} {ops : Array Oper} {K : Act → World → Prop} {Q : Exit → Act → World → Prop} {m : List Nat} {S : World → Prop} (hd : noDefer ops = true) (hQ : ∀ a w, K a w → Q .normal a w) :
    ∀ (fuel : Nat) (listed : Array Bool) (a : Act) (w : World), wpAnyK P md ops (fun e a w => match e with | .normal => K a w | _ => False) m S fuel listed a w → wpAnyIn (WF ro) 0 P md ops Q fuel listed a w
  | 0, _, _, _, h => ⟨h.1, hQ _ _ h.2⟩
  | fuel + 1, _, _, _, h => ⟨fun e => hQ _ _ (h.1 e), fun i hi => wpOpIn_of hd (fun _ _ _ q => q) (fun _ _ q => q) (wpOp_mono (fun a' w' h' => wpAnyIn_of_K hd hQ fuel _ a' w' h'.2) (h.2 i hi))⟩

/-! ### Code by its parts -/
def cl : Code → Code | .seq x _ => x | .cond _ x _ => x | .block _ x => x | .loop x => x | .scope x => x | _ => .skip
def cr : Code → Code | .seq _ y => y | .cond _ _ y => y | _ => .skip
def cops : Code → Array Oper | .region _ ops _ => ops | _ => #[]
def isSeq : Code → Bool | .seq _ _ => true | _ => false
def isReg (d : Bool) : Code → Bool | .region _ _ b => b == d | _ => false
def isLoop : Code → Bool | .loop _ => true | _ => false
def isScope : Code → Bool | .scope _ => true | _ => false
def blockId : Code → Option Nat | .block id _ => some id | _ => none
def exitId : Code → Option Nat | .exit id => some id | _ => none
def isRet : Code → Bool | .ret => true | _ => false
def isSkip : Code → Bool | .skip => true | .label _ => true | _ => false
def condX : Code → Option Operand | .cond c _ _ => some c | _ => none

variable {ro : Option Nat} {c : Code} {Q : Exit → Act → World → Prop}

theorem w_seq (hc : isSeq c = true) (k : (cl c).cw ro P (Exit.then (fun a w => (cr c).cw ro P Q a w) Q) a w) : c.cw ro P Q a w := by
  cases c <;> simp [isSeq] at hc
  exact wpIn_seq k
theorem n_then {K : Act → World → Prop} (k : K a w) : Exit.then K Q .normal a w := k
theorem x_then {K : Act → World → Prop} {id : Nat} (k : Q (.exit id) a w) : Exit.then K Q (.exit id) a w := k
theorem r_then {K : Act → World → Prop} (k : Q .ret a w) : Exit.then K Q .ret a w := k
theorem g_then {K : Act → World → Prop} {l : Nat} (k : Q (.goto l) a w) : Exit.then K Q (.goto l) a w := k
theorem w_block {id : Nat} (hc : blockId c = some id) (k : (cl c).cw ro P (Exit.inBlock id Q) a w) : c.cw ro P Q a w := by
  cases c <;> simp [blockId] at hc
  subst hc
  exact wpIn_block k
theorem n_block {id : Nat} (k : Q .normal a w) : Exit.inBlock id Q .normal a w := k
theorem r_block {id : Nat} (k : Q .ret a w) : Exit.inBlock id Q .ret a w := k
theorem x_block {id : Nat} (k : Q .normal a w) : Exit.inBlock id Q (.exit id) a w := by simpa [Exit.inBlock] using k
theorem x_pass {id i : Nat} (hne : Nat.beq i id = false) (k : Q (.exit i) a w) : Exit.inBlock id Q (.exit i) a w := by
  simpa [Exit.inBlock, Nat.ne_of_beq_eq_false hne] using k
theorem w_exit {id : Nat} (hc : exitId c = some id) (k : Q (.exit id) a w) : c.cw ro P Q a w := by
  cases c <;> simp [exitId] at hc
  subst hc
  exact wpIn_exit k
theorem w_ret (hc : isRet c = true) (k : Q .ret a w) : c.cw ro P Q a w := by
  cases c <;> simp [isRet] at hc
  exact wpIn_ret k
theorem w_skip (hc : isSkip c = true) (k : Q .normal a w) : c.cw ro P Q a w := by
  cases c <;> simp [isSkip] at hc
  · exact wpIn_skip k
  · exact wpIn_label k
section
variable {b : Frame} {k : List Item} {cs : List Frame}
theorem stepR_scope' {c : Code} : step P (lone (b.atR a (.code (.scope c) :: k)) cs w) = .next (lone (b.atR a (.code c :: .inScope c :: k)) cs w) := step_lone_go (by simp [stepG, stepG.exec, Frame.atR])
theorem stepR_inScope' {c : Code} : step P (lone (b.atR a (.inScope c :: k)) cs w) = .next (lone (b.atR a k) cs w) := step_lone_go (by simp [stepG, stepG.exec, Frame.atR])
end
theorem wpIn_scope_straight {F : Fence} {n : Nat} {c : Code} (h : c.wpIn F n P (Exit.noGoto Q) a w) : (Code.scope c).wpIn F n P Q a w := by
  intro b k cs hro hb hr
  have h0 : (lone (b.atR a (.code (.scope c) :: k)) cs w).fenced P F := fenced_calm hb hr rfl
  obtain ⟨e, a₁, w₁, hq, harr⟩ := h b (.inScope c :: k) cs hro hb hr
  cases e with
  | normal => exact ⟨.normal, a₁, w₁, hq, .head h0 stepR_scope' (StepsIn.trans harr (.one (fenced_calm hb hr rfl) stepR_inScope'))⟩
  | exit id =>
    refine ⟨.exit id, a₁, w₁, hq, fun k' hk => .head h0 stepR_scope' (harr.1 k' (by simp [exitTo, hk])), fun hr' hk => ?_⟩
    obtain ⟨k₁, h1, h2⟩ := harr.2 hr' (by simp [exitTo, hk])
    exact ⟨k₁, h1, .head h0 stepR_scope' h2⟩
  | goto l => exact hq.elim
  | ret => exact ⟨_, a₁, w₁, hq, .of_steps (.one h0 stepR_scope') harr⟩
  | panic ch => exact ⟨_, a₁, w₁, hq, .of_steps (.one h0 stepR_scope') harr⟩
  | outgrown => exact ⟨_, a₁, w₁, hq, .of_steps (.one h0 stepR_scope') harr⟩
theorem w_scope (hc : isScope c = true) (k : (cl c).cw ro P (Exit.noGoto Q) a w) : c.cw ro P Q a w := by
  cases c <;> simp [isScope] at hc
  exact wpIn_scope_straight k
theorem n_scope (k : Q .normal a w) : Exit.noGoto Q .normal a w := k
theorem r_scope (k : Q .ret a w) : Exit.noGoto Q .ret a w := k
theorem x_scope {i : Nat} (k : Q (.exit i) a w) : Exit.noGoto Q (.exit i) a w := k

/-- An intermediate assertion between two codes. -/
theorem w_mid (hc : isSeq c = true) (M : Act → World → Prop) (k1 : (cl c).cw ro P (Exit.then M Q) a w) (k2 : ∀ a w, M a w → (cr c).cw ro P Q a w) : c.cw ro P Q a w := by
  refine w_seq hc (wpIn_mono k1 ?_)
  intro e a w q
  cases e <;> first | exact k2 _ _ q | exact q

/-- The slot's value, as asked by a test. -/
def condV (c : Code) (fl : FL) : Option Value := match condX c with | some (.tmp t) => look fl t | _ => none
theorem w_if {b : Bool} (hf : Fr a N fl ds) (hc : condV c fl = some (.bool b)) (kt : b = true → (cl c).cw ro P Q a w) (ke : b = false → (cr c).cw ro P Q a w) : c.cw ro P Q a w := by
  cases c with
  | cond x th el =>
    cases x with
    | tmp t =>
      simp only [condV, condX] at hc
      refine wpIn_cond_split (t := b) ?_ kt ke
      simp only [Act.eval]
      exact hf.getD hc
    | _ => simp [condV, condX] at hc
  | _ => simp [condV, condX] at hc
theorem w_if_true (hf : Fr a N fl ds) (hc : condV c fl = some (.bool true)) (k : (cl c).cw ro P Q a w) : c.cw ro P Q a w := w_if hf hc (fun _ => k) (fun e => by cases e)
theorem w_if_false (hf : Fr a N fl ds) (hc : condV c fl = some (.bool false)) (k : (cr c).cw ro P Q a w) : c.cw ro P Q a w := w_if hf hc (fun e => by cases e) (fun _ => k)

/-- A loop, by a relation with fuel. -/
theorem w_loop (hc : isLoop c = true) (T : Nat → Act → World → Prop) (n : Nat) (h0 : T n a w)
    (k : ∀ n a w, T n a w → (cl c).cw ro P (Exit.then (fun a' w' => ∃ j, j < n ∧ T j a' w') Q) a w) : c.cw ro P Q a w := by
  cases c <;> simp [isLoop] at hc
  rename_i body
  intro b ks cs hro hb hr
  have key : ∀ n a w, T n a w →
      ∃ e a' w', Q e a' w' ∧ ArrivesIn (Machine.fenced P (WF ro)) P (lone (b.atR a (.code body :: .inLoop body :: ks)) cs w) b ks cs e a' w' := by
    intro n
    induction n using Nat.strongRecOn with
    | _ n ih =>
      intro a w hT
      obtain ⟨e, a₁, w₁, hq, harr⟩ := k n a w hT b (.inLoop body :: ks) cs hro hb hr
      cases e with
      | normal =>
        obtain ⟨j, hlt, hT₁⟩ := hq
        obtain ⟨e₂, a₂, w₂, hq₂, harr₂⟩ := ih j hlt a₁ w₁ hT₁
        exact ⟨e₂, a₂, w₂, hq₂, .of_steps (StepsIn.trans harr (.one (fenced_calm hb hr rfl) stepR_inLoop)) harr₂⟩
      | exit id => exact ⟨_, a₁, w₁, hq, .pass (x := .inLoop body) rfl (fun _ _ => .inl (by simp)) harr⟩
      | goto l => exact ⟨_, a₁, w₁, hq, .pass (x := .inLoop body) rfl (fun _ _ => .inl (by simp)) harr⟩
      | ret => exact ⟨_, a₁, w₁, hq, .pass (x := .inLoop body) rfl (fun _ _ => .inl (by simp)) harr⟩
      | panic ch => exact ⟨_, a₁, w₁, hq, .pass (x := .inLoop body) rfl (fun _ _ => .inl (by simp)) harr⟩
      | outgrown => exact ⟨_, a₁, w₁, hq, .pass (x := .inLoop body) rfl (fun _ _ => .inl (by simp)) harr⟩
  obtain ⟨e, a', w', hq, harr⟩ := key n a w h0
  exact ⟨e, a', w', hq, .of_steps (.one (fenced_calm hb hr rfl) stepR_loop) harr⟩

/-! ### Regions -/
def planSeq (c : Code) : List (Nat × Bool) := (List.range (cops c).size).map fun i => (i, false)

theorem wpOpsIn_of_plan {Q : Exit → Act → World → Prop} (hd : noDefer R = true) : ∀ (l : List Nat) (a : Act) (w : World), wpPlan P R m S K (l.map fun i => (i, false)) a w → (∀ a w, K a w → Q .normal a w) → wpOpsIn (WF ro) 0 P R Q l a w
  | [], a, w, k, hQ => hQ a w k
  | i :: l, a, w, k, hQ => by
    rw [wpOpsIn_cons]
    have k' : wpOp P R (fun _ _ _ => False) i (fun a' w' => (m.contains i = false → S w') ∧ wpPlan P R m S K (l.map fun i => (i, false)) a' w') a w := k
    exact wpOpIn_mono (fun a' w' h3 => wpOpsIn_of_plan hd l a' w' h3.2 hQ) (wpOpIn_of hd (fun _ _ _ q => q) (fun _ _ q => q) k')

theorem w_reg (hc : (isReg false c && noDefer (cops c)) = true) (k : wpPlan P (cops c) [] (fun _ => True) (fun a w => Q .normal a w) (planSeq c) a w) : c.cw ro P Q a w := by
  simp only [Bool.and_eq_true] at hc
  obtain ⟨hc, hd⟩ := hc
  cases c <;> simp [isReg] at hc
  subst hc
  exact wpIn_region (wpOpsIn_of_plan hd _ _ _ k fun _ _ h => h)

def drawOK (c : Code) (pl : List (Nat × Bool)) (m : List Nat) : Bool :=
  (isReg true c && noDefer (cops c)) && (Region.noSelect (cops c) && (Nat.beq pl.length (cops c).size && normB .any (cops c) m pl (Array.replicate (cops c).size false)))

theorem w_regD (hm : P.follows .mixedOrders = true) (pl : List (Nat × Bool)) (m : List Nat) (S : World → Prop) (hB : drawOK c pl m = true) (hS0 : S w.drew)
    (k : wpPlan P (cops c) m S (fun a w => Q .normal a w) pl a w.drew) : c.cw ro P Q a w := by
  simp only [drawOK, Bool.and_eq_true] at hB
  obtain ⟨⟨hc, hd⟩, hs, hl, hn⟩ := hB
  cases c <;> simp [isReg] at hc
  rename_i id ops b
  subst hc
  have hl' : pl.length = ops.size := Nat.eq_of_beq_eq_true hl
  have k1 := wpAnyK_plan hs pl _ a w.drew (Closed.none _) (by simp) (fun _ => hS0) hn k
  have k2 := wpAnyIn_of_K (ro := ro) (Q := Q) hd (fun _ _ h => h) _ _ _ _ k1
  rw [hl'] at k2
  exact wpIn_region_any hm k2

/-! A region that draws, where several may come up at once -/
abbrev anyK (P : Program) (ops : Array Oper) (K : Act → World → Prop) (m : List Nat) (S : World → Prop) (fuel : Nat) (listed : Array Bool) (a : Act) (w : World) : Prop :=
  wpAnyK P .any ops (fun e a w => match e with | .normal => K a w | _ => False) m S fuel listed a w

def drawB (c : Code) : Bool := (isReg true c && noDefer (cops c)) && Region.noSelect (cops c)
theorem w_regB (hm : P.follows .mixedOrders = true) (m : List Nat) (S : World → Prop) (hB : drawB c = true)
    (k : anyK P (cops c) (fun a w => Q .normal a w) m S (cops c).size (Array.replicate (cops c).size false) a w.drew) : c.cw ro P Q a w := by
  simp only [drawB, Bool.and_eq_true] at hB
  obtain ⟨⟨hc, hd⟩, hs⟩ := hB
  cases c <;> simp [isReg] at hc
  rename_i id ops b
  subst hc
  exact wpIn_region_any hm (wpAnyIn_of_K (ro := ro) (Q := Q) hd (fun _ _ h => h) _ _ _ _ k)

/-- What is listed behind a plan. -/
def setL (pl : List (Nat × Bool)) (listed : Array Bool) : Array Bool := pl.foldl (fun l p => l.setIfInBounds p.1 true) listed
/-- A plan fits as far as it goes. -/
def segB (ops : Array Oper) (m : List Nat) : List (Nat × Bool) → Array Bool → Bool
  | [], _ => true
  | (i, true) :: rest, listed => (Region.ready .any ops listed).contains i && Region.free .any ops listed i && !m.contains i && segB ops m rest (listed.setIfInBounds i true)
  | (i, false) :: rest, listed => (match Region.ready .any ops listed with | [j] => Nat.beq i j | _ => false) && segB ops m rest (listed.setIfInBounds i true)

/-- Where a region stands. -/
structure At (ops : Array Oper) (m : List Nat) (S : World → Prop) (listed : Array Bool) (w : World) : Prop where
  cl : Closed .any ops listed
  sz : listed.size = ops.size
  s : noLate m listed → S w

theorem At.start {ops : Array Oper} {m : List Nat} {S : World → Prop} {w : World} (h : S w) : At ops m S (Array.replicate ops.size false) w := ⟨Closed.none _, by simp, fun _ => h⟩

theorem k_seg {ops : Array Oper} {m : List Nat} {S : World → Prop} (hs : Region.noSelect ops = true) (n : Nat) : ∀ (pl : List (Nat × Bool)) {listed : Array Bool} {a : Act} {w : World}, At ops m S listed w → segB ops m pl listed = true →
    wpPlan P ops m S (fun a w => At ops m S (setL pl listed) w → anyK P ops K m S n (setL pl listed) a w) pl a w → anyK P ops K m S (pl.length + n) listed a w
  | [], listed, a, w, hA, _, h => by
    have e0 : ([] : List (Nat × Bool)).length + n = n := by simp
    rw [e0]
    exact h hA
  | (i, true) :: rest, listed, a, w, hA, hB, h => by
    simp only [segB, Bool.and_eq_true] at hB
    obtain ⟨⟨⟨hr, hf⟩, him⟩, hB'⟩ := hB
    have hr' : i ∈ Region.ready .any ops listed := by simpa using hr
    have him' : i ∉ m := by simpa using him
    obtain ⟨o, v, hi, hy, hrest⟩ := h
    have hrec := k_seg hs n rest (listed := listed.setIfInBounds i true) ⟨hA.cl.set hr', by simp [hA.sz], fun h => hA.s h.unset⟩ hB' hrest
    have e0 : ((i, true) :: rest).length + n = (rest.length + n) + 1 := by simp only [List.length_cons]; omega
    rw [e0]
    rcases hy with ⟨hy, hS, hl⟩ | hy
    · exact wpAnyK_first hl hi (Region.noSelect_spec hs) (fun _ _ _ h => h) _ listed a w hA.cl hA.sz (Region.free_spec hi hf) hr' hy hS hrec
    · exact wpAnyK_firstP him' hi (Region.noSelect_spec hs) (fun _ _ _ h => h) _ listed a w (Region.free_spec hi hf) hr' hy hA.s hrec
  | (i, false) :: rest, listed, a, w, hA, hB, h => by
    simp only [segB, Bool.and_eq_true] at hB
    obtain ⟨hr, hB'⟩ := hB
    have hready : Region.ready .any ops listed = [i] := by
      split at hr
      · rename_i j hj; have := Nat.eq_of_beq_eq_true hr; subst this; exact hj
      · cases hr
    have e0 : ((i, false) :: rest).length + n = (rest.length + n) + 1 := by simp only [List.length_cons]; omega
    rw [e0]
    refine ⟨fun h0 => (by rw [hready] at h0; cases h0), fun j hj => ?_⟩
    have hj0 := hj
    rw [hready] at hj
    simp only [List.mem_singleton] at hj
    subst hj
    have h' : wpOp P ops (fun _ _ _ => False) j (fun a' w' => (m.contains j = false → S w') ∧ wpPlan P ops m S (fun a w => At ops m S (setL ((j, false) :: rest) listed) w → anyK P ops K m S n (setL ((j, false) :: rest) listed) a w) rest a' w') a w := h
    refine wpOp_mono (fun a' w' h3 => ?_) (wpOp_post (fun e a w hF => hF.elim) h')
    have hS' : noLate m (listed.setIfInBounds j true) → S w' := fun hn => h3.1 (by
      have := hn.not_mem (unlisted_lt (mem_ready.1 hj0).1)
      simpa using this)
    exact ⟨hS', k_seg hs n rest ⟨hA.cl.set hj0, by simp [hA.sz], hS'⟩ hB' h3.2⟩

/-- One of several comes up. -/
theorem k_any {ops : Array Oper} {m : List Nat} {S : World → Prop} {n : Nat} {listed : Array Bool} {a : Act} {w : World} (is : List Nat) (hA : At ops m S listed w) (hr : Region.ready .any ops listed = is) (hne : is.isEmpty = false)
    (k : ∀ i ∈ is, wpPlan P ops m S (fun a w => At ops m S (listed.setIfInBounds i true) w → anyK P ops K m S n (listed.setIfInBounds i true) a w) [(i, false)] a w) : anyK P ops K m S (n + 1) listed a w := by
  refine ⟨fun h0 => (by rw [hr] at h0; subst h0; cases hne), fun j hj => ?_⟩
  have hj0 := hj
  rw [hr] at hj
  have h' : wpOp P ops (fun _ _ _ => False) j (fun a' w' => (m.contains j = false → S w') ∧ (At ops m S (listed.setIfInBounds j true) w' → anyK P ops K m S n (listed.setIfInBounds j true) a' w')) a w := k j hj
  refine wpOp_mono (fun a' w' h3 => ?_) (wpOp_post (fun e a w hF => hF.elim) h')
  have hS' : noLate m (listed.setIfInBounds j true) → S w' := fun hn => h3.1 (by
    have := hn.not_mem (unlisted_lt (mem_ready.1 hj0).1)
    simpa using this)
  exact ⟨hS', h3.2 ⟨hA.cl.set hj0, by simp [hA.sz], hS'⟩⟩

theorem k_seg' {ops : Array Oper} {m : List Nat} {S : World → Prop} {t : Nat} {listed : Array Bool} {a : Act} {w : World} (n : Nat) (pl : List (Nat × Bool)) (hs : Region.noSelect ops = true) (ht : Nat.beq t (pl.length + n) = true) (hA : At ops m S listed w) (hB : segB ops m pl listed = true)
    (k : wpPlan P ops m S (fun a w => At ops m S (setL pl listed) w → anyK P ops K m S n (setL pl listed) a w) pl a w) : anyK P ops K m S t listed a w := by
  rw [Nat.eq_of_beq_eq_true ht]; exact k_seg hs n pl hA hB k
theorem k_any' {ops : Array Oper} {m : List Nat} {S : World → Prop} {t : Nat} {listed : Array Bool} {a : Act} {w : World} (n : Nat) (is : List Nat) (ht : Nat.beq t (n + 1) = true) (hA : At ops m S listed w) (hr : Region.ready .any ops listed = is) (hne : is.isEmpty = false)
    (k : ∀ i ∈ is, wpPlan P ops m S (fun a w => At ops m S (listed.setIfInBounds i true) w → anyK P ops K m S n (listed.setIfInBounds i true) a w) [(i, false)] a w) : anyK P ops K m S t listed a w := by
  rw [Nat.eq_of_beq_eq_true ht]; exact k_any is hA hr hne k
theorem k_done' {ops : Array Oper} {m : List Nat} {S : World → Prop} {t : Nat} {listed : Array Bool} {a : Act} {w : World} (ht : Nat.beq t 0 = true) (hr : (Region.ready .any ops listed).isEmpty = true) (k : K a w) : anyK P ops K m S t listed a w := by
  rw [Nat.eq_of_beq_eq_true ht]; exact ⟨by simpa using hr, k⟩

theorem all_nil {p : Nat → Prop} : ∀ i ∈ ([] : List Nat), p i := fun _ h => by cases h
theorem all_cons {p : Nat → Prop} {j : Nat} {is : List Nat} (h1 : p j) (h2 : ∀ i ∈ is, p i) : ∀ i ∈ j :: is, p i := fun i h => by
  rcases List.mem_cons.1 h with h | h
  · subst h; exact h1
  · exact h2 i h
theorem k_done {ops : Array Oper} {m : List Nat} {S : World → Prop} {listed : Array Bool} {a : Act} {w : World} (hr : Region.ready .any ops listed = []) (k : K a w) : anyK P ops K m S 0 listed a w := ⟨hr, k⟩

theorem p_done (hp : pl.isEmpty = true) (k : K a w) : wpPlan P R m S K pl a w := by
  cases pl with
  | nil => exact k
  | cons _ _ => cases hp

/-! ### One operation -/
def opAt (R : Array Oper) (N : Nat) (pl : List (Nat × Bool)) (fl : FL) : Option (Nat × Oper) :=
  match pl with
  | (i, false) :: _ => match R[i]? with
    | some o => match wantedF R fl o with
      | some true => bif (known fl o && (match o.dst with | some d => Nat.blt d N | none => true)) then some (i, o) else none
      | _ => none
    | none => none
  | _ => none

theorem opAt_spec {i : Nat} {o : Oper} (h : opAt R N pl fl = some (i, o)) :
    ∃ rest, pl = (i, false) :: rest ∧ R[i]? = some o ∧ wantedF R fl o = some true ∧ known fl o = true ∧ (match o.dst with | some d => Nat.blt d N | none => true) = true := by
  unfold opAt at h
  split at h
  · rename_i j rest
    cases hR : R[j]? with
    | none => rw [hR] at h; simp at h
    | some o' =>
      rw [hR] at h
      simp only at h
      split at h
      · rename_i hw
        cases hk : (known fl o' && (match o'.dst with | some d => Nat.blt d N | none => true)) with
        | false => rw [hk] at h; simp at h
        | true =>
          rw [hk] at h
          simp only [cond_true, Option.some.injEq, Prod.mk.injEq] at h
          obtain ⟨rfl, rfl⟩ := h
          simp only [Bool.and_eq_true] at hk
          exact ⟨rest, rfl, hR, hw, hk.1, hk.2⟩
      · cases h
  · cases h

theorem p_val {i : Nat} {o : Oper} {v : Value} {w' : World} (hf : Fr a N fl ds) (ho : opAt R N pl fl = some (i, o)) (hrun : (execOp (ev fl) o).run P w = .ok (.value v) w')
    (k : ∀ a', Fr a' N (putF fl o.dst v) ds → (m.contains i = false → S w') ∧ wpPlan P R m S K pl.tail a' w') : wpPlan P R m S K pl a w := by
  obtain ⟨rest, rfl, hR, hw, hk, hd⟩ := opAt_spec ho
  show wpOp P R (fun _ _ _ => False) i (fun a' w' => (m.contains i = false → S w') ∧ wpPlan P R m S K rest a' w') a w
  unfold wpOp
  simp only [hR, wantedF_sound hf hw, if_true]
  refine .inl ?_
  unfold Oper.wp
  rw [hf.exec hk, hrun]
  exact k _ (hf.put hd v)

theorem p_skip {i : Nat} {o : Oper} {w' : World} (hf : Fr a N fl ds) (ho : opAt R N pl fl = some (i, o)) (hrun : (execOp (ev fl) o).run P w = .ok .skip w')
    (k : ∀ a', Fr a' N (putF fl o.dst undef) ds → (m.contains i = false → S w') ∧ wpPlan P R m S K pl.tail a' w') : wpPlan P R m S K pl a w := by
  obtain ⟨rest, rfl, hR, hw, hk, hd⟩ := opAt_spec ho
  show wpOp P R (fun _ _ _ => False) i (fun a' w' => (m.contains i = false → S w') ∧ wpPlan P R m S K rest a' w') a w
  unfold wpOp
  simp only [hR, wantedF_sound hf hw, if_true]
  refine .inl ?_
  unfold Oper.wp
  rw [hf.exec hk, hrun]
  exact k _ (hf.put hd undef)

theorem p_enter {i : Nat} {o : Oper} {f : FuncId} {args : Array Value} (hf : Fr a N fl ds) (ho : opAt R N pl fl = some (i, o)) (hrun : (execOp (ev fl) o).run P w = .ok (.enter f args) w)
    {Φ : Value → World → Prop} (hc : Calls P f args w fun e w' => ∃ v, e = .returned v ∧ Φ v w')
    (k : ∀ v w' a', Φ v w' → Fr a' N (putF fl o.dst v) ds → (m.contains i = false → S w') ∧ wpPlan P R m S K pl.tail a' w') : wpPlan P R m S K pl a w := by
  obtain ⟨rest, rfl, hR, hw, hk, hd⟩ := opAt_spec ho
  show wpOp P R (fun _ _ _ => False) i (fun a' w' => (m.contains i = false → S w') ∧ wpPlan P R m S K rest a' w') a w
  unfold wpOp
  simp only [hR, wantedF_sound hf hw, if_true]
  refine .inl ?_
  unfold Oper.wp
  rw [hf.exec hk, hrun]
  refine Calls.mono hc ?_
  rintro e w' ⟨v, rfl, hΦ⟩
  exact k v w' _ hΦ (hf.put hd v)

/-- A call of a function: which one, with what. -/
def callAt (P : Program) (R : Array Oper) (N : Nat) (pl : List (Nat × Bool)) (fl : FL) : Option (Nat × Option Nat × FuncId × Array Value) :=
  match opAt R N pl fl with
  | some (i, o) => match runO P (execOp (ev fl) o) [] with
    | some (.enter f args, [], []) => some (i, o.dst, f, args)
    | _ => none
  | none => none

theorem p_call {i : Nat} {d : Option Nat} {f : FuncId} {args : Array Value} (hf : Fr a N fl ds) (ho : callAt P R N pl fl = some (i, d, f, args))
    {Φ : Value → World → Prop} (hc : Calls P f args w fun e w' => ∃ v, e = .returned v ∧ Φ v w')
    (k : ∀ v w' a', Φ v w' → Fr a' N (putF fl d v) ds → (m.contains i = false → S w') ∧ wpPlan P R m S K pl.tail a' w') : wpPlan P R m S K pl a w := by
  unfold callAt at ho
  cases h1 : opAt R N pl fl with
  | none => rw [h1] at ho; simp at ho
  | some t =>
    obtain ⟨i', o⟩ := t
    rw [h1] at ho
    simp only at ho
    split at ho
    · rename_i f' args' hr
      simp only [Option.some.injEq, Prod.mk.injEq] at ho
      obtain ⟨rfl, rfl, rfl, rfl⟩ := ho
      exact p_enter hf h1 (runO_sound _ hr (by simp)) hc k
    · cases ho

/-! ### A new object -/
/-- A run that makes one object and then only answers. -/
def runA {α : Type} (P : Program) (r : Nat) : Sem α → Option (Obj × α)
  | .new o k => match runO P (k r) [] with
    | some (x, [], []) => some (o, x)
    | _ => none
  | .program k => runA P r (k P)
  | .mark _ k => runA P r k
  | _ => none

theorem runA_sound {α : Type} {w : World} : ∀ (s : Sem α) {o : Obj} {x : α}, runA P w.heap.size s = some (o, x) → s.run P w = .ok x (w.alloc o) := by
  intro s
  induction s with
  | new o k ih =>
    intro o' x h
    simp only [runA] at h
    split at h
    · rename_i y hy
      simp only [Option.some.injEq, Prod.mk.injEq] at h
      obtain ⟨rfl, rfl⟩ := h
      exact runO_sound (w := w.alloc o) _ hy (by simp)
    · cases h
  | program k ih => intro o x h; exact ih P h
  | mark m k ih => intro o x h; exact ih h
  | _ => intro o x h; simp [runA] at h

def newAt (P : Program) (R : Array Oper) (N : Nat) (pl : List (Nat × Bool)) (fl : FL) (r : Nat) : Option (Nat × Option Nat × Obj × Value) :=
  match opAt R N pl fl with
  | some (i, o) => match runA P r (execOp (ev fl) o) with
    | some (ob, .value v) => some (i, o.dst, ob, v)
    | _ => none
  | none => none

/-- One object, known whole. -/
def pts (b : Nat) (o : Obj) : Atom := ⟨fun _ z => z = Hp.one b o, fun _ _ _ _ h => h⟩
def box (b : Nat) (cs : List Value) (T : TypeId) : Atom := pts b (.cells cs.toArray T (0, 0))

theorem p_new {i : Nat} {d : Option Nat} {o : Nat → Obj} {v : Nat → Value} (hS : St h L w) (hf : Fr a N fl ds) (he : ∀ b, newAt P R N pl fl b = some (i, d, o b, v b))
    (k : ∀ b w' a', St h (pts b (o b) :: L) w' → Fr a' N (putF fl d (v b)) ds → (m.contains i = false → S w') ∧ wpPlan P R m S K pl.tail a' w') : wpPlan P R m S K pl a w := by
  have he' := he w.heap.size
  unfold newAt at he'
  cases h1 : opAt R N pl fl with
  | none => rw [h1] at he'; simp at he'
  | some t =>
    obtain ⟨i', op⟩ := t
    rw [h1] at he'
    simp only at he'
    split at he'
    · rename_i ob v' hr
      simp only [Option.some.injEq, Prod.mk.injEq] at he'
      obtain ⟨rfl, rfl, rfl, rfl⟩ := he'
      exact p_val hf h1 (runA_sound _ hr) fun a' hf' => k _ _ a' (hS.new _ _ rfl) hf'
    · cases he'

/-- A box (or a row of cells) is made. -/
theorem p_box {i : Nat} {d : Option Nat} {cs : List Value} {T : TypeId} {v : Nat → Value} (hS : St h L w) (hf : Fr a N fl ds) (he : ∀ b, newAt P R N pl fl b = some (i, d, .cells cs.toArray T (0, 0), v b))
    (k : ∀ b w' a', St h (box b cs T :: L) w' → Fr a' N (putF fl d (v b)) ds → (m.contains i = false → S w') ∧ wpPlan P R m S K pl.tail a' w') : wpPlan P R m S K pl a w :=
  p_new (o := fun _ => .cells cs.toArray T (0, 0)) hS hf he k

theorem _root_.Go.Sl.St.box (s : St h L w) {i : Nat} {b : Nat} {cs : List Value} {T : TypeId} (hi : L[i]? = some (box b cs T)) {j : Nat} {v : Value} (hj : cs[j]? = some v) : w.cell? ⟨b, j, none⟩ = some v := by
  obtain ⟨x, hx, hxw, _, _⟩ := s.focus hi
  have hx' : x = Hp.one b (.cells cs.toArray T (0, 0)) := hx
  subst hx'
  have h1 : w.heap[b]? = some (.cells cs.toArray T (0, 0)) := Hp.one_le.1 hxw
  simp [World.cell?, h1, hj]

/-- What is stored where. -/
def storeAt (P : Program) (R : Array Oper) (N : Nat) (pl : List (Nat × Bool)) (fl : FL) : Option (Nat × Addr × List Value) :=
  match opAt R N pl fl with
  | some (i, o) => match o.op, o.dst with
    | .store t ad x, none => match ev fl ad, P.info? t with
      | .pointer (some A), some inf => bif Nat.beq (ev fl x).cells.size inf.size then some (i, A, (ev fl x).cells.toList) else none
      | _, _ => none
    | _, _ => none
  | none => none

def oneCells : List Value → Bool
  | [] => true
  | v :: vs => v.oneCell' && oneCells vs
theorem oneCells_spec : ∀ {vs : List Value}, oneCells vs = true → ∀ v ∈ vs, v.oneCell' = true
  | [], _, v, hv => by cases hv
  | u :: vs, h, v, hv => by
    simp only [oneCells, Bool.and_eq_true] at h
    cases hv with
    | head => exact h.1
    | tail _ hv => exact oneCells_spec h.2 v hv

/-- Cells with some of them written. -/
def splice (cs : List Value) (off : Nat) (vs : List Value) : List Value := cs.take off ++ vs ++ cs.drop (off + vs.length)

theorem storeAt_run {i : Nat} {A : Addr} {vs : List Value} {w' : World} (ho : storeAt P R N pl fl = some (i, A, vs)) (hst : (storeCells A vs 0).run P w = .ok () w') :
    ∃ o, opAt R N pl fl = some (i, o) ∧ o.dst = none ∧ (execOp (ev fl) o).run P w = .ok .skip w' := by
  unfold storeAt at ho
  cases h1 : opAt R N pl fl with
  | none => rw [h1] at ho; simp at ho
  | some t =>
    obtain ⟨i', o⟩ := t
    rw [h1] at ho
    simp only at ho
    split at ho
    · rename_i t ad x hop hdst
      split at ho
      · rename_i A' inf hA hinf
        cases hb : Nat.beq (ev fl x).cells.size inf.size with
        | false => rw [hb] at ho; simp at ho
        | true =>
          rw [hb] at ho
          simp only [cond_true, Option.some.injEq, Prod.mk.injEq] at ho
          obtain ⟨rfl, rfl, rfl⟩ := ho
          refine ⟨o, rfl, hdst, ?_⟩
          have hsz : (ev fl x).cells.size = inf.size := Nat.eq_of_beq_eq_true hb
          simp [execOp, hop, Instr.storeAt, hA, Instr.sureAddr, storeVar, sizeOf, typeInfo, hinf, hsz, hst]
      · cases ho
    · cases ho

theorem p_store {i j : Nat} {b off : Nat} {vs cs : List Value} {T : TypeId} (hS : St h L w) (hf : Fr a N fl ds) (hj : L[j]? = some (box b cs T)) (ho : storeAt P R N pl fl = some (i, ⟨b, off, none⟩, vs))
    (hfit : off + vs.length ≤ cs.length) (hone : oneCells vs = true)
    (k : ∀ w' a', St h (L.set j (box b (splice cs off vs) T)) w' → Fr a' N fl ds → (m.contains i = false → S w') ∧ wpPlan P R m S K pl.tail a' w') : wpPlan P R m S K pl a w := by
  obtain ⟨x, hx, hxw, _, hset⟩ := hS.focus hj
  have hx' : x = Hp.one b (.cells cs.toArray T (0, 0)) := hx
  subst hx'
  have h1 : w.heap[b]? = some (.cells cs.toArray T (0, 0)) := Hp.one_le.1 hxw
  have hrun := run_storeCells_at (P := P) b off T vs 0 cs.toArray w h1 (by simpa using hfit) (oneCells_spec hone)
  simp only [Nat.add_zero] at hrun
  obtain ⟨o, hop, hd, hex⟩ := storeAt_run ho hrun
  refine p_skip hf hop hex fun a' hf' => ?_
  rw [hd] at hf'
  refine k _ a' (hset _ _ (Hp.one b (.cells (splice cs off vs).toArray T (0, 0))) rfl (Hp.one_le.2 ?_) ?_ ?_ rfl rfl rfl) hf'
  · exact setRow_heap w b _ _ T (0, 0) h1
  · intro k hk hne
    refine setRow_other w b k _ fun e => ?_
    subst e
    simp [Hp.one] at hne
  · intro k o' hk
    right
    unfold Hp.one at hk ⊢
    split at hk <;> simp_all

theorem p_store_eq {i j : Nat} {b off : Nat} {vs cs cs' : List Value} {T : TypeId} (hS : St h L w) (hf : Fr a N fl ds) (hj : L[j]? = some (box b cs T)) (ho : storeAt P R N pl fl = some (i, ⟨b, off, none⟩, vs))
    (hfit : (Nat.ble (off + vs.length) cs.length && oneCells vs) = true) (hcs : splice cs off vs = cs')
    (k : ∀ w' a', St h (L.set j (box b cs' T)) w' → Fr a' N fl ds → (m.contains i = false → S w') ∧ wpPlan P R m S K pl.tail a' w') : wpPlan P R m S K pl a w := by
  simp only [Bool.and_eq_true] at hfit
  subst hcs
  exact p_store hS hf hj ho (Nat.le_of_ble_eq_true hfit.1) hfit.2 k

/-! ### The end of a function -/
/-- The results, as the model reads them. -/
def resO (P : Program) (fl : FL) : List ResultVar → List Value → Option (List Value × List Obl)
  | [], [] => some ([], [])
  | .tmp t :: rs, os => match look fl t, resO P fl rs os with
    | some v, some (vs, obs) => some (v :: vs, obs)
    | _, _ => none
  | .cell t ty :: rs, os => match look fl t with
    | some (.pointer (some A)) => match runO P (loadVar ty A) os with
      | some (v, ls, os') => match resO P fl rs os' with
        | some (vs, obs) => some (v :: vs, cellsObl ls ++ obs)
        | none => none
      | none => none
    | _ => none
  | _, _ => none
def resV : List Value → Value
  | [v] => v
  | vs => .tuple vs.toArray

def resOne (tmps : Array Value) (r : ResultVar) : Sem Value :=
  match r with
  | .tmp t => pure (tmps.getD t undef)
  | .cell a t => do loadVar t (← asAddr (tmps.getD a undef))

theorem resO_sound (hf : Fr a N fl ds) : ∀ {rs : List ResultVar} {os vs : List Value} {obs : List Obl}, resO P fl rs os = some (vs, obs) → HA w obs →
    (rs.mapM (resOne a.tmps)).run P w = .ok vs w
  | [], os, vs, obs, h, _ => by
    cases os with
    | nil => simp only [resO, Option.some.injEq, Prod.mk.injEq] at h; obtain ⟨rfl, _⟩ := h; rfl
    | cons _ _ => simp [resO] at h
  | .tmp t :: rs, os, vs, obs, h, hob => by
    simp only [resO] at h
    split at h
    · rename_i v vs' obs' hl hr
      simp only [Option.some.injEq, Prod.mk.injEq] at h
      obtain ⟨rfl, rfl⟩ := h
      have h1 : (resOne a.tmps (.tmp t)).run P w = .ok v w := by simp only [resOne, Sem.run_pure, hf.getD hl]
      rw [List.mapM_cons, Sem.run_bind, h1, Result.andThen_ok, Sem.run_bind, resO_sound hf hr hob]
      rfl
    · cases h
  | .cell t ty :: rs, os, vs, obs, h, hob => by
    simp only [resO] at h
    split at h
    · rename_i A hl
      split at h
      · rename_i v ls os' hv
        split at h
        · rename_i vs' obs' hr
          simp only [Option.some.injEq, Prod.mk.injEq] at h
          obtain ⟨rfl, rfl⟩ := h
          have h0 := runO_sound (w := w) _ hv (cellsObl_sound hob.left)
          have h1 : (resOne a.tmps (.cell t ty)).run P w = .ok v w := by
            simp only [resOne, Sem.run_bind, hf.getD hl, asAddr, Sem.run_pure, Result.andThen_ok, h0]
          rw [List.mapM_cons, Sem.run_bind, h1, Result.andThen_ok, Sem.run_bind, resO_sound hf hr hob.right]
          rfl
        · cases h
      · cases h
    · cases h

def resAt (P : Program) (fn : Func) (fl : FL) (os : List Value) : Option (Value × List Obl) :=
  match resO P fl fn.results.toList os with
  | some (vs, obs) => some (resV vs, obs)
  | none => none

theorem resV_eq (vs : Array Value) : resV vs.toList = (if h : vs.size = 1 then vs[0] else .tuple vs) := by
  obtain ⟨l⟩ := vs
  match l with
  | [] => rfl
  | [v] => rfl
  | _ :: _ :: _ => simp [resV]

/-- What is left to do when a function leaves: the marks of its ranges over functions, then the results. -/
abbrev outM (P : Program) (fn : Func) (R' : Ending → World → Prop) (tmps : Array Value) (ds : List Nat) (w : World) : Prop := LeavesInM (WF none) 0 P fn tmps R' (marks ds) .returning w
abbrev postM (P : Program) (fn : Func) (R' : Ending → World → Prop) : Exit → Act → World → Prop := bodyPostM (WF none) 0 P fn R'
theorem p_end {fn : Func} {R' : Ending → World → Prop} {os : List Value} {v : Value} {obs : List Obl} (hf : Fr a N fl ds) (he : resAt P fn fl os = some (v, obs)) (hob : HA w obs) (k : R' (.returned v) w) :
    outM P fn R' a.tmps [] w := by
  refine ⟨v, ?_, k⟩
  unfold resAt at he
  split at he
  · rename_i vs obs' hr
    simp only [Option.some.injEq, Prod.mk.injEq] at he
    obtain ⟨rfl, rfl⟩ := he
    have h1 := resO_sound hf hr hob
    have h2 : (fn.results.mapM (resOne a.tmps)).run P w = .ok vs.toArray w := by
      rw [Array.mapM_eq_mapM_toList, map_eq_pure_bind, Sem.run_bind, h1]
      rfl
    have h3 : results fn a.tmps = (do let vs ← fn.results.mapM (resOne a.tmps); pure (if h : vs.size = 1 then vs[0] else .tuple vs)) := rfl
    rw [h3, Sem.run_bind, h2, Result.andThen_ok, Sem.run_pure, ← resV_eq]
  · cases he

theorem p_retM {fn : Func} {R' : Ending → World → Prop} (hf : Fr a N fl ds) (k : outM P fn R' a.tmps ds w) : postM P fn R' .ret a w := by
  show LeavesInM (WF none) 0 P fn a.tmps R' a.defers .returning w
  rw [hf.defers]; exact k
theorem p_fallM {fn : Func} {R' : Ending → World → Prop} (hf : Fr a N fl ds) (k : outM P fn R' a.tmps ds w) : postM P fn R' .normal a w := by
  show LeavesInM (WF none) 0 P fn a.tmps R' a.defers .returning w
  rw [hf.defers]; exact k
theorem p_ret {fn : Func} {R' : Ending → World → Prop} {os : List Value} {v : Value} {obs : List Obl} (hf : Fr a N fl) (he : resAt P fn fl os = some (v, obs)) (hob : HA w obs) (k : R' (.returned v) w) : postM P fn R' .ret a w := p_retM hf (p_end hf he hob k)
theorem p_fall {fn : Func} {R' : Ending → World → Prop} {os : List Value} {v : Value} {obs : List Obl} (hf : Fr a N fl) (he : resAt P fn fl os = some (v, obs)) (hob : HA w obs) (k : R' (.returned v) w) : postM P fn R' .normal a w := p_fallM hf (p_end hf he hob k)

/-! ### The beginning of a function -/
def argFL (args : Array Value) : FL := args.toList.zipIdx.map fun (v, i) => (i, v)
def bodyOf (fn : Func) : Code := fn.body.getD .skip

theorem look_zipIdx : ∀ (l : List Value) (n t : Nat) (v : Value), look ((l.zipIdx n).map fun (v, i) => (i, v)) t = some v → n ≤ t ∧ l[t - n]? = some v
  | [], n, t, v, h => by simp [look] at h
  | x :: l, n, t, v, h => by
    simp only [List.zipIdx_cons, List.map_cons, look] at h
    cases hb : Nat.beq n t with
    | true => rw [hb] at h; have := Nat.eq_of_beq_eq_true hb; subst this; simp only [cond_true] at h; simp [h]
    | false =>
      rw [hb] at h
      obtain ⟨h1, h2⟩ := look_zipIdx l (n + 1) t v h
      have hne : n ≠ t := Nat.ne_of_beq_eq_false hb
      refine ⟨by omega, ?_⟩
      rw [show t - n = (t - (n + 1)) + 1 by omega]
      simpa using h2

theorem calls_intro {f : FuncId} {fn : Func} {args : Array Value} {R' : Ending → World → Prop} {N : Nat} (hfn : P.funcs[f]? = some fn) (hN : (fn.body.isSome && (Nat.beq (args.size + (fn.ntmps - args.size)) N)) = true)
    (k : ∀ a, Fr a N (argFL args) → (bodyOf fn).cw none P (postM P fn R') a w) : Calls P f args w R' := by
  simp only [Bool.and_eq_true] at hN
  obtain ⟨hb, hN⟩ := hN
  obtain ⟨c, hc⟩ := Option.isSome_iff_exists.1 hb
  refine (callsIn_WF (ro := none) (n := 0)).1 (callsIn_of_wp_marks hfn hc trivial ?_)
  have := k { tmps := args ++ Array.replicate (fn.ntmps - args.size) undef, defers := [] } ⟨by simp [Nat.eq_of_beq_eq_true hN], rfl, fun t v hl => ?_⟩
  · have h2 : bodyOf fn = c := by simp [bodyOf, hc]
    rw [h2] at this
    exact this
  · obtain ⟨_, h2⟩ := look_zipIdx args.toList 0 t v hl
    have hlt : t < args.size := by
      have := (List.getElem?_eq_some_iff.1 h2).1
      simpa using this
    simp only [Nat.sub_zero, Array.getElem?_toList] at h2
    simp only [Array.getElem?_append, hlt, if_true]
    exact h2
end Go.Sx
