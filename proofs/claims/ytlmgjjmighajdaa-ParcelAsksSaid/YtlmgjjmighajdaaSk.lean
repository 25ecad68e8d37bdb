/-
  The steps again, in short: frames are reckoned by the kernel, checks are left to it. Program-independent. No condition.
-/
import Derived.Test.YtlmgjjmighajdaaSp
import Derived.Test.YtlmgjjmighajdaaSr
set_option linter.unusedVariables false
namespace Go.Sx
open Go.Sl
variable {P : Program} {a : Act} {N : Nat} {fl : FL} {ds : List Nat} {w : World} {R : Array Oper} {m : List Nat} {S : World → Prop} {K K' : Act → World → Prop} {pl : List (Nat × Bool)} {ro : Option Nat} {c : Code} {Q : Exit → Act → World → Prop} {oF oC : List Obl} {h : Zone} {L : List Atom}

theorem look_sub {fl r : FL} (e : ∀ t v, look r t = some v → look fl t = some v) (hf : Fr a N fl ds) : Fr a N r ds := ⟨hf.size, hf.defers, fun t v hl => hf.look t v (e t v hl)⟩
theorem Fr.lit (hf : Fr a N fl ds) {b l : Bool} (k : Nat) (e : b = l) (hk : Sx.look fl k = some (.bool b) := by kernel_rfl) : Fr a N ((k, .bool l) :: fl) ds := by
  subst e
  refine look_sub (fun t v hl => ?_) hf
  simp only [Sx.look] at hl
  cases hb : Nat.beq k t with
  | true => rw [hb] at hl; have := Nat.eq_of_beq_eq_true hb; subst this; simpa [hk] using hl
  | false => rw [hb] at hl; exact hl
theorem Fr.to {r : FL} (hf : Fr a N fl ds) (hk : keepF fl (keys r) = some r := by kernel_rfl) : Fr a N r ds := hf.keep hk

def fr3 : Option (FL × List Obl × List Obl) → FL
  | some (r, _) => r
  | none => []
def ob3 : Option (FL × List Obl × List Obl) → Option (List Obl × List Obl)
  | some (_, o) => some o
  | none => none
def fr2 : Option (FL × List Obl) → FL
  | some (r, _) => r
  | none => []
def ob2 : Option (FL × List Obl) → Option (List Obl)
  | some (_, o) => some o
  | none => none
theorem keepF_keys {fl : FL} : ∀ {ks : List Nat} {r : FL}, keepF fl ks = some r → keys r = ks
  | [], r, h => by simp only [keepF, Option.some.injEq] at h; subst h; rfl
  | k :: ks, r, h => by
    simp only [keepF] at h
    split at h
    · rename_i h1 h2
      simp only [Option.some.injEq] at h
      subst h
      have := keepF_keys h2
      simp only [keys, List.map_cons] at this ⊢
      rw [this]
    · cases h
/-- What is kept is what was asked. -/
def Keyed (X : List Nat → Option (FL × List Obl × List Obl)) : Prop := ∀ ks r o, X ks = some (r, o) → keys r = ks
theorem Keyed.use {X : List Nat → Option (FL × List Obl × List Obl)} (hX : Keyed X) {ks : List Nat} (e : ob3 (X ks) = some (oF, oC)) : X (keys (fr3 (X ks))) = some (fr3 (X ks), oF, oC) := by
  cases h1 : X ks with
  | none => rw [h1] at e; cases e
  | some t =>
    obtain ⟨r, o⟩ := t
    rw [h1] at e
    simp only [ob3, Option.some.injEq] at e
    subst e
    show X (keys r) = some (r, oF, oC)
    rw [hX _ _ _ h1, h1]
theorem keyed_XK {os : List Value} : Keyed (evXK P R N m pl fl os) := fun ks r o e => by
  obtain ⟨oF, oC⟩ := o
  obtain ⟨fl1, _, h2⟩ := evXK_spec e
  exact keepF_keys h2
theorem keyed_if {b : Bool} {X : List Nat → Option (FL × List Obl × List Obl)} (hX : Keyed X) : Keyed (fun ks => bif b then X ks else none) := fun ks r o e => by
  cases b with
  | false => cases e
  | true => exact hX ks r o e
theorem keyed_R {os : List Value} : Keyed (evR P c N fl os) := keyed_if keyed_XK
theorem keyed_SR {os : List Value} : Keyed (evSR P c N fl os) := keyed_if keyed_R
theorem keyed_RD {os : List Value} : Keyed (evRD P c pl m N fl os) := keyed_if keyed_XK
theorem keyed_SRD {os : List Value} : Keyed (evSRD P c pl m N fl os) := keyed_if keyed_RD

theorem c_S (n : Nat) (os : List Value) (ks : List Nat) (hSw : S w) (hf : Fr a N fl ds) (hF : ∀ w', S w' → HA w' oF) (hC : HA w oC)
    (k : ∀ a', Fr a' N (fr3 (evXK P R N m (pl.take n) fl os ks)) ds → wpPlan P R m S K (pl.drop n) a' w) (he : ob3 (evXK P R N m (pl.take n) fl os ks) = some (oF, oC) := by kernel_rfl) : wpPlan P R m S K pl a w :=
  p_qS n os _ oF oC hSw hf (keyed_XK.use he) hF hC k
theorem c_E (n : Nat) (os : List Value) (ks : List Nat) (hf : Fr a N fl ds) (hF : HA w oF) (hC : HA w oC)
    (k : ∀ a', Fr a' N (fr3 (evXK P R N m (pl.take n) fl os ks)) ds → wpPlan P R m (fun x => x = w) K (pl.drop n) a' w) (he : ob3 (evXK P R N m (pl.take n) fl os ks) = some (oF, oC) := by kernel_rfl) : wpPlan P R m (fun x => x = w) K pl a w :=
  p_qE n os _ oF oC hf (keyed_XK.use he) hF hC k
theorem c_n (n : Nat) (os : List Value) (ks : List Nat) (hf : Fr a N fl ds) (hC : HA w oC)
    (k : ∀ a', Fr a' N (fr3 (evXK P R N m (pl.take n) fl os ks)) ds → wpPlan P R m (fun _ => True) K (pl.drop n) a' w) (he : ob3 (evXK P R N m (pl.take n) fl os ks) = some ([], oC) := by kernel_rfl) : wpPlan P R m (fun _ => True) K pl a w :=
  p_qn n os _ oC hf (keyed_XK.use he) hC k
theorem c_z (os : List Value) (ks : List Nat) (hf : Fr a N fl ds) (hC : HA w oC)
    (k : ∀ a', Fr a' N (fr3 (evXK P R N m pl fl os ks)) ds → K a' w) (he : ob3 (evXK P R N m pl fl os ks) = some ([], oC) := by kernel_rfl) : wpPlan P R m (fun _ => True) K pl a w :=
  p_qz os _ oC hf (keyed_XK.use he) hC k
theorem c_zE (os : List Value) (ks : List Nat) (hf : Fr a N fl ds) (hF : HA w oF) (hC : HA w oC)
    (k : ∀ a', Fr a' N (fr3 (evXK P R N m pl fl os ks)) ds → K a' w) (he : ob3 (evXK P R N m pl fl os ks) = some (oF, oC) := by kernel_rfl) : wpPlan P R m (fun x => x = w) K pl a w :=
  p_qzE os _ oF oC hf (keyed_XK.use he) hF hC k
theorem c_t (os : List Value) (ks : List Nat) (hf : Fr a N fl ds) (hC : HA w oC)
    (k : ∀ a', Fr a' N (fr3 (evXK P R N m pl fl os ks)) ds → K' a' w) (he : ob3 (evXK P R N m pl fl os ks) = some ([], oC) := by kernel_rfl) : wpPlan P R m (fun _ => True) (fun a w => Exit.then K' Q .normal a w) pl a w :=
  p_qt os _ oC hf (keyed_XK.use he) hC k
theorem c_tE (os : List Value) (ks : List Nat) (hf : Fr a N fl ds) (hF : HA w oF) (hC : HA w oC)
    (k : ∀ a', Fr a' N (fr3 (evXK P R N m pl fl os ks)) ds → K' a' w) (he : ob3 (evXK P R N m pl fl os ks) = some (oF, oC) := by kernel_rfl) : wpPlan P R m (fun x => x = w) (fun a w => Exit.then K' Q .normal a w) pl a w :=
  p_qtE os _ oF oC hf (keyed_XK.use he) hF hC k
theorem c_q (os : List Value) (ks : List Nat) (hf : Fr a N fl ds) (hC : HA w oC)
    (k : ∀ a', Fr a' N (fr3 (evR P c N fl os ks)) ds → Q .normal a' w) (he : ob3 (evR P c N fl os ks) = some ([], oC) := by kernel_rfl) : c.cw ro P Q a w :=
  w_q os _ oC hf (keyed_R.use he) hC k
theorem c_sq (os : List Value) (ks : List Nat) (hf : Fr a N fl ds) (hC : HA w oC)
    (k : ∀ a', Fr a' N (fr3 (evSR P c N fl os ks)) ds → (cr c).cw ro P Q a' w) (he : ob3 (evSR P c N fl os ks) = some ([], oC) := by kernel_rfl) : c.cw ro P Q a w :=
  w_sq os _ oC hf (keyed_SR.use he) hC k
theorem c_qD (pl : List (Nat × Bool)) (m : List Nat) (os : List Value) (ks : List Nat) (hf : Fr a N fl ds) (hF : HA w.drew oF) (hC : HA w.drew oC)
    (k : ∀ a', Fr a' N (fr3 (evRD P c pl m N fl os ks)) ds → Q .normal a' w.drew) (he : ob3 (evRD P c pl m N fl os ks) = some (oF, oC) := by kernel_rfl) : c.cw ro P Q a w :=
  w_qD pl m os _ oF oC hf (keyed_RD.use he) hF hC k
theorem c_sqD (pl : List (Nat × Bool)) (m : List Nat) (os : List Value) (ks : List Nat) (hf : Fr a N fl ds) (hF : HA w.drew oF) (hC : HA w.drew oC)
    (k : ∀ a', Fr a' N (fr3 (evSRD P c pl m N fl os ks)) ds → (cr c).cw ro P Q a' w.drew) (he : ob3 (evSRD P c pl m N fl os ks) = some (oF, oC) := by kernel_rfl) : c.cw ro P Q a w :=
  w_sqD pl m os _ oF oC hf (keyed_SRD.use he) hF hC k

def iAt : List (Nat × Bool) → Nat
  | [] => 0
  | (i, _) :: _ => i
def dAt (R : Array Oper) (pl : List (Nat × Bool)) : Option Nat := match R[iAt pl]? with
  | some o => o.dst
  | none => none
theorem c_call {f : FuncId} {args : Array Value} (hf : Fr a N fl ds)
    {Φ : Value → World → Prop} (hc : Calls P f args w fun e w' => ∃ v, e = .returned v ∧ Φ v w')
    (k : ∀ v w' a', Φ v w' → Fr a' N (putF fl (dAt R pl) v) ds → (m.contains (iAt pl) = false → S w') ∧ wpPlan P R m S K pl.tail a' w')
    (ho : callAt P R N pl fl = some (iAt pl, dAt R pl, f, args) := by kernel_rfl) : wpPlan P R m S K pl a w := p_call hf ho hc k
theorem c_box (cs : List Value) (T : TypeId) (hS : St h L w) (hf : Fr a N fl ds)
    (k : ∀ b w' a', St h (box b cs T :: L) w' → Fr a' N (putF fl (dAt R pl) (.pointer (some ⟨b, 0, none⟩))) ds → (m.contains (iAt pl) = false → S w') ∧ wpPlan P R m S K pl.tail a' w')
    (he : ∀ b, newAt P R N pl fl b = some (iAt pl, dAt R pl, .cells cs.toArray T (0, 0), .pointer (some ⟨b, 0, none⟩)) := by intro b; kernel_rfl) : wpPlan P R m S K pl a w := p_box hS hf he k
def offAt (P : Program) (R : Array Oper) (N : Nat) (pl : List (Nat × Bool)) (fl : FL) : Nat := match storeAt P R N pl fl with
  | some (_, A, _) => A.off
  | none => 0
def vsAt (P : Program) (R : Array Oper) (N : Nat) (pl : List (Nat × Bool)) (fl : FL) : List Value := match storeAt P R N pl fl with
  | some (_, _, vs) => vs
  | none => []
theorem c_st (j : Nat) (cs' : List Value) {b : Nat} {cs : List Value} {T : TypeId} (hS : St h L w) (hf : Fr a N fl ds) (hj : L[j]? = some (box b cs T))
    (k : ∀ w' a', St h (L.set j (box b cs' T)) w' → Fr a' N fl ds → (m.contains (iAt pl) = false → S w') ∧ wpPlan P R m S K pl.tail a' w')
    (ho : storeAt P R N pl fl = some (iAt pl, ⟨b, offAt P R N pl fl, none⟩, vsAt P R N pl fl) := by kernel_rfl)
    (hfit : (Nat.ble (offAt P R N pl fl + (vsAt P R N pl fl).length) cs.length && oneCells (vsAt P R N pl fl)) = true := by kernel_rfl)
    (hcs : splice cs (offAt P R N pl fl) (vsAt P R N pl fl) = cs' := by kernel_rfl) : wpPlan P R m S K pl a w := p_store_eq hS hf hj ho hfit hcs k
theorem c_rt (os : List Value) (v : Value) {fn : Func} {R' : Ending → World → Prop} {obs : List Obl} (hf : Fr a N fl) (hob : HA w obs) (k : R' (.returned v) w) (he : resAt P fn fl os = some (v, obs) := by kernel_rfl) : postM P fn R' .ret a w := p_ret hf he hob k
theorem c_fall (os : List Value) (v : Value) {fn : Func} {R' : Ending → World → Prop} {obs : List Obl} (hf : Fr a N fl) (hob : HA w obs) (k : R' (.returned v) w) (he : resAt P fn fl os = some (v, obs) := by kernel_rfl) : postM P fn R' .normal a w := p_fall hf he hob k

/-! ### Control -/
theorem c_seq (k : (cl c).cw ro P (Exit.then (fun a w => (cr c).cw ro P Q a w) Q) a w) (hc : isSeq c = true := by kernel_rfl) : c.cw ro P Q a w := w_seq hc k
theorem c_block (id : Nat) (k : (cl c).cw ro P (Exit.inBlock id Q) a w) (hc : blockId c = some id := by kernel_rfl) : c.cw ro P Q a w := w_block hc k
theorem c_exit (id : Nat) (k : Q (.exit id) a w) (hc : exitId c = some id := by kernel_rfl) : c.cw ro P Q a w := w_exit hc k
theorem c_ret (k : Q .ret a w) (hc : isRet c = true := by kernel_rfl) : c.cw ro P Q a w := w_ret hc k
theorem c_skip (k : Q .normal a w) (hc : isSkip c = true := by kernel_rfl) : c.cw ro P Q a w := w_skip hc k
theorem c_scope (k : (cl c).cw ro P (Exit.noGoto Q) a w) (hc : isScope c = true := by kernel_rfl) : c.cw ro P Q a w := w_scope hc k
theorem c_if (b : Bool) (hf : Fr a N fl ds) (kt : b = true → (cl c).cw ro P Q a w) (ke : b = false → (cr c).cw ro P Q a w) (hc : condV c fl = some (.bool b) := by kernel_rfl) : c.cw ro P Q a w := w_if hf hc kt ke
theorem c_mid (M : Act → World → Prop) (k1 : (cl c).cw ro P (Exit.then M Q) a w) (k2 : ∀ a w, M a w → (cr c).cw ro P Q a w) (hc : isSeq c = true := by kernel_rfl) : c.cw ro P Q a w := w_mid hc M k1 k2
theorem c_sr (k : wpPlan P (cops (cl c)) [] (fun _ => True) (fun a w => Exit.then (fun a w => (cr c).cw ro P Q a w) Q .normal a w) (planSeq (cl c)) a w) (hc : (isSeq c && (isReg false (cl c) && noDefer (cops (cl c)))) = true := by kernel_rfl) : c.cw ro P Q a w := w_sr hc k
theorem c_reg (k : wpPlan P (cops c) [] (fun _ => True) (fun a w => Q .normal a w) (planSeq c) a w) (hc : (isReg false c && noDefer (cops c)) = true := by kernel_rfl) : c.cw ro P Q a w := w_reg hc k
theorem c_dt (k : K' a w) (hp : pl.isEmpty = true := by kernel_rfl) : wpPlan P R m S (fun a w => Exit.then K' Q .normal a w) pl a w := p_dt hp k
theorem c_done (k : K a w) (hp : pl.isEmpty = true := by kernel_rfl) : wpPlan P R m S K pl a w := p_done hp k
theorem c_loop (T : Nat → Act → World → Prop) (n : Nat) (h0 : T n a w)
    (k : ∀ n a w, T n a w → (cl c).cw ro P (Exit.then (fun a' w' => ∃ j, j < n ∧ T j a' w') Q) a w) (hc : isLoop c = true := by kernel_rfl) : c.cw ro P Q a w := w_loop hc T n h0 k
theorem c_regD (pl : List (Nat × Bool)) (m : List Nat) (S : World → Prop) (hS0 : S w.drew)
    (k : wpPlan P (cops c) m S (fun a w => Q .normal a w) pl a w.drew) (hm : P.follows .mixedOrders = true := by kernel_rfl) (hB : drawOK c pl m = true := by kernel_rfl) : c.cw ro P Q a w := w_regD hm pl m S hB hS0 k
/-! ### Marks of rounds that are over -/
def defsZ : List Nat → Hp → Prop
  | [], z => z = Hp.nil
  | D :: gs, z => ∃ x y, x = Hp.one D (.deferred (some [])) ∧ defsZ gs y ∧ x.apart y ∧ z = x.add y
def defsA (gs : List Nat) : Atom := ⟨fun _ z => defsZ gs z, fun _ _ _ _ h => h⟩
theorem defs0 (s : St h L w) : St h (defsA [] :: L) w := s.addEmp
theorem defsJoin (s : St h L w) {i j D : Nat} {gs : List Nat} (hi : L[i]? = some (defA D)) (hj : L[j]? = some (defsA gs)) (hij : i ≠ j) : St h ((L.set j (defsA (D :: gs))).set i emp) w :=
  s.join hj hi hij fun x y hx hy d => ⟨y, x, hy, hx, Hp.apart_comm d, Hp.add_comm d⟩
theorem p_marks {fn : Func} {R' : Ending → World → Prop} {tmps : Array Value} : ∀ {gs : List Nat} {L : List Atom} {j : Nat} {w : World}, St h L w → L[j]? = some (defsA gs) → (∀ w', St h (L.set j emp) w' → outM P fn R' tmps ds w') → outM P fn R' tmps (gs ++ ds) w
  | [], L, j, w, hS, hj, k => k w (by
      have e : L.set j emp = L := set_same hj
      rw [e]; exact hS)
  | D :: gs, L, j, w, hS, hj, k => by
    have h1 := hS.split (B := defA D) (C := defsA gs) hj fun z ⟨x, y, hx, hy, d, e⟩ => ⟨x, y, hx, hy, d, e⟩
    have hlt := (List.getElem?_eq_some_iff.1 hj).1
    refine p_mark h1 (j := 0) rfl fun w2 h2 => ?_
    refine p_marks (gs := gs) (j := j + 1) h2 (by simp [hlt]) fun w3 h3 => k w3 ?_
    have h4 := St.drop 1 h3
    simpa using h4
theorem p_marksE {fn : Func} {R' : Ending → World → Prop} {tmps : Array Value} {gs : List Nat} {j : Nat} (hS : St h L w) (hj : L[j]? = some (defsA gs)) (k : ∀ w', St h (L.set j emp) w' → outM P fn R' tmps [] w') : outM P fn R' tmps gs w := by
  have := p_marks (ds := []) hS hj k
  rwa [List.append_nil] at this
end Go.Sx
