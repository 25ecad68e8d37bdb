/-
  A part of the walk and of the plain law of one given statement. No condition.
-/
import Derived.Test.YtlkffcddfpghkaaGreatDoorKe
import Derived.Shelf.Strings.BuilderK
import Derived.Shelf.Strings.Split
import Derived.Shelf.Strings.FieldsFuncAny
import Derived.Shelf.Strings.SlTrimAscii
import Derived.Shelf.Strconv.AtoiAll
import Derived.Shelf.Strconv.Itoa3
import Derived.Shelf.Small.Wraps
import Derived.Lib.SlicesCompact
import Derived.Test.YtlkffcddfpghkaaGreatDoorProg
set_option linter.unusedVariables false
set_option linter.unusedSimpArgs false
namespace Go.K
open Go.Sl Go.Sx
variable {e e' e0 : KE} {σ σ' : List Blk} {As As0 L0 L A' : List Atom} {P : Program} {w : World} {N : Nat} {ρ : Type} {z : Zone}
abbrev AT := Bool × TC
abbrev tt : List AT → Type
  | [] => Unit
  | [u] => u.2.den
  | u :: v :: l => u.2.den × tt (v :: l)
def fromA (u : AT) (x : u.2.den) : SV := bif u.1 then .agg (u.2.exp x) else (u.2.exp x).headD .any
def toA (u : AT) (s : SV) : Option u.2.den := match (bif u.1 then (match s with | .agg cs => some cs | _ => none) else some [s]) with
  | some l => match u.2.ofL l with
    | some (x, []) => some x
    | _ => none
  | none => none
def repA (z : Zone) (u : AT) (v : Value) (x : u.2.den) : Prop := (u.1 = true ∧ ∃ cs, v = .agg cs.toArray ∧ u.2.ty.rep z cs x) ∨ (u.1 = false ∧ u.2.ty.rep z [v] x)
theorem fromA_is {u : AT} {v : Value} {x : u.2.den} (h : repA e.z u v x) : Is e (fromA u x) v := by
  unfold fromA
  rcases h with ⟨h1, cs, rfl, h2⟩ | ⟨h1, h2⟩
  · rw [h1]; exact .agg (exp_is u.2 h2)
  · rw [h1]
    have := exp_is (e := e) u.2 h2
    revert this
    generalize u.2.exp x = l
    intro this
    cases this with
    | cons a b => exact a
theorem toA_rep {u : AT} {v : Value} {s : SV} {x : u.2.den} (h : toA u s = some x) (k : Is e s v) : repA e.z u v x := by
  obtain ⟨g, u⟩ := u
  unfold toA at h
  cases g with
  | true =>
    simp only [cond_true] at h
    cases k with
    | agg hl =>
      simp only at h
      split at h
      · rename_i y hy
        cases h
        obtain ⟨v1, v2, q1, q2, q3⟩ := ofL_is u hy hl
        cases q3
        rw [List.append_nil] at q1
        subst q1
        exact .inl ⟨rfl, _, rfl, q2⟩
      · cases h
    | _ => cases h
  | false =>
    simp only [cond_false] at h
    split at h
    · rename_i y hy
      cases h
      obtain ⟨v1, v2, q1, q2, q3⟩ := ofL_is u hy (.cons k .nil)
      cases q3
      rw [List.append_nil] at q1
      subst q1
      exact .inr ⟨rfl, q2⟩
    · cases h
def fromAs : (l : List AT) → tt l → List SV
  | [], _ => []
  | [u], x => [fromA u x]
  | u :: v :: l, x => fromA u x.1 :: fromAs (v :: l) x.2
def toAs : (l : List AT) → List SV → Option (tt l)
  | [], [] => some ()
  | [u], [s] => toA u s
  | u :: v :: l, s :: r => match toA u s, toAs (v :: l) r with
    | some x, some y => some (x, y)
    | _, _ => none
  | _, _ => none
def repAs (z : Zone) : (l : List AT) → List Value → tt l → Prop
  | [], vs, _ => vs = []
  | [u], vs, x => ∃ v, vs = [v] ∧ repA z u v x
  | u :: v :: l, vs, x => ∃ a r, vs = a :: r ∧ repA z u a x.1 ∧ repAs z (v :: l) r x.2
theorem fromAs_is : ∀ {l : List AT} {vs : List Value} {x : tt l}, repAs e.z l vs x → IsL e (fromAs l x) vs
  | [], vs, x, h => by cases h; exact .nil
  | [u], vs, x, ⟨v, h1, h2⟩ => by subst h1; exact .cons (fromA_is h2) .nil
  | u :: v :: l, vs, x, ⟨a, r, h1, h2, h3⟩ => by subst h1; exact .cons (fromA_is h2) (fromAs_is (l := v :: l) h3)
theorem toAs_rep : ∀ {l : List AT} {s : List SV} {vs : List Value} {x : tt l}, toAs l s = some x → IsL e s vs → repAs e.z l vs x
  | [], [], vs, x, h, k => by cases k; rfl
  | [u], [s], vs, x, h, k => by
    cases k with
    | cons a b => cases b; exact ⟨_, rfl, toA_rep h a⟩
  | u :: v :: l, s :: r, vs, x, h, k => by
    simp only [toAs] at h
    split at h
    · rename_i y1 y2 h1 h2
      cases h
      cases k with
      | cons a b => exact ⟨_, _, rfl, toA_rep h1 a, toAs_rep (l := v :: l) h2 b⟩
    · cases h
  | [], _ :: _, _, _, h, _ => by cases h
  | [u], [], _, _, h, _ => by cases h
  | [u], _ :: _ :: _, _, _, h, _ => by cases h
  | u :: v :: l, [], _, _, h, _ => by cases h
def fromR (l : List AT) (x : tt l) : SV := resT (fromAs l x)
def toR (l : List AT) (s : SV) : Option (tt l) := match l, s with
  | [u], s => toA u s
  | l, .tup r => toAs l r
  | _, _ => none
def repR (z : Zone) (l : List AT) (v : Value) (x : tt l) : Prop := ∃ vs, v = resV vs ∧ repAs z l vs x
theorem fromR_is {l : List AT} {v : Value} {x : tt l} (h : repR e.z l v x) : Is e (fromR l x) v := by
  obtain ⟨vs, rfl, h⟩ := h
  exact resT_is (fromAs_is h)
theorem toAs_nil (u : AT) (l : List AT) : toAs (u :: l) [] = none := by cases l <;> rfl
theorem toR_rep : ∀ {l : List AT} {s : SV} {v : Value} {x : tt l}, toR l s = some x → Is e s v → repR e.z l v x
  | [u], s, v, x, h, k => ⟨[v], rfl, v, rfl, toA_rep h k⟩
  | [], s, v, x, h, k => by
    cases k with
    | tup hl =>
      cases hl with
      | nil => exact ⟨[], rfl, rfl⟩
      | cons => cases h
    | _ => cases h
  | u :: u' :: l, s, v, x, h, k => by
    cases k with
    | tup hl =>
      rename_i r vs
      refine ⟨vs, ?_, toAs_rep (l := u :: u' :: l) h hl⟩
      cases hl with
      | nil => cases h
      | cons a b =>
        cases b with
        | nil =>
          simp only [toR, toAs, toAs_nil] at h
          split at h
          · rename_i h2; cases h2
          · cases h
        | cons c d => rfl
    | _ => cases h
def cellsL (l : List SV) : List SV := l.flatMap fun s => (svC s).getD []
def cellsT : SV → List SV
  | .tup l => cellsL l
  | s => cellsL [s]
structure Env where
  P : Zone → Prop
  mono : ∀ {z z' : Zone}, z.le z' → P z → P z'
def envA (E : Env) : Atom := ⟨fun z x => E.P z ∧ x = Hp.nil, fun _ _ _ k h => ⟨E.mono k h.1, h.2⟩⟩
theorem envA_in {E : Env} (h : E.P z) (s : St z L w) : St z (envA E :: L) w := by
  obtain ⟨x, hx, hd, hb, hw⟩ := s.sep
  exact ⟨⟨x, ⟨Hp.nil, x, ⟨h, rfl⟩, hx, Hp.apart_comm (Hp.apart_nil _), rfl⟩, hd, hb, hw⟩, s.os, s.tape, s.output⟩
theorem envA_mem {E : Env} (s : St z L w) (h : envA E ∈ L) : E.P z := by
  obtain ⟨i, hi⟩ := List.getElem?_of_mem h
  obtain ⟨x, hx, _⟩ := s.focus hi
  exact hx.1
def Valid (E : Env) (P : Program) (g : FuncId) (az rs : List AT) (F : tt az → Option (tt rs)) : Prop := ∀ {x : tt az} {y : tt rs}, F x = some y → ∀ {z : Zone} {L : List Atom} {w : World} {vs : List Value}, E.P z → repAs z az vs x → St z L w →
  Calls P g vs.toArray w fun en w' => ∃ v z', en = .returned v ∧ z.le z' ∧ repR z' rs v y ∧ St z' L w'
def flatR (rs : List AT) : Bool := rs.all fun u => u.2.flat
theorem flat_repA {z z2 : Zone} {u : AT} {v : Value} {x : u.2.den} (hf : u.2.flat = true) (h : repA z u v x) : repA z2 u v x := by
  rcases h with ⟨h1, cs, rfl, h2⟩ | ⟨h1, h2⟩
  · exact .inl ⟨h1, cs, rfl, flat_any hf h2⟩
  · exact .inr ⟨h1, flat_any hf h2⟩
theorem flat_repAs {z z2 : Zone} : ∀ {l : List AT} {vs : List Value} {x : tt l}, flatR l = true → repAs z l vs x → repAs z2 l vs x
  | [], _, _, _, h => h
  | [u], _, _, hf, ⟨v, h1, h2⟩ => ⟨v, h1, flat_repA (by simpa [flatR] using hf) h2⟩
  | u :: u' :: l, _, _, hf, ⟨a, r, h1, h2, h3⟩ => by
    simp only [flatR, List.all_cons, Bool.and_eq_true] at hf
    exact ⟨a, r, h1, flat_repA hf.1 h2, flat_repAs (l := u' :: l) (by simpa [flatR] using hf.2) h3⟩
theorem flat_repR {z z2 : Zone} {l : List AT} {v : Value} {x : tt l} (hf : flatR l = true) (h : repR z l v x) : repR z2 l v x := by
  obtain ⟨vs, rfl, h⟩ := h
  exact ⟨vs, rfl, flat_repAs hf h⟩
def dataCon (az rs : List AT) (F : tt az → Option (tt rs)) : Con where
  run := fun args m k => bif flatR rs then (match toAs az (args.map (lndS m.σ)) with
    | some x => (F x).bind fun y => k (.val (fromR rs y)) m
    | none => none) else
    let m1 := frzL m (cellsL args)
    match toAs az (args.map (res m1.σ)) with
    | some x => (F x).bind fun y => k (.val (fromR rs y)) m1
    | none => none
theorem resAll_is (m : Mem e σ As) : ∀ {l : List SV} {vs : List Value}, IsL e l vs → IsL e (l.map (res σ)) vs
  | _, _, .nil => .nil
  | _, _, .cons h t => .cons (res_is m h) (resAll_is m t)
variable {E : Env}
theorem dataCon_ok {g : FuncId} {az rs : List AT} {F : tt az → Option (tt rs)} (h : Valid E P g az rs F) {L0 : List Atom} (hE : envA E ∈ L0) : ConOk P L0 (dataCon az rs F) g := by
  intro ρ args vs m e As w k r hr h1 h2 hl
  simp only [dataCon] at hr
  cases hfr : flatR rs with
  | true =>
    rw [hfr] at hr
    simp only [cond_true] at hr
    split at hr
    · rename_i x hx
      obtain ⟨y, hy, hk⟩ := bind_some hr
      obtain ⟨z1, hle, hs1, hA, hback⟩ := lendAll h2
      have hrep := toAs_rep hx (lndL_is h1 hle hA hl)
      refine Calls.mono (h hy (E.mono hle (envA_mem h2 (List.mem_append_right _ hE))) hrep hs1) ?_
      rintro en w' ⟨v, z', rfl, hz, hr, hs⟩
      obtain ⟨z3, hle3, hs3⟩ := hback hz hs
      have hke : e.le ⟨z3, e.bs⟩ := ⟨hle3, [], rfl⟩
      exact ⟨_, _, ⟨z3, e.bs⟩, As, hk, ⟨v, rfl, fromR_is (flat_repR hfr hr)⟩, ⟨hke, .refl _, fun _ => ⟨[], rfl⟩⟩, h1.mono hke rfl, hs3⟩
    · cases hr
  | false =>
  rw [hfr] at hr
  simp only [cond_false] at hr
  split at hr
  · rename_i x hx
    obtain ⟨y, hy, hk⟩ := bind_some hr
    obtain ⟨e1, A1, g1, g2, g3⟩ := frzL_ok (cellsL args) h1 h2
    have hrep := toAs_rep hx (resAll_is g2 (hl.mono g1.le))
    refine Calls.mono (h hy (envA_mem g3 (List.mem_append_right _ hE)) hrep g3) ?_
    rintro en w' ⟨v, z', rfl, hz, hr, hs⟩
    have hle : e1.le ⟨z', e1.bs⟩ := ⟨hz, [], rfl⟩
    exact ⟨_, _, ⟨z', e1.bs⟩, A1, hk, ⟨v, rfl, fromR_is hr⟩, g1.trans ⟨hle, .refl _, fun _ => ⟨[], rfl⟩⟩, g2.mono hle rfl, hs⟩
  · cases hr
def resTup (σ : List Blk) : SV → SV
  | .tup l => .tup (l.map (res σ))
  | s => res σ s
theorem resTup_is (m : Mem e σ As) {s : SV} {v : Value} (k : Is e s v) : Is e (resTup σ s) v := by
  unfold resTup
  split
  · cases k with
    | tup hl => exact .tup (resAll_is m hl)
  · exact res_is m k
def kD (rs : List AT) (c : CR) (m : KM) : Option (tt rs) := match c with
  | .val s => let m1 := frzL m (cellsT s); toR rs (resTup m1.σ s)
  | .pan _ => none
theorem kD_ok {rs : List AT} {c : CR} {m : KM} {y : tt rs} {en : Ending} (h : kD rs c m = some y) (hc : CallEnd e c en) (hm : Mem e m.σ As) (hs : St e.z (As ++ L) w) : ∃ v z', en = .returned v ∧ e.z.le z' ∧ repR z' rs v y ∧ St z' L w := by
  cases c with
  | pan s => cases h
  | val s =>
    obtain ⟨v, rfl, hv⟩ := hc
    obtain ⟨e3, A3, g1, g2, g3⟩ := frzL_ok (cellsT s) hm hs
    exact ⟨v, e3.z, rfl, g1.le.z, toR_rep h (resTup_is g2 (hv.mono g1.le)), by
      have := St.drop A3.length g3
      rwa [List.drop_left] at this⟩
noncomputable def fnX {ρ : Type} (P : Program) (C : FuncId → Option Con) (SP : FuncId → Sp) (lf : Nat) (g : FuncId) (args : List SV) (m : KM) (k : CR → KM → Option ρ) : Option ρ := match P.funcs[g]? with
  | some fn => match fn.body with
    | some body => exec P C SP lf 1000 true g (args.length + (fn.ntmps - args.length)) body ⟨argS args, m, [], false⟩ (endK P fn (rdF P C SP lf 999 ρ) k)
    | none => none
  | none => none
theorem fnX_ok {Cl : List Atom → Prop} (hup : ∀ A L, Cl L → Cl (A :: L)) {C : FuncId → Option Con} {SP : FuncId → Sp} {lf : Nat} (hP : P.follows .mixedOrders = true) (hC : ∀ L, Cl L → ∀ g con, C g = some con → ConOk P L con g) (hcl : Cl L0) {g : FuncId} {args : List SV} {m : KM} {k : CR → KM → Option ρ} {r : ρ} (h : fnX P C SP lf g args m k = some r)
    {vs : List Value} (h1 : Mem e m.σ As) (h2 : St e.z (As ++ L0) w) (hl : IsL e args vs) : Calls P g vs.toArray w (CallR L0 e As m k r) := by
  unfold fnX at h
  split at h
  · rename_i fn hfn
    split at h
    · rename_i body hb
      have hlen := hl.len
      refine calls_intro (N := args.length + (fn.ntmps - args.length)) hfn (by simp [hb, hlen]) fun a hf => ?_
      have hbody : bodyOf fn = body := by simp [bodyOf, hb]
      rw [hbody]
      have hkr : KR (args.length + (fn.ntmps - args.length)) L0 e As (argFL vs.toArray) [] ⟨argS args, m, [], false⟩ a w := ⟨hf, argS_is 0 hl, h1, h2, trivial, fun _ => rfl⟩
      exact exec_ok hup hP hC 1000 hcl h (fun _ => rfl) hkr fun x s' e' As' flv' dv' a' w' X q1 q2 q3 q4 q5 q6 => endK_ok (fun ms => rd_ok (exec_ok hup hP hC 999) (cl_marks hup hcl ms)) q1 q5 q6 q4 fun _ _ h => h
    · cases h
  · cases h
noncomputable def fnF (P : Program) (C : FuncId → Option Con) (SP : FuncId → Sp) (g : FuncId) (az rs : List AT) (lf : Nat) (x : tt az) : Option (tt rs) := fnX P C SP lf g (fromAs az x) ⟨[], []⟩ (kD rs)
theorem env_up {E : Env} (A : Atom) (L : List Atom) (h : envA E ∈ L) : envA E ∈ A :: L := List.mem_cons_of_mem _ h
theorem fnF_valid {C : FuncId → Option Con} {SP : FuncId → Sp} (hP : P.follows .mixedOrders = true) (hC : ∀ L, envA E ∈ L → ∀ g con, C g = some con → ConOk P L con g) (g : FuncId) (az rs : List AT) (lf : Nat) : Valid E P g az rs (fnF P C SP g az rs lf) := by
  intro x y hx z L w vs hz hrep hs
  refine Calls.mono (fnX_ok (Cl := fun L => envA E ∈ L) env_up (e := ⟨z, []⟩) (As := []) (L0 := envA E :: L) hP hC (List.mem_cons_self ..) hx ⟨rfl, rfl, fun h => by cases h⟩ (envA_in hz hs) (fromAs_is hrep)) ?_
  rintro en w' ⟨c, m', e', As', k1, k2, k3, k4, k5⟩
  obtain ⟨v, z', h1, h2, h3, h4⟩ := kD_ok k1 k2 k4 k5
  exact ⟨v, z', h1, Zone.le_trans k3.le.z h2, h3, h4.tail⟩
def extC (C : FuncId → Option Con) (g : FuncId) (c : Con) : FuncId → Option Con := fun f => bif Nat.beq f g then some c else C f
theorem extC_ok {C : FuncId → Option Con} {g : FuncId} {c : Con} (hC : ∀ g con, C g = some con → ConOk P L0 con g) (hc : ConOk P L0 c g) : ∀ f con, extC C g c f = some con → ConOk P L0 con f := by
  intro f con h
  unfold extC at h
  cases hb : Nat.beq f g with
  | true =>
    rw [hb] at h
    have := Nat.eq_of_beq_eq_true hb
    subst this
    cases h; exact @hc
  | false => rw [hb] at h; exact hC f con h
end Go.K
namespace Go.K
open Go.Sl Go.Sx
variable {e e' e0 : KE} {σ σ' : List Blk} {As As0 L0 L A' : List Atom} {P : Program} {w : World} {N : Nat} {ρ : Type} {z : Zone} {E : Env}
def bts (l : List Nat) : ByteArray := ⟨(l.map UInt8.ofNat).toArray⟩
def sm {α β ρ : Type} (y : α ⊕ β) (f : α → Option ρ) (g : β → Option ρ) : Option ρ := match y with
  | .inl a => f a
  | .inr b => g b
def endP (z : Zone) (rs : List AT) (T : TypeId) (u : AT) : tt rs ⊕ u.2.den → Ending → Prop
  | .inl y, en => ∃ v, en = .returned v ∧ repR z rs v y
  | .inr p, en => ∃ v, en = .panicked (pch (.iface T v)) ∧ repA z u v p
def ValidP (E : Env) (P : Program) (g : FuncId) (az rs : List AT) (T : TypeId) (u : AT) (F : tt az → Option (tt rs ⊕ u.2.den)) : Prop := ∀ {x : tt az} {y : tt rs ⊕ u.2.den}, F x = some y → ∀ {z : Zone} {L : List Atom} {w : World} {vs : List Value}, E.P z → repAs z az vs x → St z L w →
  Calls P g vs.toArray w fun en w' => ∃ z', z.le z' ∧ endP z' rs T u y en ∧ St z' L w'
def panCon (az rs : List AT) (T : TypeId) (u : AT) (F : tt az → Option (tt rs ⊕ u.2.den)) : Con where
  run := fun args m k => bif flatR rs && u.2.flat then (match toAs az (args.map (lndS m.σ)) with
    | some x => (F x).bind fun y => sm y (fun v => k (.val (fromR rs v)) m) (fun p => k (.pan (.ifc T (fromA u p))) m)
    | none => none) else
    let m1 := frzL m (cellsL args)
    match toAs az (args.map (res m1.σ)) with
    | some x => (F x).bind fun y => sm y (fun v => k (.val (fromR rs v)) m1) (fun p => k (.pan (.ifc T (fromA u p))) m1)
    | none => none
theorem panCon_ok {g : FuncId} {az rs : List AT} {T : TypeId} {u : AT} {F : tt az → Option (tt rs ⊕ u.2.den)} (h : ValidP E P g az rs T u F) {L0 : List Atom} (hE : envA E ∈ L0) : ConOk P L0 (panCon az rs T u F) g := by
  intro ρ args vs m e As w k r hr h1 h2 hl
  simp only [panCon] at hr
  cases hfr : (flatR rs && u.2.flat) with
  | true =>
    rw [hfr] at hr
    simp only [cond_true] at hr
    simp only [Bool.and_eq_true] at hfr
    split at hr
    · rename_i x hx
      obtain ⟨y, hy, hk⟩ := bind_some hr
      obtain ⟨z1, hle, hs1, hA, hback⟩ := lendAll h2
      have hrep := toAs_rep hx (lndL_is h1 hle hA hl)
      refine Calls.mono (h hy (E.mono hle (envA_mem h2 (List.mem_append_right _ hE))) hrep hs1) ?_
      rintro en w' ⟨z', hz, hr, hs⟩
      obtain ⟨z3, hle3, hs3⟩ := hback hz hs
      have hke : e.le ⟨z3, e.bs⟩ := ⟨hle3, [], rfl⟩
      cases y with
      | inl y =>
        obtain ⟨v, rfl, hr⟩ := hr
        exact ⟨_, _, ⟨z3, e.bs⟩, As, hk, ⟨v, rfl, fromR_is (flat_repR hfr.1 hr)⟩, ⟨hke, .refl _, fun _ => ⟨[], rfl⟩⟩, h1.mono hke rfl, hs3⟩
      | inr p =>
        obtain ⟨v, rfl, hr⟩ := hr
        exact ⟨_, _, ⟨z3, e.bs⟩, As, hk, ⟨_, rfl, .ifc (fromA_is (e := ⟨z3, e.bs⟩) (flat_repA hfr.2 hr))⟩, ⟨hke, .refl _, fun _ => ⟨[], rfl⟩⟩, h1.mono hke rfl, hs3⟩
    · cases hr
  | false =>
  rw [hfr] at hr
  simp only [cond_false] at hr
  split at hr
  · rename_i x hx
    obtain ⟨y, hy, hk⟩ := bind_some hr
    obtain ⟨e1, A1, g1, g2, g3⟩ := frzL_ok (cellsL args) h1 h2
    have hrep := toAs_rep hx (resAll_is g2 (hl.mono g1.le))
    refine Calls.mono (h hy (envA_mem g3 (List.mem_append_right _ hE)) hrep g3) ?_
    rintro en w' ⟨z', hz, hr, hs⟩
    have hle : e1.le ⟨z', e1.bs⟩ := ⟨hz, [], rfl⟩
    have hgo := g1.trans (⟨hle, .refl _, fun _ => ⟨[], rfl⟩⟩ : Go1 e1 A1 (frzL m (cellsL args)) ⟨z', e1.bs⟩ A1 (frzL m (cellsL args)))
    cases y with
    | inl y =>
      obtain ⟨v, rfl, hr⟩ := hr
      exact ⟨_, _, ⟨z', e1.bs⟩, A1, hk, ⟨v, rfl, fromR_is hr⟩, hgo, g2.mono hle rfl, hs⟩
    | inr p =>
      obtain ⟨v, rfl, hr⟩ := hr
      exact ⟨_, _, ⟨z', e1.bs⟩, A1, hk, ⟨_, rfl, .ifc (fromA_is (e := ⟨z', e1.bs⟩) hr)⟩, hgo, g2.mono hle rfl, hs⟩
  · cases hr
def kDP (rs : List AT) (T : TypeId) (u : AT) (c : CR) (m : KM) : Option (tt rs ⊕ u.2.den) := match c with
  | .val s => let m1 := frzL m (cellsT s); match toR rs (resTup m1.σ s) with
    | some y => some (.inl y)
    | none => none
  | .pan (.ifc T' s) => bif Nat.beq T' T then (let m1 := frzL m (cellsL [s]); match toA u (res m1.σ s) with
    | some p => some (.inr p)
    | none => none) else none
  | .pan _ => none
theorem kDP_ok {rs : List AT} {T : TypeId} {u : AT} {c : CR} {m : KM} {y : tt rs ⊕ u.2.den} {en : Ending} (h : kDP rs T u c m = some y) (hc : CallEnd e c en) (hm : Mem e m.σ As) (hs : St e.z (As ++ L) w) : ∃ z', e.z.le z' ∧ endP z' rs T u y en ∧ St z' L w := by
  unfold kDP at h
  split at h
  · rename_i s
    obtain ⟨v, rfl, hv⟩ := hc
    obtain ⟨e3, A3, g1, g2, g3⟩ := frzL_ok (cellsT s) hm hs
    simp only at h
    split at h
    · rename_i y' hy
      cases h
      exact ⟨e3.z, g1.le.z, ⟨v, rfl, toR_rep hy (resTup_is g2 (hv.mono g1.le))⟩, by
        have := St.drop A3.length g3
        rwa [List.drop_left] at this⟩
    · cases h
  · rename_i T' s
    cases hb : Nat.beq T' T with
    | false => rw [hb] at h; cases h
    | true =>
      rw [hb] at h
      simp only [cond_true] at h
      have := Nat.eq_of_beq_eq_true hb
      subst this
      obtain ⟨v, rfl, hv⟩ := hc
      cases hv with
      | ifc hv =>
        obtain ⟨e3, A3, g1, g2, g3⟩ := frzL_ok (cellsL [s]) hm hs
        split at h
        · rename_i p hp
          cases h
          exact ⟨e3.z, g1.le.z, ⟨_, rfl, toA_rep hp (res_is g2 (hv.mono g1.le))⟩, by
            have := St.drop A3.length g3
            rwa [List.drop_left] at this⟩
        · cases h
  · cases h
noncomputable def fnP (P : Program) (C : FuncId → Option Con) (SP : FuncId → Sp) (g : FuncId) (az rs : List AT) (T : TypeId) (u : AT) (lf : Nat) (x : tt az) : Option (tt rs ⊕ u.2.den) := fnX P C SP lf g (fromAs az x) ⟨[], []⟩ (kDP rs T u)
theorem fnP_valid {C : FuncId → Option Con} {SP : FuncId → Sp} (hP : P.follows .mixedOrders = true) (hC : ∀ L, envA E ∈ L → ∀ g con, C g = some con → ConOk P L con g) (g : FuncId) (az rs : List AT) (T : TypeId) (u : AT) (lf : Nat) : ValidP E P g az rs T u (fnP P C SP g az rs T u lf) := by
  intro x y hx z L w vs hz hrep hs
  refine Calls.mono (fnX_ok (Cl := fun L => envA E ∈ L) env_up (e := ⟨z, []⟩) (As := []) (L0 := envA E :: L) hP hC (List.mem_cons_self ..) hx ⟨rfl, rfl, fun h => by cases h⟩ (envA_in hz hs) (fromAs_is hrep)) ?_
  rintro en w' ⟨c, m', e', As', k1, k2, k3, k4, k5⟩
  obtain ⟨z', h2, h3, h4⟩ := kDP_ok k1 k2 k4 k5
  exact ⟨z', Zone.le_trans k3.le.z h2, h3, h4.tail⟩
theorem rec_valid {C : FuncId → Option Con} {SP : FuncId → Sp} {g : FuncId} {az rs : List AT} {lf : Nat} (hP : P.follows .mixedOrders = true) (hC : ∀ L, envA E ∈ L → ∀ g con, C g = some con → ConOk P L con g) {F : Nat → tt az → Option (tt rs)}
    (h0 : ∀ x, F 0 x = none) (hs : ∀ n x, F (n + 1) x = fnF P (extC C g (dataCon az rs (F n))) SP g az rs lf x) : ∀ n, Valid E P g az rs (F n)
  | 0 => by
    intro hx
    rw [h0] at hx; cases hx
  | n + 1 => by
    intro hx
    rw [hs] at hx
    exact fnF_valid hP (fun L hL => extC_ok (hC L hL) (dataCon_ok (rec_valid hP hC h0 hs n) hL)) g az rs lf hx
end Go.K
namespace Go.Sx
open Go.Sl Go.Shelf Go.Proofs Go.RowKit
variable {P : Program} {ρ : Ren} {h h' : Zone} {L M : List Atom} {w w' W0 : World}
theorem _root_.Go.Sl.St.of_below (hS : St h L w) (b : Below w.heap.size w w') : St h L w' := by
  obtain ⟨z, hz, hd, hb, hzw⟩ := hS.sep
  have up : ∀ {u : Hp}, u.le (fun b => w.heap[b]?) → u.le (fun b => w'.heap[b]?) := fun {u} hu k o e => by
    have h1 := hu k o e
    have hlt : k < w.heap.size := (Array.getElem?_eq_some_iff.1 h1).1
    exact (b.block k hlt).trans h1
  exact ⟨⟨z, hz, hd, up hb, up hzw⟩, b.os.trans hS.os, b.tape.trans hS.tape, b.output.trans hS.output⟩
theorem _root_.Go.Sl.St.of_below_new (hS : St h L w) (b : Below w.heap.size w w') {k : Nat} {o : Obj} (hk : w.heap.size ≤ k) (ho : w'.heap[k]? = some o) (A : Atom) (hA : A.P h (Hp.one k o)) : St h (A :: L) w' := by
  obtain ⟨z, hz, hd, hb, hzw⟩ := hS.sep
  have up : ∀ {u : Hp}, u.le (fun b => w.heap[b]?) → u.le (fun b => w'.heap[b]?) := fun {u} hu k o e => by
    have h1 := hu k o e
    have hlt : k < w.heap.size := (Array.getElem?_eq_some_iff.1 h1).1
    exact (b.block k hlt).trans h1
  have away : ∀ {u : Hp}, u.le (fun b => w.heap[b]?) → u k = none := fun {u} hu => by
    cases e : u k with
    | none => rfl
    | some o' => have h1 := (Array.getElem?_eq_some_iff.1 (hu k o' e)).1; omega
  have d1 : (Hp.one k o).apart z := Hp.one_apart.2 (away hzw)
  have d2 : (Hp.one k o).apart h.blk := Hp.one_apart.2 (away hb)
  exact ⟨⟨(Hp.one k o).add z, ⟨_, z, hA, hz, d1, rfl⟩, Hp.apart_add.2 ⟨Hp.apart_comm d2, hd⟩, up hb, Hp.add_le (Hp.one_le.2 ho) (up hzw)⟩, b.os.trans hS.os, b.tape.trans hS.tape, b.output.trans hS.output⟩
theorem _root_.Go.Sl.St.whole (hS : St h L w) : h.le (Zone.all w) := by
  obtain ⟨z, hz, hd, hb, hzw⟩ := hS.sep
  exact ⟨hb, hS.os, hS.tape, hS.output⟩
theorem _root_.Go.Sl.St.under (hS : St h' L w) (k : h.le h') : St h [] w := by
  obtain ⟨z, hz, hd, hb, hzw⟩ := hS.sep
  exact ⟨⟨Hp.nil, rfl, Hp.apart_nil _, Hp.le_trans k.blk hb, Hp.nil_le _⟩, hS.os.trans k.os, hS.tape.trans k.tape, hS.output.trans k.output⟩
def Env (P : Program) (g : Nat) (h : Zone) : Prop :=
  (∀ L w, St h L w → Lib.TabIs P w "internal/strconv.uint64pow10" .u64 Lib.pow10Tab) ∧ ∃ m, h.cell? ⟨g, 0, none⟩ = some (.int .i64 m)
theorem Env.mono {g : Nat} (k : h.le h') (e : Env P g h) : Env P g h' := ⟨fun L w hS => e.1 [] w (hS.under k), let ⟨m, hm⟩ := e.2; ⟨m, k.cell hm⟩⟩
def itoaC (n : Int) : Option ByteArray := if -9223372036854775808 ≤ n ∧ n ≤ 9223372036854775807 then some ⟨(Lib.itoa n).toArray⟩ else none
theorem itoa_ok (Ly : LaysM.n171 P ρ) {g : Nat} (hE : Env P g h) {n : Int} {s : ByteArray} (hn : itoaC n = some s) (hS : St h L w) :
    Calls P (ρ.f 171) #[.int .i64 n] w fun e w' => ∃ v, e = .returned v ∧ (v = .string s ∧ St h L w') := by
  unfold itoaC at hn
  split at hn
  · rename_i hc
    simp only [Option.some.injEq] at hn
    subst hn
    refine (Any.strconv_Itoa Ly n hc.1 hc.2 w (hE.1 L w hS)).mono ?_
    rintro e w' ⟨rfl, k, os, rfl⟩
    refine ⟨_, rfl, rfl, hS.of_below ⟨rfl, rfl, rfl, ?_, fun b hb => ?_⟩⟩
    · simp [Sort.grow, World.drewN]
    · simp only [Sort.grow, World.drewN]
      rw [Array.getElem?_append_left hb]
  · cases hn
def atoiC (s : ByteArray) : Option Int := if s.size ≤ 9223372036854775806 then match Lib.atoiAll s.data.toList with | .ok v => some v | _ => none else none
theorem atoi_ok (Ly : LaysC.n172 P ρ) {n : Int} {s : ByteArray} (hn : atoiC s = some n) (hS : St h L w) :
    Calls P (ρ.f 172) #[.string s] w fun e w' => ∃ v, e = .returned v ∧ (v = .tuple #[.int .i64 n, .nilIface] ∧ St h L w') := by
  unfold atoiC at hn
  split at hn
  · rename_i hc
    split at hn
    · rename_i v hv
      simp only [Option.some.injEq] at hn
      subst hn
      refine (Any.strconv_Atoi_ok Ly s hc v hv w).mono ?_
      rintro e w' ⟨rfl, hw⟩
      refine ⟨_, rfl, rfl, hS.of_below ?_⟩
      rcases hw with rfl | ⟨t, rfl⟩
      · exact Below.refl _ _
      · unfold Lib.bytesWorld
        exact Lib.below_freeze (((Below.refl _ _).drew).alloc (Nat.le_refl _) _) (Nat.le_refl _) _
    · cases hn
  · cases hn
def trimC (s c : ByteArray) : Option ByteArray := if s.size ≤ 9223372036854775807 ∧ c.size < 4294967281 ∧ c.data.toList.all (fun b => decide (b.toNat < 128)) = true then some ⟨(Lib.trimS s.data.toList c.data.toList).toArray⟩ else none
theorem trim_ok (Ly : Lays.n160 P ρ) (h116 : (P.info? (ρ.t 116)).map (fun i => (i.zero, i.size)) = some (some (.agg (Array.replicate 256 (.bool false))), 256)) {s c r : ByteArray} (hn : trimC s c = some r) (hS : St h L w) :
    Calls P (ρ.f 160) #[.string s, .string c] w fun e w' => ∃ v, e = .returned v ∧ (v = .string r ∧ St h L w') := by
  unfold trimC at hn
  split at hn
  · rename_i hc
    simp only [Option.some.injEq] at hn
    subst hn
    refine (Any.strings_Trim_laid Ly h116 s c w hc.1 hc.2.1 (ascii_of_all hc.2.2)).mono ?_
    rintro e w' ⟨rfl, hb⟩
    exact ⟨_, rfl, rfl, hS.of_below hb⟩
  · cases hn
theorem rows_str : ∀ {xs : List ByteArray} {h : Zone}, Rows Ty.str h (xs.map Value.string) xs
  | [], _ => rfl
  | x :: xs, _ => ⟨[.string x], xs.map Value.string, rfl, rfl, rows_str⟩
def splitC (s p : ByteArray) : Option (List ByteArray) := if s.size < 4294967281 ∧ 1 ≤ p.size then some (Lib.splitB p 0 (Lib.countB s p) s) else none
theorem split_ok (Ly : Lays.n146 P ρ) (hi9 : (P.info? (ρ.t 9)).map (fun i => (i.zero, i.size, i.bytes)) = some (some (.string ByteArray.empty), 1, 16)) (hE : Env P (ρ.g 1) h) {s p : ByteArray} {r : List ByteArray} (hn : splitC s p = some r) (hS : St h L w) :
    Calls P (ρ.f 146) #[.string s, .string p] w fun e w' => ∃ v, e = .returned v ∧ (∃ h', ∃ o : Option Addr, ∃ c : Nat, Zone.le h h' ∧ v = .slice o r.length c ∧ St h' L w' ∧ SliceR Ty.str h' o c r) := by
  unfold splitC at hn
  split at hn
  · rename_i hc
    simp only [Option.some.injEq] at hn
    subst hn
    obtain ⟨m, hm⟩ := hE.2
    refine (Any.strings_Split Ly hi9 s p m w hc.1 (hS.cell hm) hc.2).mono ?_
    rintro e w' ⟨rfl, rfl⟩
    have hlen := Lib.splitB_all p hc.2 0 _ s rfl
    have hcnt := Lib.countB_le p hc.2 s.size s (Nat.le_refl _)
    have hN : St h (ownS Ty.str (ρ.t 9) (some ⟨w.heap.size, 0, none⟩) (Lib.countB s p + 1) (Lib.splitB p 0 (Lib.countB s p) s) :: L) (w.alloc (.cells ((Lib.splitB p 0 (Lib.countB s p) s).map Value.string).toArray (ρ.t 9))) := by
      refine hS.new _ _ (.inr ⟨w.heap.size, _, rfl, rfl, by omega, by simp only [maxLen]; omega, ?_, ?_⟩)
      · simp [hlen, Ty.str]
      · have e1 : (((Lib.splitB p 0 (Lib.countB s p) s).map Value.string).toArray.toList.take ((Lib.splitB p 0 (Lib.countB s p) s).length * Ty.str.size)) = (Lib.splitB p 0 (Lib.countB s p) s).map Value.string := by
          simp [Ty.str, List.take_of_length_le]
        rw [e1]
        exact rows_str
    obtain ⟨h', k, hS', hx⟩ := hN.share (j := 0) rfl
    exact ⟨_, rfl, h', _, _, k, by rw [hlen], St.drop 1 hS', hx⟩
  · cases hn
def fieldsC (p : Nat → Bool) (s : ByteArray) : Option (List ByteArray) := if s.size ≤ 4294967296 then some (Lib.goFieldsP p s) else none
theorem fields_ok (Ly : Lays.n229 P ρ) (g : Nat) (eg : ∀ args w, (callFunc g args).run P w = .ok (.enter g args) w) (p : Nat → Bool)
    (hp : ∀ (W : World) (x : Nat), FnGives P g #[] #[encR x] (.bool (p x)) W)
    (hi154 : (P.info? (ρ.t 154)).map (fun i => (i.zero, i.size, i.bytes)) = some (some (.agg #[.int .i64 0, .int .i64 0]), 2, 16))
    (hi9 : (P.info? (ρ.t 9)).map (fun i => (i.zero, i.size, i.bytes)) = some (some (.string ⟨#[]⟩), 1, 16)) {s : ByteArray} {r : List ByteArray} (hn : fieldsC p s = some r) (hS : St h L w) :
    Calls P (ρ.f 229) #[.string s, .func (.func g) #[] #[]] w fun e w' => ∃ v, e = .returned v ∧ (∃ h', ∃ o : Option Addr, ∃ c : Nat, Zone.le h h' ∧ v = .slice o r.length c ∧ St h' L w' ∧ SliceR Ty.str h' o c r) := by
  unfold fieldsC at hn
  split at hn
  · rename_i hc
    simp only [Option.some.injEq] at hn
    subst hn
    refine (Any.strings_FieldsFunc Ly g #[] eg p s w hc (fun W x _ => hp W x) hi154 hi9).mono ?_
    rintro e w' ⟨A, rfl, hA, hown, hb⟩
    rcases hown.2 with ⟨hv, _⟩ | ⟨k, cap, cur, hv, hkb, hk, hnc, hcm, hsz, htk⟩
    · cases hv
    · have hkA : k = A := by cases hv; rfl
      have hcap : cap = (Lib.goFieldsP p s).length := by cases hv; rfl
      subst hkA
      have hN := hS.of_below_new hb hA hk (ownS Ty.str (ρ.t 9) (some ⟨k, 0, none⟩) cap (Lib.goFieldsP p s)) (.inr ⟨k, cur, rfl, rfl, hnc, hcm, by simpa [Ty.str] using hsz, by
        have e1 : cur.toList.take ((Lib.goFieldsP p s).length * Ty.str.size) = (Lib.goFieldsP p s).map Value.string := by simpa [Ty.str] using htk
        rw [e1]
        exact rows_str⟩)
      obtain ⟨h', kk, hS', hx⟩ := hN.share (j := 0) rfl
      rw [hcap] at hx
      exact ⟨_, rfl, h', _, _, kk, rfl, St.drop 1 hS', hx⟩
  · cases hn
def BldP (T e : TypeId) (B b : Nat) (s : ByteArray) (z : Hp) : Prop :=
  ∃ p v, (p = .pointer none ∨ p = .pointer (some ⟨b, 0, none⟩)) ∧ B ≤ b ∧
    ((v = .slice none 0 0 ∧ s.size = 0 ∧ z = Hp.one b (.cells #[p, v] T (0, 0))) ∨
     ∃ g cap cur fz, v = .slice (some ⟨g, 0, none⟩) s.size cap ∧ B ≤ g ∧ g ≠ b ∧ fz.2 ≤ s.size ∧ s.size ≤ cap ∧ cap ≤ maxLen ∧ cur.size = cap ∧ cur.toList.take s.size = Lib.strCells s ∧
       z = (Hp.one b (.cells #[p, v] T (0, 0))).add (Hp.one g (.cells cur e fz)))
def NB (e : TypeId) (B : Nat) (z : Hp) : Prop := ∀ k o, z k = some o → k < B ∨ ∀ c fz, o ≠ .cells c e fz
theorem NB.nil {e : TypeId} {B : Nat} : NB e B Hp.nil := fun _ _ h => by cases h
theorem NB.all (e : TypeId) : NB e W0.heap.size (Zone.all W0).blk := fun k o hk => .inl (Array.getElem?_eq_some_iff.1 hk).1
theorem BldP.is {T e : TypeId} {B b : Nat} {s : ByteArray} {z : Hp} (hb : BldP T e B b s z) (hz : z.le (fun b => w.heap[b]?)) : Lib.IsBuilderF T e B b (Lib.strCells s) w := by
  obtain ⟨p, v, hp, hB, hv⟩ := hb
  have key : Lib.BuilderAtF T e B b p (Lib.strCells s) w := by
    refine ⟨hB, v, ?_⟩
    rcases hv with ⟨rfl, h0, rfl⟩ | ⟨g, cap, cur, fz, rfl, h1, h2, h3, h4, h5, h6, h7, rfl⟩
    · refine ⟨Hp.one_le.1 hz, ⟨by simp, .inl ⟨rfl, by rw [Lib.strCells_length, h0]⟩⟩, by simp [Value.ownBlock]⟩
    · have d : (Hp.one b (.cells #[p, .slice (some ⟨g, 0, none⟩) s.size cap] T (0, 0))).apart (Hp.one g (.cells cur e fz)) := Hp.one_apart.2 (by simp [Hp.one, Ne.symm h2])
      have e1 := Hp.one_le.1 (Hp.le_trans (Hp.le_add_left _ _) hz)
      have e2 := Hp.one_le.1 (Hp.le_trans (Hp.le_add_right d) hz)
      refine ⟨e1, ⟨by simp, .inr ⟨g, cap, cur, fz, by rw [Lib.strCells_length], h1, e2, by rw [Lib.strCells_length]; omega, by rw [Lib.strCells_length]; omega, h5, by omega, ?_⟩⟩, by simp [Value.ownBlock, h2]⟩
      rw [Lib.strCells_length, Nat.mul_one]
      exact h7
  rcases hp with rfl | rfl
  · exact .inl key
  · exact .inr key
end Go.Sx
namespace Go.K
open Go.Sl Go.Sx Go.Shelf Go.Proofs
variable {e : KE} {As L0 L : List Atom} {P : Program} {w : World} {ρ' : Ren} {z : Zone} {E : Env}
abbrev aI : AT := (false, .i)
abbrev aS : AT := (false, .str)
abbrev aB : AT := (false, .bool)
abbrev aSs : AT := (false, .sl .str)
theorem rep1 {u : TC} {v : Value} {x : u.den} (h : repA z (false, u) v x) : u.ty.rep z [v] x := by
  rcases h with ⟨h, _⟩ | ⟨_, h⟩
  · cases h
  · exact h
theorem rep_int {v : Value} {x : Int} (h : repA z aI v x) : v = .int .i64 x := by
  have h' : [v] = [.int .i64 x] := rep1 h
  simpa using h'
theorem rep_str {v : Value} {x : ByteArray} (h : repA z aS v x) : v = .string x := by
  have h' : [v] = [.string x] := rep1 h
  simpa using h'
def envT (P : Program) (g : Nat) : Env := ⟨fun z => Sx.Env P g z, fun h k => Sx.Env.mono h k⟩
theorem itoa_valid {g : Nat} (Ly : LaysM.n171 P ρ') : Valid (envT P g) P (ρ'.f 171) [aI] [aS] itoaC := by
  intro x y hx z L w vs hz hrep hs
  obtain ⟨v, rfl, hv⟩ := hrep
  have := rep_int hv
  subst this
  refine Calls.mono (itoa_ok Ly hz hx hs) ?_
  rintro en w' ⟨v, rfl, rfl, hS⟩
  exact ⟨_, z, rfl, Zone.le_refl _, ⟨[.string y], rfl, _, rfl, .inr ⟨rfl, rfl⟩⟩, hS⟩
theorem trim_valid (Ly : Lays.n160 P ρ') (h116 : (P.info? (ρ'.t 116)).map (fun i => (i.zero, i.size)) = some (some (.agg (Array.replicate 256 (.bool false))), 256)) : Valid E P (ρ'.f 160) [aS, aS] [aS] fun x => trimC x.1 x.2 := by
  intro x y hx z L w vs hz hrep hs
  obtain ⟨v, r, rfl, hv, u, rfl, hu⟩ := hrep
  have h1 := rep_str hv
  have h2 := rep_str hu
  subst h1 h2
  refine Calls.mono (trim_ok Ly h116 hx hs) ?_
  rintro en w' ⟨v, rfl, rfl, hS⟩
  exact ⟨_, z, rfl, Zone.le_refl _, ⟨[.string y], rfl, _, rfl, .inr ⟨rfl, rfl⟩⟩, hS⟩
theorem split_valid (Ly : Lays.n146 P ρ') (hi9 : (P.info? (ρ'.t 9)).map (fun i => (i.zero, i.size, i.bytes)) = some (some (.string ByteArray.empty), 1, 16)) : Valid (envT P (ρ'.g 1)) P (ρ'.f 146) [aS, aS] [aSs] fun x => splitC x.1 x.2 := by
  intro x y hx z L w vs hz hrep hs
  obtain ⟨v, r, rfl, hv, u, rfl, hu⟩ := hrep
  have h1 := rep_str hv
  have h2 := rep_str hu
  subst h1 h2
  refine Calls.mono (split_ok Ly hi9 hz hx hs) ?_
  rintro en w' ⟨v, rfl, z', o, c, hle, rfl, hS, hsl⟩
  exact ⟨_, z', rfl, hle, ⟨[_], rfl, _, rfl, .inr ⟨rfl, o, c, rfl, hsl⟩⟩, hS⟩
def atoiCon : Con where
  run := fun args m k => match args with
    | [.str s] => (atoiC s).bind fun n => k (.val (.tup [.int .i64 n, .raw .nilIface])) m
    | _ => none
theorem atoiCon_ok (Ly : LaysC.n172 P ρ') : ConOk P L0 atoiCon (ρ'.f 172) := by
  intro ρ args vs m e As w k r hr h1 h2 hl
  unfold atoiCon at hr
  simp only at hr
  split at hr
  · rename_i s
    obtain ⟨n, hn, hk⟩ := bind_some hr
    cases hl with
    | cons a b =>
      cases b
      cases a
      refine Calls.mono (atoi_ok Ly hn h2) ?_
      rintro en w' ⟨v, rfl, rfl, hS⟩
      exact ⟨_, m, e, As, hk, ⟨_, rfl, .tup (.cons (.int _ _) (.cons (.raw _) .nil))⟩, .refl, h1, hS⟩
  · cases hr
def fieldsCon (f : FuncId) (p : Nat → Bool) : Con where
  run := fun args m k => match args with
    | [.str s, .fn g [] []] => bif Nat.beq g f then (fieldsC p s).bind fun l => k (.val (.sl .str l)) m else none
    | _ => none
theorem fieldsCon_ok (Ly : Lays.n229 P ρ') {g : Nat} (eg : ∀ args w, (callFunc g args).run P w = .ok (.enter g args) w) {p : Nat → Bool}
    (hp : ∀ (W : World) (x : Nat), FnGives P g #[] #[encR x] (.bool (p x)) W)
    (hi154 : (P.info? (ρ'.t 154)).map (fun i => (i.zero, i.size, i.bytes)) = some (some (.agg #[.int .i64 0, .int .i64 0]), 2, 16))
    (hi9 : (P.info? (ρ'.t 9)).map (fun i => (i.zero, i.size, i.bytes)) = some (some (.string ⟨#[]⟩), 1, 16)) : ConOk P L0 (fieldsCon g p) (ρ'.f 229) := by
  intro ρ args vs m e As w k r hr h1 h2 hl
  unfold fieldsCon at hr
  simp only at hr
  split at hr
  · rename_i s g'
    cases hb : Nat.beq g' g with
    | false => rw [hb] at hr; cases hr
    | true =>
      rw [hb] at hr
      have := Nat.eq_of_beq_eq_true hb
      subst this
      obtain ⟨l, hn, hk⟩ := bind_some hr
      cases hl with
      | cons a b =>
        cases b with
        | cons b c =>
          cases c
          cases a
          cases b with
          | fn hx hy =>
            cases hx
            cases hy
            refine Calls.mono (fields_ok Ly g' eg p hp hi154 hi9 hn h2) ?_
            rintro en w' ⟨v, rfl, z', o, c, hle, rfl, hS, hsl⟩
            have hle' : e.le ⟨z', e.bs⟩ := ⟨hle, [], rfl⟩
            exact ⟨_, m, ⟨z', e.bs⟩, As, hk, ⟨_, rfl, .sl hsl⟩, ⟨hle', .refl _, fun _ => ⟨[], rfl⟩⟩, h1.mono hle' rfl, hS⟩
  · cases hr
end Go.K
namespace Go.K
open Go.Sl Go.Sx Go.Proofs
def ofL (l : List UInt8) : ByteArray := ⟨l.toArray⟩
theorem ofL_back (s : ByteArray) : ofL s.data.toList = s := ext_data (ofL_data _)
theorem ofL_size (l : List UInt8) : (ofL l).size = l.length := by rw [size_len]; unfold ofL; rw [ofL_data]
theorem ofL_eq {s : ByteArray} {l : List UInt8} (h : s.data.toList = l) : s = ofL l := by rw [← h, ofL_back]
theorem ext_extract (s : ByteArray) (a b : Nat) : s.extract a b = ofL ((s.data.toList.drop a).take (b - a)) := ofL_eq (by rw [Lib.extract_data])
def sp : List UInt8 → List (List UInt8)
  | [] => [[]]
  | b :: r => if b = 10 then [] :: sp r else match sp r with
    | x :: xs => (b :: x) :: xs
    | [] => [[b]]
theorem sp_ne (l : List UInt8) : sp l ≠ [] := by
  cases l with
  | nil => simp [sp]
  | cons b r =>
    simp only [sp]
    split
    · simp
    · split <;> simp
theorem splitK_ne {b : UInt8} (h : b ≠ 10) (k : Nat) (l : List UInt8) : Lib.splitK [10] 0 k (b :: l) = match Lib.splitK [10] 0 k l with
    | x :: xs => (b :: x) :: xs
    | [] => [[b]] := by
  cases k with
  | zero => rfl
  | succ k =>
    have hp : ([10] : List UInt8).isPrefixOf (b :: l) = false := by simp [List.isPrefixOf, Ne.symm h]
    have hix : Lib.index (b :: l) [10] = if Lib.index l [10] == -1 then -1 else Lib.index l [10] + 1 := by rw [Lib.index, hp]; simp
    by_cases hm : Lib.index l [10] = -1
    · simp only [Lib.splitK, hix, hm]; rfl
    · have hge := Lib.index_ge l [10]
      obtain ⟨j, hj⟩ : ∃ j : Nat, Lib.index l [10] = j := ⟨(Lib.index l [10]).toNat, by omega⟩
      have e1 : ((j : Int) == -1) = false := by simp
      have e2 : ((j : Int) + 1 == -1) = false := by simp; omega
      have e3 : ((j : Int) + 1).toNat = j + 1 := by omega
      have e4 : j + 1 + [(10 : UInt8)].length = j + [(10 : UInt8)].length + 1 := by simp
      simp only [Lib.splitK, hix, hj, e1, Bool.false_eq_true, if_false, e2, e3, Int.toNat_natCast, Nat.add_zero, List.take_succ_cons, e4, List.drop_succ_cons]
theorem splitK_sp : ∀ l : List UInt8, Lib.splitK [10] 0 (Lib.count l [10]) l = sp l
  | [] => by rw [Lib.count_miss (by simp [Lib.index])]; rfl
  | b :: l => by
    by_cases h : b = 10
    · subst h
      rw [Lib.count_cons_eq, Nat.add_comm]
      have hix : Lib.index (10 :: l) [10] = 0 := by rw [Lib.index]; simp [List.isPrefixOf]
      simp only [Lib.splitK, hix, sp, if_true]
      have : ((0 : Int) == -1) = false := by decide
      simp only [this, Bool.false_eq_true, if_false, Int.toNat_zero, Nat.add_zero, List.take_zero, Nat.zero_add, List.length_singleton, List.drop_succ_cons, List.drop_zero, splitK_sp l]
    · rw [Lib.count_cons_ne b 10 l h, splitK_ne h, splitK_sp l]
      simp only [sp, h, if_false]
theorem bts10 : (bts [10]).data.toList = [10] := by simp [bts]
theorem splitC_sp {s : ByteArray} (h : s.size < 4294967281) : splitC s (bts [10]) = some ((sp s.data.toList).map ofL) := by
  unfold splitC
  rw [if_pos ⟨h, by decide⟩]
  have e := Lib.splitB_data (bts [10]) 0 (Lib.countB s (bts [10])) s
  unfold Lib.countB at e ⊢
  rw [bts10, splitK_sp] at e
  rw [← e, List.map_map, bts10]
  congr 1
  conv => lhs; rw [← List.map_id (Lib.splitB (bts [10]) 0 (Lib.count s.data.toList [10]) s)]
  refine List.map_congr_left fun x _ => ?_
  simp [ofL_back]
def trimE (l : List (List UInt8)) : List (List UInt8) := if l.getLast? = some [] then l.dropLast else l
def lns (l : List UInt8) : List (List UInt8) := trimE (sp l)
def spc (cur l : List UInt8) : List (List UInt8) := match sp l with
  | x :: xs => (cur ++ x) :: xs
  | [] => [cur]
theorem spc_nil (l : List UInt8) : spc [] l = sp l := by
  unfold spc
  cases h : sp l with
  | nil => exact absurd h (sp_ne l)
  | cons x xs => rfl
theorem spc_end (cur : List UInt8) : spc cur [] = [cur] := by simp [spc, sp]
theorem spc_10 (cur r : List UInt8) : spc cur (10 :: r) = cur :: sp r := by simp [spc, sp]
theorem spc_ne (cur : List UInt8) {b : UInt8} (h : b ≠ 10) (r : List UInt8) : spc cur (b :: r) = spc (cur ++ [b]) r := by
  unfold spc
  simp only [sp, h, if_false]
  cases sp r <;> simp
theorem spc_len (l : List UInt8) : ∀ cur, (spc cur l).length ≤ l.length + 1 := by
  induction l with
  | nil => intro cur; simp [spc_end]
  | cons b r ih =>
    intro cur
    by_cases h : b = 10
    · subst h; rw [spc_10, ← spc_nil r]; simpa using ih []
    · rw [spc_ne cur h]; have := ih (cur ++ [b]); simp only [List.length_cons]; omega
theorem sp_len (l : List UInt8) : (sp l).length ≤ l.length + 1 := by rw [← spc_nil]; exact spc_len l []
theorem trimE_len (l : List (List UInt8)) : (trimE l).length ≤ l.length := by unfold trimE; split <;> simp
def wd : List UInt8 → List UInt8 → List (List UInt8)
  | cur, [] => if cur = [] then [] else [cur]
  | cur, b :: r => if b = 32 then (if cur = [] then wd [] r else cur :: wd [] r) else wd (cur ++ [b]) r
theorem wd_skip : ∀ (u cur r : List UInt8), (∀ b ∈ u, b ≠ 32) → wd cur (u ++ r) = wd (cur ++ u) r
  | [], cur, r, _ => by simp
  | b :: u, cur, r, h => by
    simp only [List.cons_append, wd, h b (by simp), if_false]
    rw [wd_skip u (cur ++ [b]) r fun c hc => h c (by simp [hc])]
    simp
theorem wd_one (u : List UInt8) (hu : u ≠ []) (h : ∀ b ∈ u, b ≠ 32) : wd [] u = [u] := by
  have := wd_skip u [] [] h
  simp only [List.append_nil, List.nil_append] at this
  rw [this]; simp [wd, hu]
theorem get_list (s : ByteArray) {i : Nat} (h : i < s.size) : s.data.toList[i]? = some (s.get! i) := by
  obtain ⟨⟨l⟩⟩ := s
  have h' : i < l.length := by simpa [size_len] using h
  show l[i]? = some ((⟨l⟩ : Array UInt8)[i]!)
  rw [List.getElem?_eq_getElem h']
  simp [h']
theorem dec32 (s : ByteArray) (i : Nat) (h : i < s.size) : 1 ≤ (Utf8.decode s i).2 ∧ i + (Utf8.decode s i).2 ≤ s.size ∧ ((Utf8.decode s i).1 = 32 → (Utf8.decode s i).2 = 1 ∧ s.get! i = 32) ∧
    ((Utf8.decode s i).1 ≠ 32 → ∀ j, i ≤ j → j < i + (Utf8.decode s i).2 → s.get! j ≠ 32) := by
  have hb : ∀ j, (s.get! j).toNat = 32 → s.get! j = 32 := fun j hj => by
    apply UInt8.toNat_inj.1; simpa using hj
  have hb' : ∀ j, s.get! j = 32 → (s.get! j).toNat = 32 := fun j hj => by rw [hj]; rfl
  rw [Lib.decode_at]
  have k1 := hb i
  have k1' := hb' i
  have k2' := hb' (i + 1)
  have k3' := hb' (i + 2)
  have k4' := hb' (i + 3)
  have h0 : (s.get! i).toNat < 256 := UInt8.toNat_lt _
  generalize e0 : (s.get! i).toNat = b0 at *
  generalize e1 : (s.get! (i + 1)).toNat = b1 at *
  generalize e2 : (s.get! (i + 2)).toNat = b2 at *
  generalize e3 : (s.get! (i + 3)).toNat = b3 at *
  have hj4 : ∀ j k, i ≤ j → j < i + k → k ≤ 4 → j = i ∨ (j = i + 1 ∧ 2 ≤ k) ∨ (j = i + 2 ∧ 3 ≤ k) ∨ (j = i + 3 ∧ 4 ≤ k) := fun j k _ _ _ => by omega
  have key : ∀ (r k : Nat), Lib.decodeN (s.size - i) b0 b1 b2 b3 = (r, k) → 1 ≤ k ∧ i + k ≤ s.size ∧ k ≤ 4 ∧ (r = 32 → k = 1 ∧ b0 = 32) ∧ (r ≠ 32 → b0 ≠ 32 ∧ (2 ≤ k → b1 ≠ 32) ∧ (3 ≤ k → b2 ≠ 32) ∧ (4 ≤ k → b3 ≠ 32)) := by
    intro r k hd
    unfold Lib.decodeN at hd
    by_cases c0 : b0 < 128
    · rw [if_pos c0] at hd; cases hd
      refine ⟨by omega, by omega, by omega, fun e => ⟨rfl, e⟩, fun e => ⟨e, by omega, by omega, by omega⟩⟩
    · rw [if_neg c0] at hd
      by_cases c1 : b0 / 32 = 6 ∧ (1 < s.size - i ∧ b1 / 64 = 2)
      · rw [if_pos c1] at hd
        split at hd <;> cases hd
        · refine ⟨by omega, by omega, by omega, by omega, fun e => ⟨by omega, by omega, by omega, by omega⟩⟩
        · refine ⟨by omega, by omega, by omega, by omega, fun e => ⟨by omega, by omega, by omega, by omega⟩⟩
      · rw [if_neg c1] at hd
        by_cases c2 : b0 / 16 = 14 ∧ (1 < s.size - i ∧ b1 / 64 = 2) ∧ (2 < s.size - i ∧ b2 / 64 = 2)
        · rw [if_pos c2] at hd
          split at hd <;> cases hd
          · refine ⟨by omega, by omega, by omega, by omega, fun e => ⟨by omega, by omega, by omega, by omega⟩⟩
          · refine ⟨by omega, by omega, by omega, by omega, fun e => ⟨by omega, by omega, by omega, by omega⟩⟩
        · rw [if_neg c2] at hd
          by_cases c3 : b0 / 8 = 30 ∧ (1 < s.size - i ∧ b1 / 64 = 2) ∧ (2 < s.size - i ∧ b2 / 64 = 2) ∧ (3 < s.size - i ∧ b3 / 64 = 2)
          · rw [if_pos c3] at hd
            split at hd <;> cases hd
            · refine ⟨by omega, by omega, by omega, by omega, fun e => ⟨by omega, by omega, by omega, by omega⟩⟩
            · refine ⟨by omega, by omega, by omega, by omega, fun e => ⟨by omega, by omega, by omega, by omega⟩⟩
          · rw [if_neg c3] at hd
            cases hd
            refine ⟨by omega, by omega, by omega, by omega, fun e => ⟨by omega, by omega, by omega, by omega⟩⟩
  obtain ⟨a1, a2, a3, a4, a5⟩ := key _ _ rfl
  refine ⟨a1, a2, fun h => ⟨(a4 h).1, k1 (a4 h).2⟩, fun h j j1 j2 hj => ?_⟩
  obtain ⟨q0, q1, q2, q3⟩ := a5 h
  rcases hj4 j _ j1 j2 a3 with rfl | ⟨rfl, hk⟩ | ⟨rfl, hk⟩ | ⟨rfl, hk⟩
  · exact q0 (k1' hj)
  · exact q1 hk (k2' hj)
  · exact q2 hk (k3' hj)
  · exact q3 hk (k4' hj)
def is32 (n : Nat) : Bool := Nat.beq n 32
theorem spans_wd (s : ByteArray) : ∀ (f pos : Nat) (st : Option Nat) (acc : List (Nat × Nat)), s.size ≤ pos + f → pos ≤ s.size → (∀ a, st = some a → a < pos) →
    ((Lib.closeSpans s (Lib.spansFromP is32 s f pos st acc)).map fun x => s.extract x.1 x.2) = (acc.map fun x => s.extract x.1 x.2) ++ (wd (Lib.openPiece s.data.toList st pos) (s.data.toList.drop pos)).map ofL := by
  intro f
  have hend : ∀ (pos : Nat) (st : Option Nat) (acc : List (Nat × Nat)), pos = s.size → (∀ a, st = some a → a < pos) → ((Lib.closeSpans s (acc, st)).map fun x => s.extract x.1 x.2) = (acc.map fun x => s.extract x.1 x.2) ++ (wd (Lib.openPiece s.data.toList st pos) (s.data.toList.drop pos)).map ofL := by
    intro pos st acc hp hst
    subst hp
    have hd : s.data.toList.drop s.size = [] := List.drop_eq_nil_of_le (by rw [size_len]; exact Nat.le_refl _)
    rw [hd]
    cases st with
    | none => simp [Lib.closeSpans, Lib.openPiece, wd]
    | some a =>
      have := Lib.pieceU_ne s.data.toList a s.size (hst a rfl) (by rw [size_len]; exact Nat.le_refl _)
      simp only [Lib.closeSpans, Lib.openPiece, wd, this, if_false, List.map_append, List.map_cons, List.map_nil, ext_extract]
      rfl
  induction f with
  | zero =>
    intro pos st acc h hp hst
    simp only [Lib.spansFromP]
    exact hend pos st acc (by omega) hst
  | succ f ih =>
    intro pos st acc h hp hst
    by_cases hlt : pos < s.size
    · obtain ⟨d1, d2, d3, d4⟩ := dec32 s pos hlt
      simp only [Lib.spansFromP, hlt, if_true]
      generalize hk : (Utf8.decode s pos).2 = k at *
      generalize hr : (Utf8.decode s pos).1 = r at *
      have hg := get_list s hlt
      have hdrop : s.data.toList.drop pos = s.get! pos :: s.data.toList.drop (pos + 1) := by
        obtain ⟨hl, he⟩ := List.getElem?_eq_some_iff.1 hg
        rw [List.drop_eq_getElem_cons hl, he]
      by_cases h32 : r = 32
      · have e32 : is32 r = true := by rw [h32]; rfl
        obtain ⟨rfl, hb⟩ := d3 h32
        simp only [e32, if_true]
        cases st with
        | none =>
          simp only
          rw [ih (pos + 1) none acc (by omega) (by omega) (by intro a ha; cases ha), hdrop, hb]
          simp [Lib.openPiece, wd]
        | some a =>
          have hne := Lib.pieceU_ne s.data.toList a pos (hst a rfl) (by rw [← size_len]; omega)
          simp only
          rw [ih (pos + 1) none (acc ++ [(a, pos)]) (by omega) (by omega) (by intro a ha; cases ha), hdrop, hb]
          simp only [Lib.openPiece, wd, if_true, hne, if_false, List.map_append, List.map_cons, List.map_nil, List.append_assoc, List.singleton_append, ext_extract]
          rfl
      · have e32 : is32 r = false := by
          cases hb : is32 r with
          | false => rfl
          | true => exact absurd (Nat.eq_of_beq_eq_true hb) h32
        simp only [e32, Bool.false_eq_true, if_false]
        have hsplit : s.data.toList.drop pos = (s.data.toList.drop pos).take k ++ s.data.toList.drop (pos + k) := by
          rw [← List.drop_drop, List.take_append_drop]
        have hall : ∀ b ∈ (s.data.toList.drop pos).take k, b ≠ 32 := by
          intro b hb
          obtain ⟨j, hj⟩ := List.getElem?_of_mem hb
          rw [List.getElem?_take] at hj
          split at hj
          · rw [List.getElem?_drop] at hj
            have hlj := (List.getElem?_eq_some_iff.1 hj).1
            rw [get_list s (by rw [size_len]; exact hlj)] at hj
            injection hj with hj
            rw [← hj]
            exact d4 h32 (pos + j) (by omega) (by omega)
          · cases hj
        have step : wd (Lib.openPiece s.data.toList st pos) (s.data.toList.drop pos) = wd (Lib.openPiece s.data.toList (some (st.getD pos)) (pos + k)) (s.data.toList.drop (pos + k)) := by
          conv => lhs; rw [hsplit]
          rw [wd_skip _ _ _ hall]
          congr 1
          cases st with
          | none => simp [Lib.openPiece, Lib.pieceU]
          | some a => exact Lib.pieceU_grow s.data.toList a pos k (by have := hst a rfl; omega)
        rw [step]
        cases st with
        | none => exact ih (pos + k) (some pos) acc (by omega) (by omega) (by intro a ha; cases ha; omega)
        | some a => exact ih (pos + k) (some a) acc (by omega) (by omega) (by intro b hb; cases hb; have := hst a rfl; omega)
    · rw [Lib.spansFromP_end _ _ _ _ _ _ hlt]
      exact hend pos st acc (by omega) hst
theorem fieldsC_wd {s : ByteArray} (h : s.size ≤ 4294967296) : fieldsC is32 s = some ((wd [] s.data.toList).map ofL) := by
  unfold fieldsC
  rw [if_pos h]
  unfold Lib.goFieldsP Lib.spansOfP
  rw [spans_wd s s.size 0 none [] (by omega) (by omega) (by intro a ha; cases ha)]
  simp [Lib.openPiece]
theorem wd_len : ∀ (r cur : List UInt8), (wd cur r).length ≤ r.length + 1
  | [], cur => by simp only [wd]; split <;> simp
  | b :: r, cur => by
    simp only [wd]
    have h1 := wd_len r []
    have h2 := wd_len r (cur ++ [b])
    split
    · split
      · simp only [List.length_cons]; omega
      · simp only [List.length_cons]; omega
    · simp only [List.length_cons]; omega
end Go.K
namespace Go.K
open Go.Sl Go.Sx
variable {e e' e0 : KE} {σ σ' : List Blk} {As L0 L : List Atom} {P : Program} {w : World} {N : Nat} {ρ : Type} {z : Zone}
def ltC {α : Type} (xs : List α) : Option Unit := if xs.length ≤ 4398046511104 then some () else none
theorem ltC_spec {α : Type} {xs : List α} {u : Unit} (e : ltC xs = some u) : xs.length ≤ 4398046511104 := by
  unfold ltC at e
  split at e
  · assumption
  · cases e
def RowOk (P : Program) (g : FuncId) (u : TC) (f : List u.den → List u.den) : Prop := (∀ xs, (f xs).length = xs.length) ∧ ∀ {z : Zone} {L : List Atom} {w : World} {j : Nat} {E : TypeId} {o : Option Addr} {cap : Nat} {xs : List u.den},
  St z L w → L[j]? = some (ownS u.ty E o cap xs) → xs.length ≤ 4398046511104 → Calls P g #[.slice o xs.length cap] w fun e w' => ∃ v, e = .returned v ∧ v = .tuple #[] ∧ St z (L.set j (ownS u.ty E o cap (f xs))) w'
def rowCon (u : TC) (f : List u.den → List u.den) : Con where
  run := fun args m k => match args with
    | [.own id] => match at' m.σ id with
      | some (.own u' E xs) => if hu : u' = u then (ltC xs).bind fun _ => k (.val (.tup [])) ⟨setAt m.σ id (.own u E (f (hu ▸ xs))), (id, 0) :: m.lg⟩ else none
      | _ => none
    | _ => none
theorem rowCon_ok {g : FuncId} {u : TC} {f : List u.den → List u.den} (h : RowOk P g u f) : ConOk P L0 (rowCon u f) g := by
  intro ρ args vs m e As w k r hr h1 h2 hl
  simp only [rowCon] at hr
  split at hr
  · rename_i id
    split at hr
    · rename_i u' E xs hB
      split at hr
      · rename_i hu
        subst hu
        obtain ⟨_, hx, hk⟩ := bind_some hr
        have hlt := ltC_spec hx
        obtain ⟨i, m1, m2, m3⟩ := h1.len hB
        cases hl with
        | cons a b =>
          cases b
          cases a with
          | own hi =>
            rw [m1] at hi; cases hi
            rw [← m2]
            refine Calls.mono (h.2 h2 (Mem.atom m3) hlt) ?_
            rintro en w' ⟨v, rfl, rfl, hs⟩
            rw [setAt_app (at_lt m3)] at hs
            exact ⟨_, _, e, _, hk, ⟨_, rfl, .tup .nil⟩, ⟨.rfl, ExtM.set hB (fun T cs hh => by cases hh), fun hh => absurd hh (by simp)⟩, h1.set m1 (.own (by rw [h.1]; exact m2)), hs⟩
      · cases hr
    · cases hr
  · cases hr
def CutOk (P : Program) (g : FuncId) (u : TC) (f : List u.den → List u.den) : Prop := ∀ {z : Zone} {L : List Atom} {w : World} {j : Nat} {E : TypeId} {o : Option Addr} {cap : Nat} {xs : List u.den},
  St z L w → L[j]? = some (ownS u.ty E o cap xs) → xs.length ≤ 4398046511104 → Calls P g #[.slice o xs.length cap] w fun e w' => ∃ v, e = .returned v ∧ v = .slice o (f xs).length cap ∧ St z (L.set j (ownS u.ty E o cap (f xs))) w'
def cutCon (u : TC) (f : List u.den → List u.den) : Con where
  run := fun args m k => match args with
    | [.own id] => match at' m.σ id with
      | some (.own u' E xs) => if hu : u' = u then (ltC xs).bind fun _ => k (.val (.own m.σ.length)) ⟨.own u E (f (hu ▸ xs)) :: setAt m.σ id .gone, (id, 0) :: m.lg⟩ else none
      | _ => none
    | _ => none
theorem cutCon_ok {g : FuncId} {u : TC} {f : List u.den → List u.den} (h : CutOk P g u f) : ConOk P L0 (cutCon u f) g := by
  intro ρ args vs m e As w k r hr h1 h2 hl
  simp only [cutCon] at hr
  split at hr
  · rename_i id
    split at hr
    · rename_i u' E xs hB
      split at hr
      · rename_i hu
        subst hu
        obtain ⟨_, hx, hk⟩ := bind_some hr
        have hlt := ltC_spec hx
        obtain ⟨i, m1, m2, m3⟩ := h1.len hB
        cases hl with
        | cons a b =>
          cases b
          cases a with
          | own hi =>
            rw [m1] at hi; cases hi
            rw [← m2]
            refine Calls.mono (h h2 (Mem.atom m3) hlt) ?_
            rintro en w' ⟨v, rfl, rfl, hs⟩
            have hfr := st_front hs (by have := at_lt m3; simp; omega)
            rw [setAt_app (at_lt m3)] at hfr
            have hle := KE.le_push e ⟨0, i.o, (f xs).length, i.c⟩
            refine ⟨_, _, e.push ⟨0, i.o, (f xs).length, i.c⟩, _, hk, ⟨_, rfl, .own (i := ⟨0, i.o, (f xs).length, i.c⟩) ?_⟩, ⟨hle, (ExtM.set hB (fun T cs hh => by cases hh)).trans (ExtM.push _ _), fun hh => absurd hh (by simp)⟩, (h1.set m1 .gone).push (.own rfl), hfr⟩
            show at' (_ :: e.bs) m.σ.length = _
            rw [h1.lb]; exact at_new
      · cases hr
    · cases hr
  · cases hr
end Go.K
namespace Go.K
open Go.Sl Go.Sx Go.Proofs
abbrev LF : Nat := 9223372036854775808
theorem jl {α ρ : Type} (y : α) (f : α → Option ρ) : jn (some (.inl y)) f = f y := rfl
theorem jr {α ρ : Type} (r : ρ) (f : α → Option ρ) : jn (some (.inr r)) f = some r := rfl
theorem oR {α ρ : Type} (r : ρ) : outR (α := α) (some r) = some (.inr r) := rfl
theorem succ_W {i : Nat} (h : i + 1 < LF) : w64 ((i : Int) + 1) = ((i + 1 : Nat) : Int) := by
  have : i + 1 < 9223372036854775808 := h
  rw [w64_id (by omega) (by omega)]; omega
theorem w64_in {n : Int} (h : -9223372036854775808 ≤ n ∧ n ≤ 9223372036854775807) : w64 n = n := w64_id (by omega) (by omega)
theorem iter_go {σ A α ρ : Type} {f : α → Option (α ⊕ ρ)} (mk : Int → A → α) (step : σ → Nat → A → A ⊕ ρ) (good : Nat → A → Prop) (all : List σ) (fin : A → Option ρ) (a : A)
    (h1 : ∀ i x a, all[i]? = some x → good i a → f (mk (i : Nat) a) = some (match step x i a with | .inl a' => .inl (mk ((i + 1 : Nat) : Int) a') | .inr e => .inr e))
    (hg : ∀ i x a a', all[i]? = some x → good i a → step x i a = .inl a' → good (i + 1) a')
    (h2 : ∀ a, good all.length a → f (mk (all.length : Nat) a) = outR (fin a)) (hl : all.length < LF) (h0 : good 0 a) :
    iter LF f (mk 0 a) = match foldS step all 0 a with | .inl a' => fin a' | .inr e => some e := by
  suffices H : ∀ (k i : Nat) (a : A) (lf : Nat), i + k = all.length → k < lf → good i a → iter lf f (mk (i : Nat) a) = match foldS step (all.drop i) i a with | .inl a' => fin a' | .inr e => some e by
    have := H all.length 0 a LF (by omega) hl h0
    simpa using this
  intro k
  induction k with
  | zero =>
    intro i a lf hk hlf hgd
    obtain ⟨lf, rfl⟩ : ∃ n, lf = n + 1 := ⟨lf - 1, by omega⟩
    have hi : i = all.length := by omega
    subst hi
    simp only [iter, h2 a hgd, List.drop_length, foldS]
    cases fin a <;> rfl
  | succ k ih =>
    intro i a lf hk hlf hgd
    obtain ⟨lf, rfl⟩ : ∃ n, lf = n + 1 := ⟨lf - 1, by omega⟩
    have hlt : i < all.length := by omega
    have hx : all[i]? = some all[i] := List.getElem?_eq_getElem hlt
    simp only [iter, h1 i _ a hx hgd]
    rw [List.drop_eq_getElem_cons hlt]
    simp only [foldS]
    cases hs : step all[i] i a with
    | inl a' => exact ih (i + 1) a' lf (by omega) (by omega) (hg i _ a a' hx hgd hs)
    | inr e => rfl
def scan {σ ρ : Type} (g : σ → Nat → Option ρ) : List σ → Nat → Option ρ
  | [], _ => none
  | x :: r, i => match g x i with
    | some e => some e
    | none => scan g r (i + 1)
theorem foldS_scan {σ ρ : Type} (g : σ → Nat → Option ρ) : ∀ (l : List σ) (i : Nat), foldS (fun x i (_ : Unit) => match g x i with | some e => .inr e | none => .inl ()) l i () = match scan g l i with | some e => .inr e | none => .inl ()
  | [], i => rfl
  | x :: l, i => by
    simp only [foldS, scan]
    cases g x i with
    | some e => rfl
    | none => exact foldS_scan g l (i + 1)
theorem iter_scan {σ ρ : Type} {f : Int → Option (Int ⊕ ρ)} (g : σ → Nat → Option ρ) (all : List σ) (fin : Option ρ)
    (h1 : ∀ i x, all[i]? = some x → scan g (all.take i) 0 = none → f ((i : Nat) : Int) = some (match g x i with | some e => .inr e | none => .inl ((i + 1 : Nat) : Int)))
    (h2 : scan g all 0 = none → f ((all.length : Nat) : Int) = outR fin) (hl : all.length < LF) :
    iter LF f 0 = match scan g all 0 with | some e => some e | none => fin := by
  have tk : ∀ (l m : List σ) (i : Nat), scan g (l ++ m) i = match scan g l i with | some e => some e | none => scan g m (i + l.length) := by
    intro l
    induction l with
    | nil => intro m i; simp [scan]
    | cons x l ih =>
      intro m i
      simp only [List.cons_append, scan]
      cases g x i with
      | some e => rfl
      | none => simp only [ih]; rw [show i + 1 + l.length = i + (x :: l).length by simp; omega]
  have key := iter_go (f := f) (fun i (_ : Unit) => i) (fun x i _ => match g x i with | some e => .inr e | none => .inl ()) (fun i _ => scan g (all.take i) 0 = none) all (fun _ => fin) ()
    (fun i x a hx hg => by
      rw [h1 i x hx hg]
      cases g x i <;> rfl)
    (fun i x a a' hx hg hs => by
      have hlt := (List.getElem?_eq_some_iff.1 hx).1
      have hxe := (List.getElem?_eq_some_iff.1 hx).2
      have e1 : all.take (i + 1) = all.take i ++ [x] := by rw [List.take_add_one, hx]; rfl
      rw [e1, tk, hg]
      simp only [scan, List.length_take, Nat.zero_add]
      rw [show min i all.length = i by omega]
      cases h : g x i with
      | some e => rw [h] at hs; cases hs
      | none => rfl)
    (fun a hg => h2 (by simpa using hg)) hl (by simp [scan])
  rw [key, foldS_scan]
  cases scan g all 0 <;> rfl
def foldI {σ A : Type} (g : σ → Nat → A → A) : List σ → Nat → A → A
  | [], _, a => a
  | x :: r, i, a => foldI g r (i + 1) (g x i a)
theorem foldS_foldI {σ A ρ : Type} (g : σ → Nat → A → A) : ∀ (l : List σ) (i : Nat) (a : A), foldS (ρ := ρ) (fun x i a => .inl (g x i a)) l i a = .inl (foldI g l i a)
  | [], _, _ => rfl
  | x :: l, i, a => by simp only [foldS, foldI]; exact foldS_foldI g l (i + 1) _
theorem iter_foldI {σ A α ρ : Type} {f : α → Option (α ⊕ ρ)} (mk : Int → A → α) (g : σ → Nat → A → A) (good : Nat → A → Prop) (all : List σ) (fin : A → Option ρ) (a : A)
    (h1 : ∀ i x a, all[i]? = some x → good i a → f (mk (i : Nat) a) = some (.inl (mk ((i + 1 : Nat) : Int) (g x i a))))
    (hg : ∀ i x a, all[i]? = some x → good i a → good (i + 1) (g x i a))
    (h2 : ∀ a, good all.length a → f (mk (all.length : Nat) a) = outR (fin a)) (hl : all.length < LF) (h0 : good 0 a) :
    iter LF f (mk 0 a) = fin (foldI g all 0 a) := by
  rw [iter_go mk (fun x i a => .inl (g x i a)) good all fin a h1 (fun i x a a' hx hgd hs => by cases hs; exact hg i x a hx hgd) h2 hl h0, foldS_foldI]
theorem foldI_const {σ A : Type} (g : σ → A → A) : ∀ (l : List σ) (i : Nat) (a : A), foldI (fun x _ a => g x a) l i a = l.foldl (fun a x => g x a) a
  | [], _, _ => rfl
  | x :: l, i, a => by simp only [foldI, List.foldl_cons]; exact foldI_const g l (i + 1) _
def idx {σ : Type} (p : σ → Bool) : List σ → Nat → Option Nat
  | [], _ => none
  | x :: r, i => bif p x then some i else idx p r (i + 1)
theorem scan_idx {σ ρ : Type} (p : σ → Bool) (F : Nat → ρ) : ∀ (l : List σ) (i : Nat), scan (fun x i => bif p x then some (F i) else none) l i = (idx p l i).map F
  | [], _ => rfl
  | x :: l, i => by
    simp only [scan, idx]
    cases p x with
    | true => rfl
    | false => exact scan_idx p F l (i + 1)
theorem idx_shift {σ : Type} (p : σ → Bool) : ∀ (l : List σ) (i : Nat), idx p l i = (idx p l 0).map (· + i)
  | [], _ => rfl
  | x :: l, i => by
    simp only [idx]
    cases p x with
    | true => simp
    | false =>
      simp only [cond_false]
      rw [idx_shift p l (i + 1), idx_shift p l (0 + 1)]
      cases idx p l 0 with
      | none => rfl
      | some n => simp; omega
theorem idx_some {σ : Type} {p : σ → Bool} : ∀ {l : List σ} {n : Nat}, idx p l 0 = some n → ∃ x, l[n]? = some x ∧ p x = true ∧ ∀ m y, m < n → l[m]? = some y → p y = false
  | [], _, h => by cases h
  | x :: l, n, h => by
    simp only [idx] at h
    cases hp : p x with
    | true =>
      rw [hp] at h
      simp only [cond_true, Option.some.injEq] at h
      subst h
      exact ⟨x, rfl, hp, fun m y hm => by omega⟩
    | false =>
      rw [hp] at h
      simp only [cond_false] at h
      rw [idx_shift] at h
      cases h2 : idx p l 0 with
      | none => rw [h2] at h; cases h
      | some k =>
        rw [h2] at h
        simp only [Option.map_some, Option.some.injEq] at h
        subst h
        obtain ⟨y, e1, e2, e3⟩ := idx_some h2
        refine ⟨y, by simpa using e1, e2, fun m z hm hz => ?_⟩
        cases m with
        | zero => simp at hz; subst hz; exact hp
        | succ m => exact e3 m z (by omega) (by simpa using hz)
theorem idx_none {σ : Type} {p : σ → Bool} : ∀ {l : List σ} {i : Nat}, idx p l i = none ↔ ∀ x ∈ l, p x = false
  | [], _ => by simp [idx]
  | x :: l, i => by
    simp only [idx, List.mem_cons, forall_eq_or_imp]
    cases hp : p x with
    | true => simp
    | false => simp only [cond_false, true_and]; exact idx_none
theorem idx_lt {σ : Type} {p : σ → Bool} {l : List σ} {n : Nat} (h : idx p l 0 = some n) : n < l.length := by
  obtain ⟨x, e, _⟩ := idx_some h
  exact (List.getElem?_eq_some_iff.1 e).1
def idxI {σ : Type} (p : σ → Bool) (l : List σ) : Int := match idx p l 0 with
  | some n => (n : Int)
  | none => -1
theorem iter_find {σ ρ : Type} {f : Int → Option (Int ⊕ ρ)} (p : σ → Bool) (F : Nat → ρ) (all : List σ) (fin : Option ρ)
    (h1 : ∀ i x, all[i]? = some x → f ((i : Nat) : Int) = some (bif p x then .inr (F i) else .inl ((i + 1 : Nat) : Int)))
    (h2 : f ((all.length : Nat) : Int) = outR fin) (hl : all.length < LF) :
    iter LF f 0 = match idx p all 0 with | some n => some (F n) | none => fin := by
  rw [iter_scan (fun x i => bif p x then some (F i) else none) all fin (fun i x hx _ => by rw [h1 i x hx]; cases p x <;> rfl) (fun _ => h2) hl, scan_idx]
  cases idx p all 0 <;> rfl
theorem idx_any {σ : Type} (p : σ → Bool) (l : List σ) : (idx p l 0).isSome = l.any p := by
  cases h : idx p l 0 with
  | none => rw [idx_none] at h; simp; intro x hx; simp [h x hx]
  | some n =>
    obtain ⟨x, e, hp, _⟩ := idx_some h
    simp only [Option.isSome_some]
    exact (List.any_eq_true.2 ⟨x, List.mem_of_getElem? e, hp⟩).symm
theorem idxI_nonneg {σ : Type} (p : σ → Bool) (l : List σ) : decide (idxI p l ≥ 0) = l.any p := by
  rw [← idx_any]; unfold idxI
  cases idx p l 0 with
  | none => rfl
  | some n => simp
theorem idxI_neg {σ : Type} (p : σ → Bool) (l : List σ) : decide (idxI p l < 0) = !l.any p := by
  rw [← idx_any]; unfold idxI
  cases idx p l 0 with
  | none => rfl
  | some n => simp
theorem iter_app {σ B α ρ : Type} {f : α → Option (α ⊕ ρ)} (mk : Int → List B → α) (h : σ → List B) (all : List σ) (fin : List B → Option ρ) (c : Nat) (hc : ∀ x ∈ all, (h x).length ≤ c) (a0 : List B)
    (h1 : ∀ i x a, all[i]? = some x → a.length ≤ a0.length + c * i → i < all.length → f (mk (i : Nat) a) = some (.inl (mk ((i + 1 : Nat) : Int) (a ++ h x))))
    (h2 : ∀ a, a.length ≤ a0.length + c * all.length → f (mk (all.length : Nat) a) = outR (fin a)) (hl : all.length < LF) :
    iter LF f (mk 0 a0) = fin (a0 ++ all.flatMap h) := by
  rw [iter_foldI mk (fun x _ a => a ++ h x) (fun i a => a.length ≤ a0.length + c * i) all fin a0 (fun i x a hx hg => h1 i x a hx hg (List.getElem?_eq_some_iff.1 hx).1)
    (fun i x a hx hg => by
      have := hc x (List.mem_of_getElem? hx)
      rw [List.length_append, Nat.mul_add]; omega) h2 hl (by omega)]
  rw [foldI_const]
  congr 1
  clear h1 h2 hc hl
  induction all generalizing a0 with
  | nil => simp
  | cons x l ih => rw [List.foldl_cons, ih, List.flatMap_cons, List.append_assoc]
theorem subI_take {α : Type} {xs : List α} {i : Nat} (h : i ≤ xs.length) : subI xs 0 (i : Int) = some (xs.take i) := by
  unfold subI
  rw [if_pos (by omega)]
  simp
theorem ltC_big {α : Type} {xs : List α} (h : xs.length ≤ 4398046511104) : ltC xs = some () := by unfold ltC; rw [if_pos h]
theorem ltC_of {α : Type} {xs : List α} (h : xs.length ≤ 1099511627776) : ltC xs = some () := ltC_big (by omega)
theorem dlt {i n : Nat} (h : i < n) : decide ((i : Int) < (n : Int)) = true := decide_eq_true (by omega)
theorem dnlt (n : Nat) : decide ((n : Int) < (n : Int)) = false := decide_eq_false (by omega)
end Go.K
namespace Go.K
open Go.Sl Go.Sx Go.Proofs
def It (n : Int) : ByteArray := ⟨(Lib.itoa n).toArray⟩
theorem dec_small {u : Nat} (h : u < 10) : Lib.decDigits u = [UInt8.ofNat (48 + u)] := by rw [Lib.decDigits, dif_pos h]
theorem dec_big {u : Nat} (h : ¬ u < 10) : Lib.decDigits u = Lib.decDigits (u / 10) ++ [UInt8.ofNat (48 + u % 10)] := by rw [Lib.decDigits, dif_neg h]
theorem dec_len : ∀ (u : Nat), 1 ≤ (Lib.decDigits u).length ∧ (Lib.decDigits u).length ≤ u + 1 := by
  intro u
  induction u using Nat.strongRecOn with
  | _ u ih =>
    by_cases h : u < 10
    · rw [dec_small h]; simp
    · rw [dec_big h]
      have := ih (u / 10) (by omega)
      simp only [List.length_append, List.length_singleton]
      omega
theorem size_app (s t : ByteArray) : (s ++ t).size = s.size + t.size := by
  rw [size_len, size_len, size_len, app_data, List.length_append]
theorem bts_size (l : List Nat) : (bts l).size = l.length := by rw [size_len]; simp [bts]
def isD (b : UInt8) : Bool := decide (48 ≤ b.toNat ∧ b.toNat ≤ 57)
def valF (d : List UInt8) (a : Int) : Int := d.foldl (fun n b => 10 * n + ((b.toNat : Int) - 48)) a
def valD (d : List UInt8) : Int := valF d 0
def okD (m : Nat) (d : List UInt8) : Bool := decide (1 ≤ d.length ∧ d.length ≤ m ∧ ¬ (1 < d.length ∧ d.head? = some 48)) && d.all isD
def num (m : Nat) (w : List UInt8) (sg : Bool) : Option Int :=
  if w.head? = some 45 then (if sg && okD m w.tail && decide (w.tail.head? ≠ some 48) then some (-valD w.tail) else none) else if okD m w then some (valD w) else none
theorem isD_iff {b : UInt8} : isD b = true ↔ 48 ≤ b.toNat ∧ b.toNat ≤ 57 := by unfold isD; simp
theorem byteAt_ofL {l : List UInt8} {i : Nat} {b : UInt8} (h : l[i]? = some b) : byteAt (ofL l) (i : Int) = some ((b.toNat : Nat) : Int) := byteAt_nat (by unfold ofL; rw [ofL_data]; exact h)
theorem byteAt_0 {c : UInt8} {l : List UInt8} : byteAt (ofL (c :: l)) 0 = some ((c.toNat : Nat) : Int) := byteAt_ofL (i := 0) rfl
theorem nat_eq {b : UInt8} {n : Nat} (hn : n < 256) : (((b.toNat : Nat) : Int) = (n : Int)) ↔ b = UInt8.ofNat n := by
  constructor
  · intro h
    apply UInt8.toNat_inj.1
    rw [UInt8.toNat_ofNat']
    omega
  · intro h
    subst h
    rw [UInt8.toNat_ofNat']
    omega
theorem b48 {b : UInt8} : (((b.toNat : Nat) : Int) = (48 : Int)) ↔ b = 48 := nat_eq (n := 48) (by omega)
theorem b35 {b : UInt8} : (((b.toNat : Nat) : Int) = (35 : Int)) ↔ b = 35 := nat_eq (n := 35) (by omega)
theorem okD_45 (m : Nat) (r : List UInt8) : okD m (45 :: r) = false := by
  unfold okD
  rw [List.all_cons]
  have : isD 45 = false := by decide
  rw [this]; simp
def pairN (o : Option Int) : Int × Bool := match o with
  | some n => (n, true)
  | none => (0, false)
theorem dig10 (b : UInt8) : (bts [48, 49, 50, 51, 52, 53, 54, 55, 56, 57]).data.toList.contains b = isD b := by
  have : ∀ n : Fin 256, (bts [48, 49, 50, 51, 52, 53, 54, 55, 56, 57]).data.toList.contains (UInt8.ofNat n.val) = isD (UInt8.ofNat n.val) := by decide +kernel
  have h := this ⟨b.toNat, UInt8.toNat_lt b⟩
  simpa using h
theorem dropW_nil {α : Type} {p : α → Bool} : ∀ {l : List α}, l.dropWhile p = [] ↔ l.all p = true
  | [] => by simp
  | x :: l => by
    rw [List.dropWhile_cons, List.all_cons]
    cases h : p x with
    | true => simpa using dropW_nil (p := p) (l := l)
    | false => simp
theorem trimS_nil (l cs : List UInt8) : Lib.trimS l cs = [] ↔ l.all (fun b => cs.contains b) = true := by
  unfold Lib.trimS Lib.trimLeftS Lib.trimRightS
  rw [dropW_nil, List.all_eq_true]
  constructor
  · intro h
    rw [List.all_eq_true]
    by_cases hd : (l.reverse.dropWhile (cs.contains ·)) = []
    · rw [dropW_nil, List.all_reverse, List.all_eq_true] at hd
      exact hd
    · exfalso
      obtain ⟨x, r, hx⟩ := List.exists_cons_of_ne_nil hd
      have h1 := List.head?_dropWhile_not (cs.contains ·) l.reverse
      rw [hx] at h1
      simp only [List.head?_cons] at h1
      have h2 := h x (by rw [hx]; simp)
      simp at h1 h2
      exact h1 h2
  · intro h x hx
    rw [List.all_eq_true] at h
    have hx' := List.mem_reverse.1 hx
    exact h x (List.mem_reverse.1 ((List.dropWhile_sublist _).mem hx'))
theorem trimC_dig {d : List UInt8} (h : d.length ≤ 9223372036854775807) : ∃ r, trimC (ofL d) (bts [48, 49, 50, 51, 52, 53, 54, 55, 56, 57]) = some r ∧ (ByteArray.toList r == ([] : List UInt8)) = d.all isD := by
  unfold trimC
  rw [if_pos ⟨by rw [ofL_size]; exact h, by decide, by decide +kernel⟩]
  refine ⟨_, rfl, ?_⟩
  rw [eqL', ofL_data]
  have e : (ofL d).data.toList = d := by unfold ofL; rw [ofL_data]
  rw [e]
  have : (fun b => (bts [48, 49, 50, 51, 52, 53, 54, 55, 56, 57]).data.toList.contains b) = isD := funext dig10
  have k := trimS_nil d (bts [48, 49, 50, 51, 52, 53, 54, 55, 56, 57]).data.toList
  rw [this] at k
  cases hD : d.all isD with
  | true => rw [decide_eq_true (k.2 hD)]
  | false => rw [decide_eq_false (fun h => by rw [k.1 h] at hD; cases hD)]
theorem parse10 : ∀ (l : List UInt8) (acc : Nat), l.all isD = true → (acc + 1) * 10 ^ l.length ≤ 10 ^ 18 → ∃ u, Lib.parseUint10 acc l = .ok u ∧ (u : Int) = valF l acc ∧ u < 10 ^ 18
  | [], acc, _, h => ⟨acc, rfl, rfl, by simp at h; omega⟩
  | x :: l, acc, hD, h => by
    simp only [List.all_cons, Bool.and_eq_true] at hD
    have hx := isD_iff.1 hD.1
    have hp : 10 ^ (l.length + 1) = 10 ^ l.length * 10 := Nat.pow_succ ..
    simp only [List.length_cons, hp] at h
    have h1 : 1 ≤ 10 ^ l.length := Nat.one_le_pow _ _ (by decide)
    have h2 : (acc + 1) * 10 ≤ 10 ^ 18 := by
      calc (acc + 1) * 10 ≤ (acc + 1) * (10 ^ l.length * 10) := Nat.mul_le_mul_left _ (by omega)
        _ ≤ 10 ^ 18 := h
    have h3 : (acc * 10 + (x.toNat - 48) + 1) * 10 ^ l.length ≤ 10 ^ 18 := by
      calc (acc * 10 + (x.toNat - 48) + 1) * 10 ^ l.length ≤ ((acc + 1) * 10) * 10 ^ l.length := Nat.mul_le_mul_right _ (by omega)
        _ = (acc + 1) * (10 ^ l.length * 10) := by rw [Nat.mul_assoc, Nat.mul_comm 10]
        _ ≤ 10 ^ 18 := h
    have h18 : 10 ^ 18 = 1000000000000000000 := by decide
    obtain ⟨u, u1, u2, u3⟩ := parse10 l (acc * 10 + (x.toNat - 48)) hD.2 h3
    refine ⟨u, ?_, ?_, u3⟩
    · simp only [Lib.parseUint10]
      rw [if_pos hx, if_neg (by omega), if_neg (by omega), u1]
    · rw [u2]
      simp only [valF, List.foldl_cons]
      congr 1
      omega
theorem atoiC_pos {d : List UInt8} (h : okD 13 d = true) : atoiC (ofL d) = some (valD d) := by
  unfold okD at h
  simp only [Bool.and_eq_true, decide_eq_true_eq] at h
  obtain ⟨⟨h1, h2, _⟩, hD⟩ := h
  obtain ⟨c, r, rfl⟩ := List.exists_cons_of_ne_nil (show d ≠ [] by intro hd; rw [hd] at h1; simp at h1)
  have hp : (0 + 1) * 10 ^ (c :: r).length ≤ 10 ^ 18 := by
    rw [Nat.zero_add, Nat.one_mul]; exact Nat.pow_le_pow_right (by decide) (by omega)
  obtain ⟨u, u1, u2, u3⟩ := parse10 (c :: r) 0 hD hp
  have hc : isD c = true := by simp only [List.all_cons, Bool.and_eq_true] at hD; exact hD.1
  have hx := isD_iff.1 hc
  have eD : (ofL (c :: r)).data.toList = c :: r := by unfold ofL; rw [ofL_data]
  have h18 : 10 ^ 18 = 1000000000000000000 := by decide
  unfold atoiC
  rw [if_pos (by rw [ofL_size]; omega), eD]
  have e1 : ¬ (c.toNat = 43 ∨ c.toNat = 45) := by omega
  have e2 : ¬ c.toNat = 45 := by omega
  have hm : Lib.parseMag (c :: r) = .ok u := by unfold Lib.parseMag; rw [if_neg (by simp), u1]
  have ha : Lib.atoiAll (c :: r) = .ok (u : Int) := by
    unfold Lib.atoiAll
    simp only
    rw [if_neg e1, hm]
    simp only
    rw [if_neg (by omega), if_neg (by omega), if_neg e2]
  rw [ha]
  simp only
  rw [u2]; rfl
theorem atoiC_neg {d : List UInt8} (h : okD 13 d = true) : atoiC (ofL (45 :: d)) = some (-valD d) := by
  unfold okD at h
  simp only [Bool.and_eq_true, decide_eq_true_eq] at h
  obtain ⟨⟨h1, h2, _⟩, hD⟩ := h
  obtain ⟨c, r, rfl⟩ := List.exists_cons_of_ne_nil (show d ≠ [] by intro hd; rw [hd] at h1; simp at h1)
  have hp : (0 + 1) * 10 ^ (c :: r).length ≤ 10 ^ 18 := by
    rw [Nat.zero_add, Nat.one_mul]; exact Nat.pow_le_pow_right (by decide) (by omega)
  obtain ⟨u, u1, u2, u3⟩ := parse10 (c :: r) 0 hD hp
  have eD : (ofL (45 :: c :: r)).data.toList = 45 :: c :: r := by unfold ofL; rw [ofL_data]
  have h18 : 10 ^ 18 = 1000000000000000000 := by decide
  unfold atoiC
  rw [if_pos (by rw [ofL_size]; simp only [List.length_cons] at h2 ⊢; omega), eD]
  have e1 : ((45 : UInt8).toNat = 43 ∨ (45 : UInt8).toNat = 45) := .inr rfl
  have e2 : (45 : UInt8).toNat = 45 := rfl
  have hm : Lib.parseMag (c :: r) = .ok u := by unfold Lib.parseMag; rw [if_neg (by simp), u1]
  have ha : Lib.atoiAll (45 :: c :: r) = .ok (-(u : Int)) := by
    unfold Lib.atoiAll
    simp only
    rw [if_pos e1, hm]
    simp only
    rw [if_neg (by omega), if_neg (by omega), if_pos e2]
  rw [ha]
  simp only
  rw [u2]; rfl
theorem dec_all : ∀ u : Nat, ∀ b ∈ Lib.decDigits u, isD b = true := by
  intro u
  induction u using Nat.strongRecOn with
  | _ u ih =>
    intro b hb
    by_cases h : u < 10
    · rw [dec_small h] at hb
      simp only [List.mem_singleton] at hb
      subst hb
      rw [isD_iff, UInt8.toNat_ofNat']; omega
    · rw [dec_big h] at hb
      rcases List.mem_append.1 hb with hb | hb
      · exact ih (u / 10) (by omega) b hb
      · simp only [List.mem_singleton] at hb
        subst hb
        rw [isD_iff, UInt8.toNat_ofNat']; omega
theorem head_app {α : Type} {a b : List α} (h : a ≠ []) : (a ++ b).head? = a.head? := by
  cases a with
  | nil => exact absurd rfl h
  | cons _ _ => rfl
theorem dec_head : ∀ u : Nat, 1 ≤ u → (Lib.decDigits u).head? ≠ some 48 := by
  intro u
  induction u using Nat.strongRecOn with
  | _ u ih =>
    intro h1
    by_cases h : u < 10
    · rw [dec_small h]
      intro e
      simp only [List.head?_cons, Option.some.injEq] at e
      have := congrArg UInt8.toNat e
      rw [UInt8.toNat_ofNat'] at this
      have e48 : (48 : UInt8).toNat = 48 := rfl
      omega
    · rw [dec_big h]
      have hl := (dec_len (u / 10)).1
      rw [head_app (by intro e; rw [e] at hl; simp at hl)]
      exact ih (u / 10) (by omega) (by omega)
theorem dec_len10 : ∀ (k u : Nat), u < 10 ^ (k + 1) → (Lib.decDigits u).length ≤ k + 1
  | k, u, h => by
    by_cases h1 : u < 10
    · rw [dec_small h1]; simp
    · cases k with
      | zero => simp at h; omega
      | succ k =>
        rw [dec_big h1]
        have hp : 10 ^ (k + 1 + 1) = 10 ^ (k + 1) * 10 := Nat.pow_succ ..
        have := dec_len10 k (u / 10) (by omega)
        simp; omega
theorem valF_app (a b : List UInt8) (n : Int) : valF (a ++ b) n = valF b (valF a n) := by unfold valF; rw [List.foldl_append]
theorem dec_val : ∀ u : Nat, valD (Lib.decDigits u) = (u : Int) := by
  intro u
  induction u using Nat.strongRecOn with
  | _ u ih =>
    by_cases h : u < 10
    · rw [dec_small h]
      unfold valD valF
      simp only [List.foldl_cons, List.foldl_nil, UInt8.toNat_ofNat']
      omega
    · have e := ih (u / 10) (by omega)
      rw [dec_big h]
      unfold valD at e ⊢
      rw [valF_app, e]
      unfold valF
      simp only [List.foldl_cons, List.foldl_nil, UInt8.toNat_ofNat']
      omega
theorem dec_ok {m k u : Nat} (h : u < 10 ^ (k + 1)) (hm : k + 1 ≤ m) : okD m (Lib.decDigits u) = true := by
  unfold okD
  rw [Bool.and_eq_true, decide_eq_true_eq]
  have h1 := (dec_len u).1
  have h2 := dec_len10 k u h
  refine ⟨⟨h1, by omega, fun ⟨k1, k2⟩ => ?_⟩, List.all_eq_true.2 (dec_all u)⟩
  by_cases hu : 1 ≤ u
  · exact dec_head u hu k2
  · have : u = 0 := by omega
    subst this
    rw [dec_small (by omega)] at k1
    simp at k1
theorem itoa_neg {n : Int} (h : n < 0) : Lib.itoa n = 45 :: Lib.decDigits n.natAbs := by unfold Lib.itoa; rw [if_pos h]
theorem itoa_pos {n : Int} (h : ¬ n < 0) : Lib.itoa n = Lib.decDigits n.toNat := by unfold Lib.itoa; rw [if_neg h]
theorem itoa_mem {n : Int} {b : UInt8} (h : b ∈ Lib.itoa n) : b = 45 ∨ isD b = true := by
  by_cases hn : n < 0
  · rw [itoa_neg hn] at h
    rcases List.mem_cons.1 h with h | h
    · exact .inl h
    · exact .inr (dec_all _ b h)
  · rw [itoa_pos hn] at h
    exact .inr (dec_all _ b h)
theorem itoa_no {n : Int} {b c : UInt8} (h : b ∈ Lib.itoa n) (hc : c ≠ 45) (hd : isD c = false) : b ≠ c := by
  rintro rfl
  rcases itoa_mem h with h | h
  · exact hc h
  · rw [hd] at h; cases h
theorem itoa_ne (n : Int) : Lib.itoa n ≠ [] := by
  intro e
  by_cases hn : n < 0
  · rw [itoa_neg hn] at e; cases e
  · rw [itoa_pos hn] at e
    have := (dec_len n.toNat).1
    rw [e] at this
    simp at this
end Go.K
namespace Go.K
open Go.Sl Go.Sx
variable {e e' e0 : KE} {σ σ' σ1 σ2 : List Blk} {As As0 L0 L A' : List Atom} {P : Program} {w : World} {N : Nat} {ρ : Type} {z z' : Zone} {E : Env}
inductive CK where
  | d (u : TC) | o (u : TC) (E : TypeId)
abbrev ckT : List CK → Type
  | [] => Unit
  | .d u :: r => u.den × ckT r
  | .o u _ :: r => List u.den × ckT r
def CellsR (z : Zone) : (l : List CK) → ckT l → List Value → List Atom → Prop
  | [], _, vs, Os => vs = [] ∧ Os = []
  | .d u :: l, x, vs, Os => ∃ v vs', vs = v :: vs' ∧ u.ty.rep z [v] x.1 ∧ CellsR z l x.2 vs' Os
  | .o u E :: l, x, vs, Os => ∃ o c vs' Os', vs = .slice o x.1.length c :: vs' ∧ Os = ownS u.ty E o c x.1 :: Os' ∧ CellsR z l x.2 vs' Os'
theorem CellsR.mono (h : z.le z') : ∀ {l : List CK} {x : ckT l} {vs : List Value} {Os : List Atom}, CellsR z l x vs Os → CellsR z' l x vs Os
  | [], _, _, _, k => k
  | .d u :: l, x, _, _, ⟨v, vs', h1, h2, h3⟩ => ⟨v, vs', h1, Ty.mono _ h h2, h3.mono h⟩
  | .o u E :: l, x, _, _, ⟨o, c, vs', Os', h1, h2, h3⟩ => ⟨o, c, vs', Os', h1, h2, h3.mono h⟩
theorem CellsR.one : ∀ {l : List CK} {x : ckT l} {vs : List Value} {Os : List Atom}, CellsR z l x vs Os → oneCells vs = true
  | [], _, _, _, ⟨h, _⟩ => by subst h; rfl
  | .d u :: l, x, _, _, ⟨v, vs', h1, h2, h3⟩ => by
    subst h1
    simp only [oneCells, Bool.and_eq_true]
    exact ⟨u.ty.one h2 v (by simp), h3.one⟩
  | .o u E :: l, x, _, _, ⟨o, c, vs', Os', h1, h2, h3⟩ => by
    subst h1
    simp only [oneCells, Bool.and_eq_true]
    exact ⟨rfl, h3.one⟩
theorem CellsR.len : ∀ {l : List CK} {x : ckT l} {vs : List Value} {Os : List Atom}, CellsR z l x vs Os → vs.length = l.length
  | [], _, _, _, ⟨h, _⟩ => by subst h; rfl
  | .d u :: l, x, _, _, ⟨v, vs', h1, h2, h3⟩ => by subst h1; simp [h3.len]
  | .o u E :: l, x, _, _, ⟨o, c, vs', Os', h1, h2, h3⟩ => by subst h1; simp [h3.len]
def takeC (σ : List Blk) : (l : List CK) → List SV → Option (ckT l × List Blk × List Nat)
  | [], [] => some ((), σ, [])
  | .d u :: l, s :: cs => match u.ofL [resC σ s] with
    | some (x, []) => match takeC σ l cs with
      | some (y, r) => some ((x, y), r)
      | none => none
    | _ => none
  | .o u E :: l, .own id :: cs => match at' σ id with
    | some (.own u' E' xs) => bif Nat.beq E' E then (if h : u' = u then (match takeC (setAt σ id .gone) l cs with
        | some (y, σ', ids) => some ((h ▸ xs, y), σ', id :: ids)
        | none => none) else none) else none
    | _ => none
  | .o u E :: l, .raw v :: cs => bif isNil v then (match takeC σ l cs with
      | some (y, r) => some (([], y), r)
      | none => none) else none
  | _, _ => none
theorem takeC_ok : ∀ (l : List CK) {cs : List SV} {vs : List Value} {σ σ1 : List Blk} {As L : List Atom} {w : World} {st : ckT l} {ids : List Nat}, takeC σ l cs = some (st, σ1, ids) → Mem e σ As → IsL e cs vs → St e.z (As ++ L) w →
    ∃ X Os, CellsR e.z l st vs Os ∧ Mem e σ1 X ∧ St e.z (X ++ (Os ++ L)) w ∧ X.length = As.length ∧ σ1.length = σ.length ∧ (∀ j, j ∉ ids → at' σ1 j = at' σ j) ∧ (∀ j ∈ ids, ∃ u E xs, at' σ j = some (.own u E xs) ∧ at' σ1 j = some .gone)
  | [], [], vs, σ, σ1, As, L, w, st, ids, h, hm, hl, hs => by
    simp only [takeC, Option.some.injEq, Prod.mk.injEq] at h
    obtain ⟨_, rfl, rfl⟩ := h
    cases hl
    exact ⟨As, [], ⟨rfl, rfl⟩, hm, by simpa using hs, rfl, rfl, fun _ _ => rfl, by simp⟩
  | .d u :: l, s :: cs, _, σ, σ1, As, L, w, st, ids, h, hm, .cons (v := v) (m := vs) hv hl, hs => by
    simp only [takeC] at h
    split at h
    · rename_i x hx
      split at h
      · rename_i y r hy
        simp only [Option.some.injEq, Prod.mk.injEq] at h
        obtain ⟨rfl, rfl⟩ := h
        obtain ⟨v1, v2, q1, q2, q3⟩ := ofL_is u hx (.cons (resC_is hm hv) .nil)
        cases q3
        rw [List.append_nil] at q1
        subst q1
        obtain ⟨X, Os, k1, k2, k3, k4, k5, k6, k7⟩ := takeC_ok l hy hm hl hs
        exact ⟨X, Os, ⟨v, vs, rfl, q2, k1⟩, k2, k3, k4, k5, k6, k7⟩
      · cases h
    · cases h
  | .o u E :: l, .own id :: cs, _, σ, σ1, As, L, w, st, ids, h, hm, .cons (v := v) (m := vs) hv hl, hs => by
    simp only [takeC] at h
    split at h
    · rename_i u' E' xs hB
      cases hb : Nat.beq E' E with
      | false => rw [hb] at h; cases h
      | true =>
        rw [hb] at h
        have := Nat.eq_of_beq_eq_true hb
        subst this
        simp only [cond_true] at h
        split at h
        · rename_i hu
          subst hu
          split at h
          · rename_i y σ' ids' hy
            simp only [Option.some.injEq, Prod.mk.injEq] at h
            obtain ⟨rfl, rfl, rfl⟩ := h
            obtain ⟨i, m1, m2, m3⟩ := hm.len hB
            cases hv with
            | own hi =>
              rw [m1] at hi; cases hi
              obtain ⟨X, Os, k1, k2, k3, k4, k5, k6, k7⟩ := takeC_ok l hy (hm.set m1 (A := emp) .gone) hl (st_take hs m3)
              rw [len_setAt] at k4 k5
              have hid := at_lt hB
              refine ⟨X, ownS u'.ty E' i.o i.c xs :: Os, ⟨i.o, i.c, vs, Os, by rw [← m2], rfl, k1⟩, k2, ?_, k4, k5, fun j hj => ?_, fun j hj => ?_⟩
              · refine k3.perm ?_
                refine List.Perm.append_left X ?_
                exact List.perm_middle
              · simp only [List.mem_cons, not_or] at hj
                rw [k6 j hj.2, at_set_ne hid (Ne.symm hj.1)]
              · by_cases hji : j = id
                · subst hji
                  refine ⟨u', E', xs, hB, ?_⟩
                  by_cases hm2 : j ∈ ids'
                  · obtain ⟨_, _, _, _, g⟩ := k7 j hm2; exact g
                  · rw [k6 j hm2, at_set hid]
                · have hj' : j ∈ ids' := (List.mem_cons.1 hj).resolve_left hji
                  obtain ⟨u2, E2, xs2, g1, g2⟩ := k7 j hj'
                  rw [at_set_ne hid (Ne.symm hji)] at g1
                  exact ⟨u2, E2, xs2, g1, g2⟩
          · cases h
        · cases h
    · cases h
  | .o u E :: l, .raw r0 :: cs, _, σ, σ1, As, L, w, st, ids, h, hm, .cons (v := v) (m := vs) hv hl, hs => by
    simp only [takeC] at h
    cases hn : isNil r0 with
    | false => rw [hn] at h; cases h
    | true =>
      rw [hn] at h
      simp only [cond_true] at h
      split at h
      · rename_i y r hy
        simp only [Option.some.injEq, Prod.mk.injEq] at h
        obtain ⟨rfl, rfl⟩ := h
        have hv0 := isNil_eq hn
        subst hv0
        cases hv
        have h1 : St e.z (As ++ (ownS u.ty E none 0 [] :: L)) w := (hs.ownNil u.ty E).perm List.perm_middle.symm
        obtain ⟨X, Os, k1, k2, k3, k4, k5, k6, k7⟩ := takeC_ok l hy hm hl h1
        refine ⟨X, ownS u.ty E none 0 [] :: Os, ⟨none, 0, vs, Os, rfl, rfl, k1⟩, k2, ?_, k4, k5, k6, k7⟩
        refine k3.perm ?_
        exact List.Perm.append_left X List.perm_middle
      · cases h
  | [], _ :: _, _, _, _, _, _, _, _, _, h, _, _, _ => by simp [takeC] at h
  | .d _ :: _, [], _, _, _, _, _, _, _, _, h, _, _, _ => by simp [takeC] at h
  | .o _ _ :: _, [], _, _, _, _, _, _, _, _, h, _, _, _ => by simp [takeC] at h
  | .o _ _ :: _, .int .. :: _, _, _, _, _, _, _, _, _, h, _, _, _ => by simp [takeC] at h
  | .o _ _ :: _, .bool .. :: _, _, _, _, _, _, _, _, _, h, _, _, _ => by simp [takeC] at h
  | .o _ _ :: _, .str .. :: _, _, _, _, _, _, _, _, _, h, _, _, _ => by simp [takeC] at h
  | .o _ _ :: _, .ptr .. :: _, _, _, _, _, _, _, _, _, h, _, _, _ => by simp [takeC] at h
  | .o _ _ :: _, .sl .. :: _, _, _, _, _, _, _, _, _, h, _, _, _ => by simp [takeC] at h
  | .o _ _ :: _, .el .. :: _, _, _, _, _, _, _, _, _, h, _, _, _ => by simp [takeC] at h
  | .o _ _ :: _, .oel .. :: _, _, _, _, _, _, _, _, _, h, _, _, _ => by simp [takeC] at h
  | .o _ _ :: _, .agg .. :: _, _, _, _, _, _, _, _, _, h, _, _, _ => by simp [takeC] at h
  | .o _ _ :: _, .tup .. :: _, _, _, _, _, _, _, _, _, h, _, _, _ => by simp [takeC] at h
  | .o _ _ :: _, .fn .. :: _, _, _, _, _, _, _, _, _, h, _, _, _ => by simp [takeC] at h
  | .o _ _ :: _, .ifc .. :: _, _, _, _, _, _, _, _, _, h, _, _, _ => by simp [takeC] at h
  | .o _ _ :: _, .nilp .. :: _, _, _, _, _, _, _, _, _, h, _, _, _ => by simp [takeC] at h
  | .o _ _ :: _, .yld .. :: _, _, _, _, _, _, _, _, _, h, _, _, _ => by simp [takeC] at h
  | .o _ _ :: _, .mp .. :: _, _, _, _, _, _, _, _, _, h, _, _, _ => by simp [takeC] at h
  | .o _ _ :: _, .nsl .. :: _, _, _, _, _, _, _, _, _, h, _, _, _ => by simp [takeC] at h
  | .o _ _ :: _, .mpc .. :: _, _, _, _, _, _, _, _, _, h, _, _, _ => by simp [takeC] at h
  | .o _ _ :: _, .any :: _, _, _, _, _, _, _, _, _, h, _, _, _ => by simp [takeC] at h
def giveC (σ : List Blk) : (l : List CK) → ckT l → List SV × List Blk
  | [], _ => ([], σ)
  | .d u :: l, x => match giveC σ l x.2 with
    | (cs, σ') => ((u.exp x.1).headD .any :: cs, σ')
  | .o u E :: l, x => match giveC (.own u E x.1 :: σ) l x.2 with
    | (cs, σ') => (.own σ.length :: cs, σ')
theorem head_is {u : TC} {v : Value} {x : u.den} (h : u.ty.rep e.z [v] x) : Is e ((u.exp x).headD .any) v := by
  have := exp_is (e := e) u h
  revert this
  generalize u.exp x = l
  intro this
  cases this with
  | cons a b => exact a
theorem giveC_ok : ∀ (l : List CK) {x : ckT l} {vs : List Value} {c : KE} {σ : List Blk} {X Os L : List Atom} {w : World}, CellsR c.z l x vs Os → Mem c σ X → St c.z (X ++ (Os ++ L)) w →
    ∃ c' Y, c.le c' ∧ c'.z = c.z ∧ IsL c' (giveC σ l x).1 vs ∧ Mem c' (giveC σ l x).2 (Y ++ X) ∧ St c.z ((Y ++ X) ++ L) w ∧ ∃ D, (giveC σ l x).2 = D ++ σ
  | [], x, vs, c, σ, X, Os, L, w, ⟨h1, h2⟩, hm, hs => by
    subst h1 h2
    exact ⟨c, [], .rfl, rfl, .nil, by simpa [giveC] using hm, by simpa using hs, [], by simp [giveC]⟩
  | .d u :: l, x, vs, c, σ, X, Os, L, w, ⟨v, vs', h1, h2, h3⟩, hm, hs => by
    subst h1
    obtain ⟨c', Y, k1, k2, k3, k4, k5, D, k6⟩ := giveC_ok l h3 hm hs
    refine ⟨c', Y, k1, k2, ?_, by simpa [giveC] using k4, k5, D, by simpa [giveC] using k6⟩
    simp only [giveC]
    exact .cons ((head_is h2).mono k1) k3
  | .o u E :: l, x, vs, c, σ, X, Os, L, w, ⟨o, cp, vs', Os', h1, h2, h3⟩, hm, hs => by
    subst h1 h2
    have hm2 : Mem (c.push ⟨0, o, x.1.length, cp⟩) (.own u E x.1 :: σ) (ownS u.ty E o cp x.1 :: X) := hm.push (i := ⟨0, o, x.1.length, cp⟩) (.own rfl)
    have hs2 : St c.z ((ownS u.ty E o cp x.1 :: X) ++ (Os' ++ L)) w := hs.perm List.perm_middle
    obtain ⟨c', Y, k1, k2, k3, k4, k5, D, k6⟩ := giveC_ok l (c := c.push ⟨0, o, x.1.length, cp⟩) h3 hm2 hs2
    refine ⟨c', Y ++ [ownS u.ty E o cp x.1], (KE.le_push c _).trans k1, k2, ?_, ?_, ?_, D ++ [.own u E x.1], ?_⟩
    · simp only [giveC]
      refine .cons ?_ k3
      refine Is.own (i := ⟨0, o, x.1.length, cp⟩) (k1.at ?_)
      show at' (_ :: c.bs) σ.length = _
      rw [hm.lb]; exact at_new
    · simpa [giveC] using k4
    · have k5' : St c.z ((Y ++ (ownS u.ty E o cp x.1 :: X)) ++ L) w := k5
      simpa using k5'
    · simp only [giveC]
      rw [k6]; simp
theorem giveC_len : ∀ (l : List CK) (σ : List Blk) (x : ckT l), (giveC σ l x).1.length = l.length
  | [], σ, x => rfl
  | .d u :: l, σ, x => by simp [giveC, giveC_len l]
  | .o u E :: l, σ, x => by simp [giveC, giveC_len l]
def anyL (n : Nat) : List SV := List.replicate n .any
theorem anyL_is : ∀ (vs : List Value), IsL e (anyL vs.length) vs
  | [] => .nil
  | v :: vs => by
    show IsL e (List.replicate (vs.length + 1) SV.any) (v :: vs)
    rw [List.replicate_succ]
    exact .cons (.any v) (anyL_is vs)
def endR (z : Zone) (L : List Atom) (w : World) (b : Nat) (T : TypeId) (n : Nat) (cks : List CK) (rs : List AT) (pT : TypeId) (u : AT) : (ckT cks × tt rs) ⊕ u.2.den → Ending → Prop
  | .inl y, en => ∃ cv Os, CellsR z cks y.1 cv Os ∧ St z (box b cv T :: (Os ++ L)) w ∧ ∃ v, en = .returned v ∧ repR z rs v y.2
  | .inr p, en => ∃ cv, cv.length = n ∧ oneCells cv = true ∧ St z (box b cv T :: L) w ∧ ∃ v, en = .panicked (pch (.iface pT v)) ∧ repA z u v p
def ValidR (E : Env) (P : Program) (g : FuncId) (T : TypeId) (cks : List CK) (az rs : List AT) (pT : TypeId) (u : AT) (F : ckT cks × tt az → Option ((ckT cks × tt rs) ⊕ u.2.den)) : Prop :=
  ∀ {x : ckT cks × tt az} {y : (ckT cks × tt rs) ⊕ u.2.den}, F x = some y → ∀ {z : Zone} {L : List Atom} {w : World} {b : Nat} {cv vs : List Value} {Os : List Atom}, E.P z → CellsR z cks x.1 cv Os → repAs z az vs x.2 → St z (box b cv T :: (Os ++ L)) w →
  Calls P g (.pointer (some ⟨b, 0, none⟩) :: vs).toArray w fun en w' => ∃ z', z.le z' ∧ endR z' L w' b T cks.length cks rs pT u y en
def lgC (id n : Nat) (ids : List Nat) (lg : List (Nat × Nat)) : List (Nat × Nat) := offs id 0 n ++ (ids.map (fun i => (i, 0)) ++ lg)
def refCon (T : TypeId) (cks : List CK) (az rs : List AT) (pT : TypeId) (u : AT) (F : ckT cks × tt az → Option ((ckT cks × tt rs) ⊕ u.2.den)) : Con where
  run := fun args m k => match args with
    | .ptr id 0 :: rest =>
      let m1 := frzL m (cellsL rest)
      match at' m1.σ id with
      | some (.cells T' cs) => bif Nat.beq T' T && Nat.ble 1 cs.length then
          (match takeC (setAt m1.σ id .gone) cks cs, toAs az (rest.map (res m1.σ)) with
          | some (st, σ1, ids), some x => (F (st, x)).bind fun y => sm y
              (fun q => match giveC σ1 cks q.1 with | (cs', σ2) => k (.val (fromR rs q.2)) ⟨setAt σ2 id (.cells T cs'), lgC id cs.length ids m1.lg⟩)
              (fun p => k (.pan (.ifc pT (fromA u p))) ⟨setAt σ1 id (.cells T (anyL cs.length)), lgC id cs.length ids m1.lg⟩)
          | _, _ => none) else none
      | _ => none
    | _ => none
theorem mem_lgC {id n : Nat} {ids : List Nat} {i j : Nat} : (i, j) ∈ offs id 0 n ++ ids.map (fun i => (i, 0)) ↔ (i = id ∧ j < n) ∨ (i ∈ ids ∧ j = 0) := by
  simp only [List.mem_append, offs, List.mem_map, List.mem_range'_1, Prod.mk.injEq]
  constructor
  · rintro (⟨a, h1, h2, h3⟩ | ⟨a, h1, h2, h3⟩)
    · exact .inl ⟨h2.symm, by omega⟩
    · exact .inr ⟨h2 ▸ h1, h3.symm⟩
  · rintro (⟨h1, h2⟩ | ⟨h1, h2⟩)
    · exact .inl ⟨j, by omega, h1.symm, rfl⟩
    · exact .inr ⟨i, h1, rfl, h2.symm⟩
theorem refExt {m1 : KM} {id : Nat} {T : TypeId} {cs cs' : List SV} {ids : List Nat} {D : List Blk} (hB : at' m1.σ id = some (.cells T cs)) (hl : cs'.length = cs.length) (h5 : σ1.length = m1.σ.length)
    (h6 : ∀ j, j ∉ ids → at' σ1 j = at' (setAt m1.σ id .gone) j) (h7 : ∀ j ∈ ids, ∃ u E xs, at' (setAt m1.σ id .gone) j = some (.own u E xs)) : ExtM m1 ⟨setAt (D ++ σ1) id (.cells T cs'), lgC id cs.length ids m1.lg⟩ := by
  have hid := at_lt hB
  have hid' : id < (D ++ σ1).length := by simp; omega
  have hni : id ∉ ids := fun h => by
    obtain ⟨u, E, xs, g⟩ := h7 id h
    rw [at_set hid] at g
    cases g
  refine ⟨offs id 0 cs.length ++ ids.map (fun i => (i, 0)), by simp [lgC], by rw [len_setAt]; simp; omega, fun {j U us} h => ?_, fun {j C} h hC hn => ?_⟩
  · by_cases hj : id = j
    · subst hj
      rw [hB] at h
      cases h
      refine ⟨cs', at_set hid', hl, fun o hno => ?_⟩
      have : ¬ o < cs.length := fun hlt => hno (mem_lgC.2 (.inl ⟨rfl, hlt⟩))
      rw [List.getElem?_eq_none (by omega), List.getElem?_eq_none (by omega)]
    · have hnj : j ∉ ids := fun hm => by
        obtain ⟨u, E, xs, g⟩ := h7 j hm
        rw [at_set_ne hid hj] at g
        rw [h] at g; cases g
      refine ⟨us, ?_, rfl, fun _ _ => rfl⟩
      show at' (setAt _ id _) j = _
      rw [at_set_ne hid' hj]
      refine at_app ?_ D
      rw [h6 j hnj, at_set_ne hid hj]; exact h
  · have hj : id ≠ j := fun e => by subst e; rw [hB] at h; exact hC _ _ (Option.some.inj h).symm
    have hnj : j ∉ ids := fun hm => hn (mem_lgC.2 (.inr ⟨hm, rfl⟩))
    show at' (setAt _ id _) j = _
    rw [at_set_ne hid' hj]
    refine at_app ?_ D
    rw [h6 j hnj, at_set_ne hid hj]; exact h
theorem refCon_ok {g : FuncId} {T : TypeId} {cks : List CK} {az rs : List AT} {pT : TypeId} {u : AT} {F : ckT cks × tt az → Option ((ckT cks × tt rs) ⊕ u.2.den)} (h : ValidR E P g T cks az rs pT u F) {L0 : List Atom} (hE : envA E ∈ L0) : ConOk P L0 (refCon T cks az rs pT u F) g := by
  intro ρ args vs m e As w k r hr h1 h2 hl
  simp only [refCon] at hr
  split at hr
  · rename_i id rest
    split at hr
    · rename_i T' cs hB
      cases hb : (Nat.beq T' T && Nat.ble 1 cs.length) with
      | false => rw [hb] at hr; cases hr
      | true =>
        rw [hb] at hr
        simp only [cond_true] at hr
        simp only [Bool.and_eq_true] at hb
        have := Nat.eq_of_beq_eq_true hb.1
        subst this
        have hpos := Nat.le_of_ble_eq_true hb.2
        split at hr
        · rename_i st σ1 ids x htk hx
          obtain ⟨y, hy, hk⟩ := bind_some hr
          cases hl with
          | cons hp hrest =>
            obtain ⟨e1, A1, g1, g2, g3⟩ := frzL_ok (cellsL rest) h1 h2
            have hrep := toAs_rep hx (resAll_is g2 (hrest.mono g1.le))
            obtain ⟨i, A, m1, m2, m3⟩ := g2.get hB
            cases m3 with
            | cells hc hone =>
              rename_i cv
              cases hp with
              | ptr hi =>
                rename_i i0
                have := g1.le.at hi
                rw [m1] at this; cases this
                have hE1 : E.P e1.z := envA_mem g3 (List.mem_append_right _ hE)
                obtain ⟨X, Os, k1, k2, k3, k4, k5, k6, k7⟩ := takeC_ok cks htk (g2.set m1 (A := emp) .gone) hc (st_take g3 m2)
                rw [len_setAt] at k4 k5
                have hst : St e1.z (box i.b cv T' :: (Os ++ (X ++ L0))) w := by
                  refine k3.perm ?_
                  have p1 : (X ++ (Os ++ (box i.b cv T' :: L0))).Perm (box i.b cv T' :: (X ++ (Os ++ L0))) := by
                    have q1 : (Os ++ (box i.b cv T' :: L0)).Perm (box i.b cv T' :: (Os ++ L0)) := List.perm_middle
                    exact (List.Perm.append_left X q1).trans List.perm_middle
                  have p2 : (X ++ (Os ++ L0)).Perm (Os ++ (X ++ L0)) := by
                    rw [← List.append_assoc, ← List.append_assoc]
                    exact List.Perm.append_right L0 List.perm_append_comm
                  exact p1.trans (p2.cons _)
                have hidlt : id < X.length := by rw [k4]; exact at_lt m2
                refine Calls.mono (h hy hE1 k1 hrep hst) ?_
                rintro en w' ⟨z', hz, hend⟩
                have hle : e1.le ⟨z', e1.bs⟩ := ⟨hz, [], rfl⟩
                have hcl := hc.len
                have h7' : ∀ j ∈ ids, ∃ u E xs, at' (setAt (frzL m (cellsL rest)).σ id .gone) j = some (.own u E xs) := fun j hj => let ⟨u, E, xs, q, _⟩ := k7 j hj; ⟨u, E, xs, q⟩
                have hlg : ∀ {σx : List Blk}, (⟨σx, lgC id cs.length ids (frzL m (cellsL rest)).lg⟩ : KM).lg.length = (frzL m (cellsL rest)).lg.length → False := fun {σx} hh => by
                  simp [lgC, offs] at hh; omega
                cases y with
                | inl q =>
                  obtain ⟨cv', Os', q1, q2, v, rfl, q3⟩ := hend
                  have hs1 : St z' (X ++ (Os' ++ (box i.b cv' T' :: L0))) w' := by
                    refine q2.perm ?_
                    have p1 : (X ++ (Os' ++ (box i.b cv' T' :: L0))).Perm (box i.b cv' T' :: (X ++ (Os' ++ L0))) := by
                      have q1 : (Os' ++ (box i.b cv' T' :: L0)).Perm (box i.b cv' T' :: (Os' ++ L0)) := List.perm_middle
                      exact (List.Perm.append_left X q1).trans List.perm_middle
                    have p2 : (X ++ (Os' ++ L0)).Perm (Os' ++ (X ++ L0)) := by
                      rw [← List.append_assoc, ← List.append_assoc]
                      exact List.Perm.append_right L0 List.perm_append_comm
                    exact (p1.trans (p2.cons _)).symm
                  obtain ⟨c', Y, r1, r2, r3, r4, r5, D, r6⟩ := giveC_ok cks (c := ⟨z', e1.bs⟩) q1 (k2.mono hle rfl) hs1
                  have hcle := hle.trans r1
                  simp only [sm] at hk
                  have hlen2 := giveC_len cks σ1 q.1
                  have hmem := r4.set (id := id) (B := .cells T' (giveC σ1 cks q.1).1) (A := box i.b cv' T') (hcle.at m1) (.cells r3 q1.one)
                  have hst2 : St c'.z (setAt (Y ++ X) id (box i.b cv' T') ++ L0) w' := by
                    rw [r2]; exact st_back r5 (by simp; omega)
                  refine ⟨_, _, c', _, hk, ⟨v, rfl, fromR_is (by rw [r2]; exact q3)⟩, g1.trans ⟨hcle, ?_, fun hh => (hlg hh).elim⟩, hmem, hst2⟩
                  rw [r6]
                  exact refExt hB (by rw [hlen2, ← k1.len, hcl]) k5 k6 h7'
                | inr p =>
                  obtain ⟨cv', q0, q1, q2, v, rfl, q3⟩ := hend
                  simp only [sm] at hk
                  have hn : cv'.length = cs.length := by rw [q0, hcl, k1.len]
                  have hs1 : St z' (X ++ (box i.b cv' T' :: L0)) w' := q2.perm List.perm_middle.symm
                  have hmem := (k2.mono hle rfl).set (id := id) (B := .cells T' (anyL cs.length)) (A := box i.b cv' T') (e := ⟨z', e1.bs⟩) m1 (.cells (by rw [← hn]; exact anyL_is cv') q1)
                  refine ⟨_, _, ⟨z', e1.bs⟩, _, hk, ⟨_, rfl, .ifc (fromA_is (e := ⟨z', e1.bs⟩) q3)⟩, g1.trans ⟨hle, ?_, fun hh => (hlg hh).elim⟩, hmem, st_back hs1 hidlt⟩
                  have := refExt (D := []) (cs' := anyL cs.length) hB (by simp [anyL]) k5 k6 h7'
                  simpa using this
        · cases hr
    · cases hr
  · cases hr
def kR (T : TypeId) (cks : List CK) (rs : List AT) (pT : TypeId) (u : AT) (id : Nat) (c : CR) (m : KM) : Option ((ckT cks × tt rs) ⊕ u.2.den) := match c with
  | .val s =>
    let m1 := frzL m (cellsT s)
    match at' m1.σ id with
    | some (.cells T' cs) => bif Nat.beq T' T then (match takeC (setAt m1.σ id .gone) cks cs, toR rs (resTup m1.σ s) with
        | some (st, _, _), some y => some (.inl (st, y))
        | _, _ => none) else none
    | _ => none
  | .pan (.ifc T0 s) => bif Nat.beq T0 pT then (
      let m1 := frzL m (cellsL [s])
      match at' m1.σ id with
      | some (.cells T' cs) => bif Nat.beq T' T && Nat.beq cs.length cks.length then (match toA u (res m1.σ s) with
          | some p => some (.inr p)
          | none => none) else none
      | _ => none) else none
  | .pan _ => none
noncomputable def fnR (P : Program) (C : FuncId → Option Con) (SP : FuncId → Sp) (g : FuncId) (T : TypeId) (cks : List CK) (az rs : List AT) (pT : TypeId) (u : AT) (lf : Nat) (x : ckT cks × tt az) : Option ((ckT cks × tt rs) ⊕ u.2.den) :=
  fnX P C SP lf g (.ptr (giveC [] cks x.1).2.length 0 :: fromAs az x.2) ⟨.cells T (giveC [] cks x.1).1 :: (giveC [] cks x.1).2, []⟩ (kR T cks rs pT u (giveC [] cks x.1).2.length)
theorem fnR_valid {C : FuncId → Option Con} {SP : FuncId → Sp} (hP : P.follows .mixedOrders = true) (hC : ∀ L, envA E ∈ L → ∀ g con, C g = some con → ConOk P L con g) (g : FuncId) (T : TypeId) (cks : List CK) (az rs : List AT) (pT : TypeId) (u : AT) (lf : Nat) : ValidR E P g T cks az rs pT u (fnR P C SP g T cks az rs pT u lf) := by
  intro x y hx z L w b cv vs Os hz hcr hrep hs
  have hs0 : St z ([] ++ (Os ++ (box b cv T :: (envA E :: L)))) w := by
    have h1 := envA_in hz hs
    refine h1.perm ?_
    have p1 : (Os ++ (box b cv T :: (envA E :: L))).Perm (box b cv T :: (envA E :: (Os ++ L))) := by
      have q1 : (Os ++ (box b cv T :: (envA E :: L))).Perm (box b cv T :: (Os ++ (envA E :: L))) := List.perm_middle
      have q2 : (Os ++ (envA E :: L)).Perm (envA E :: (Os ++ L)) := List.perm_middle
      exact q1.trans (q2.cons _)
    exact (List.Perm.swap _ _ _).trans p1.symm
  have hm0 : Mem ⟨z, []⟩ [] [] := ⟨rfl, rfl, fun h => by cases h⟩
  obtain ⟨c', Y, r1, r2, r3, r4, r5, D, r6⟩ := giveC_ok cks (c := ⟨z, []⟩) hcr hm0 hs0
  rw [List.append_nil] at r4 r5
  have hmb : Mem (c'.push ⟨b, none, 0, 0⟩) (.cells T (giveC [] cks x.1).1 :: (giveC [] cks x.1).2) (box b cv T :: Y) := r4.push (i := ⟨b, none, 0, 0⟩) (.cells (r3.mono (KE.le_push _ _)) hcr.one)
  have hat : at' (c'.push ⟨b, none, 0, 0⟩).bs (giveC [] cks x.1).2.length = some ⟨b, none, 0, 0⟩ := by
    show at' (_ :: c'.bs) _ = _
    rw [r4.lb]; exact at_new
  have hstb : St (c'.push ⟨b, none, 0, 0⟩).z ((box b cv T :: Y) ++ (envA E :: L)) w := by
    show St c'.z _ w
    rw [r2]
    exact r5.perm List.perm_middle
  have hzc : (c'.push ⟨b, none, 0, 0⟩).z = z := r2
  have hargs : IsL (c'.push ⟨b, none, 0, 0⟩) (.ptr (giveC [] cks x.1).2.length 0 :: fromAs az x.2) (.pointer (some ⟨b, 0, none⟩) :: vs) :=
    .cons (.ptr (i := ⟨b, none, 0, 0⟩) hat) (fromAs_is (by rw [hzc]; exact hrep))
  refine Calls.mono (fnX_ok (Cl := fun L => envA E ∈ L) env_up (L0 := envA E :: L) hP hC (List.mem_cons_self ..) hx hmb hstb hargs) ?_
  rintro en w' ⟨c, m', e', As', k1, k2, k3, k4, k5⟩
  have hze : z.le e'.z := by have := k3.le.z; rw [hzc] at this; exact this
  unfold kR at k1
  split at k1
  · rename_i s
    obtain ⟨v, rfl, hv⟩ := k2
    obtain ⟨e3, A3, g1, g2, g3⟩ := frzL_ok (cellsT s) k4 k5
    simp only at k1
    split at k1
    · rename_i T' cs hB
      cases hb : Nat.beq T' T with
      | false => rw [hb] at k1; cases k1
      | true =>
        rw [hb] at k1
        simp only [cond_true] at k1
        have := Nat.eq_of_beq_eq_true hb
        subst this
        split at k1
        · rename_i st σ' ids y' htk hy
          cases k1
          obtain ⟨i, A, m1, m2, m3⟩ := g2.get hB
          have := (k3.le.trans g1.le).at hat
          rw [m1] at this; cases this
          cases m3 with
          | cells hc hone =>
            rename_i cv'
            obtain ⟨X, Os', q1, q2, q3, q4, q5, q6, q7⟩ := takeC_ok cks htk (g2.set m1 (A := emp) .gone) hc (st_take g3 m2)
            have hd := St.drop X.length q3
            rw [List.drop_left] at hd
            refine ⟨e3.z, Zone.le_trans hze g1.le.z, cv', Os', q1, ?_, v, rfl, toR_rep hy (resTup_is g2 (hv.mono g1.le))⟩
            have p1 : (Os' ++ (box b cv' T' :: (envA E :: L))).Perm (envA E :: (box b cv' T' :: (Os' ++ L))) := by
              have q1 : (Os' ++ (box b cv' T' :: (envA E :: L))).Perm (box b cv' T' :: (Os' ++ (envA E :: L))) := List.perm_middle
              have q2 : (Os' ++ (envA E :: L)).Perm (envA E :: (Os' ++ L)) := List.perm_middle
              exact (q1.trans (q2.cons _)).trans (List.Perm.swap _ _ _)
            exact (hd.perm p1).tail
        · cases k1
    · cases k1
  · rename_i T0 s
    obtain ⟨v, rfl, hv⟩ := k2
    cases hb0 : Nat.beq T0 pT with
    | false => rw [hb0] at k1; cases k1
    | true =>
      rw [hb0] at k1
      simp only [cond_true] at k1
      have := Nat.eq_of_beq_eq_true hb0
      subst this
      cases hv with
      | ifc hv =>
        obtain ⟨e3, A3, g1, g2, g3⟩ := frzL_ok (cellsL [s]) k4 k5
        split at k1
        · rename_i T' cs hB
          cases hb : (Nat.beq T' T && Nat.beq cs.length cks.length) with
          | false => rw [hb] at k1; cases k1
          | true =>
            rw [hb] at k1
            simp only [cond_true] at k1
            simp only [Bool.and_eq_true] at hb
            have := Nat.eq_of_beq_eq_true hb.1
            subst this
            split at k1
            · rename_i p hp
              cases k1
              obtain ⟨i, A, m1, m2, m3⟩ := g2.get hB
              have := (k3.le.trans g1.le).at hat
              rw [m1] at this; cases this
              cases m3 with
              | cells hc hone =>
                rename_i cv'
                have hd := St.drop (setAt A3 (giveC [] cks x.1).2.length emp).length (st_take g3 m2)
                rw [List.drop_left] at hd
                refine ⟨e3.z, Zone.le_trans hze g1.le.z, cv', by rw [← hc.len]; exact Nat.eq_of_beq_eq_true hb.2, hone, ?_, _, rfl, toA_rep hp (res_is g2 (hv.mono g1.le))⟩
                exact (hd.perm (List.Perm.swap _ _ _)).tail
            · cases k1
        · cases k1
  · cases k1
theorem recR_valid {C : FuncId → Option Con} {SP : FuncId → Sp} {g : FuncId} {T : TypeId} {cks : List CK} {az rs : List AT} {pT : TypeId} {u : AT} {lf : Nat} (hP : P.follows .mixedOrders = true) (hC : ∀ L, envA E ∈ L → ∀ g con, C g = some con → ConOk P L con g) {F : Nat → ckT cks × tt az → Option ((ckT cks × tt rs) ⊕ u.2.den)}
    (h0 : ∀ x, F 0 x = none) (hs : ∀ n x, F (n + 1) x = fnR P (extC C g (refCon T cks az rs pT u (F n))) SP g T cks az rs pT u lf x) : ∀ n, ValidR E P g T cks az rs pT u (F n)
  | 0 => by
    intro hx
    rw [h0] at hx; cases hx
  | n + 1 => by
    intro hx
    rw [hs] at hx
    exact fnR_valid hP (fun L hL => extC_ok (hC L hL) (refCon_ok (recR_valid hP hC h0 hs n) hL)) g T cks az rs pT u lf hx
end Go.K
namespace Go.Sx
open Go
def insI (x : Int) : List Int → List Int
  | [] => [x]
  | y :: ys => bif decide (x ≤ y) then x :: y :: ys else y :: insI x ys
def sortL : List Int → List Int
  | [] => []
  | x :: xs => insI x (sortL xs)
theorem insI_perm (x : Int) : ∀ ys, (insI x ys).Perm (x :: ys)
  | [] => List.Perm.refl _
  | y :: ys => by
    unfold insI
    cases decide (x ≤ y) with
    | true => exact List.Perm.refl _
    | false => exact ((insI_perm x ys).cons y).trans (List.Perm.swap x y ys)
theorem sortL_perm : ∀ xs, (sortL xs).Perm xs
  | [] => List.Perm.refl _
  | x :: xs => (insI_perm x _).trans ((sortL_perm xs).cons x)
theorem insI_sorted (x : Int) : ∀ {ys : List Int}, ys.Pairwise (· ≤ ·) → (insI x ys).Pairwise (· ≤ ·)
  | [], _ => by simp [insI]
  | y :: ys, h => by
    obtain ⟨h1, h2⟩ := List.pairwise_cons.1 h
    unfold insI
    by_cases hxy : x ≤ y
    · simp only [hxy, decide_true, cond_true]
      refine List.pairwise_cons.2 ⟨fun z hz => ?_, h⟩
      rcases List.mem_cons.1 hz with e | e
      · omega
      · have := h1 z e; omega
    · simp only [hxy, decide_false, cond_false]
      refine List.pairwise_cons.2 ⟨fun z hz => ?_, insI_sorted x h2⟩
      rcases List.mem_cons.1 ((insI_perm x ys).mem_iff.1 hz) with e | e
      · omega
      · exact h1 z e
theorem sortL_sorted : ∀ xs, (sortL xs).Pairwise (· ≤ ·)
  | [] => List.Pairwise.nil
  | x :: xs => insI_sorted x (sortL_sorted xs)
theorem sortL_eq (xs : List Int) : (xs.mergeSort fun x y => decide (x ≤ y)) = sortL xs := by
  have h1 := List.pairwise_mergeSort (le := fun x y : Int => decide (x ≤ y)) (fun a b c h1 h2 => by simp at *; omega) (fun a b => by simp; omega) xs
  refine List.Perm.eq_of_pairwise (le := fun a b : Int => a ≤ b) (fun a b _ _ h1 h2 => by omega) (h1.imp (by simp)) (sortL_sorted xs) ((List.mergeSort_perm _ _).trans (sortL_perm xs).symm)
theorem sortL_len (xs : List Int) : xs.length = (sortL xs).length := (sortL_perm xs).length_eq.symm
def compL (xs : List Int) : List Int := Lib.compact xs
end Go.Sx
namespace Go.K
open Go.Sl Go.Sx Go.Proofs
def isSp (n : Nat) : Bool := Nat.beq n 32
def joinC (sep : ByteArray) (xs : List ByteArray) : Option ByteArray := if xs.foldl (fun n x => n + x.size + (sep.size + 1)) 0 ≤ 1099511627776 then some (match xs with
  | [] => ByteArray.empty
  | x :: xs => xs.foldl (fun r y => r ++ sep ++ y) x) else none
noncomputable def CT (P : Program) (lf : Nat) : FuncId → Option Con :=
  extC (extC (extC (extC (extC (extC (extC (extC (fun _ => none) 139 (dataCon [aI] [aS] itoaC)) 274 (dataCon [aS, aS] [aS] fun x => trimC x.1 x.2)) 182 (rowCon .i sortL)) 183 (cutCon .i compL))
    134 (dataCon [aS, aS] [aSs] fun x => splitC x.1 x.2)) 275 atoiCon) 157 (fieldsCon 158 isSp)) 140 (dataCon [aSs, aS] [aS] fun x => joinC x.2 x.1)
end Go.K
set_option maxRecDepth 100000
set_option maxHeartbeats 0
namespace Go.K
open Go.Sl Go.Sx Go.Proofs
def S91 : FuncId → Sp := fun _ => {}
noncomputable def F91 (P : Program) (lf : Nat) (x : tt [(false, .i), (false, .i), (false, .i)]) : Option (tt [(false, .bool)]) := fnF P (CT P lf) S91 91 [(false, .i), (false, .i), (false, .i)] [(false, .bool)] lf x
noncomputable def C91 (P : Program) (lf : Nat) : FuncId → Option Con := extC (CT P lf) 91 (dataCon [(false, .i), (false, .i), (false, .i)] [(false, .bool)] (F91 P lf))
theorem F91_eq (lf : Nat) (a0 : Int) (a1 : Int) (a2 : Int) : F91 Tryz.prog lf (a0, (a1, a2)) =
  cond (decide (a0 ≥ a1)) (some (decide (a0 ≤ a2))) (some false) := by kernel_rfl
def S223 : FuncId → Sp := fun g => match g with
  | 223 => { loops := [(2, [(.slot 8, .dat .i)])] }
  | _ => {}
noncomputable def F223 (P : Program) (lf : Nat) (x : tt [(false, (.sl .str)), (false, .str)]) : Option (tt [(false, .i)]) := fnF P (C91 P lf) S223 223 [(false, (.sl .str)), (false, .str)] [(false, .i)] lf x
noncomputable def C223 (P : Program) (lf : Nat) : FuncId → Option Con := extC (C91 P lf) 223 (dataCon [(false, (.sl .str)), (false, .str)] [(false, .i)] (F223 P lf))
theorem F223_eq (lf : Nat) (a0 : (List ByteArray)) (a1 : ByteArray) : F223 Tryz.prog lf (a0, a1) =
  iter lf (fun y4 : Int => cond (decide (y4 < (a0.length : Int))) (((getI a0 y4)).bind fun r5 => cond ((ByteArray.toList a1) == (ByteArray.toList r5)) (some (.inr y4)) (some (.inl (w64 (y4 + (1 : Int)))))) (some (.inr (-1 : Int)))) (0 : Int) := by kernel_rfl
def S180 : FuncId → Sp := fun _ => {}
noncomputable def F180 (P : Program) (lf : Nat) (x : tt [(false, (.sl .str)), (false, .str)]) : Option (tt [(false, .bool)]) := fnF P (C223 P lf) S180 180 [(false, (.sl .str)), (false, .str)] [(false, .bool)] lf x
noncomputable def C180 (P : Program) (lf : Nat) : FuncId → Option Con := extC (C223 P lf) 180 (dataCon [(false, (.sl .str)), (false, .str)] [(false, .bool)] (F180 P lf))
theorem F180_eq (lf : Nat) (a0 : (List ByteArray)) (a1 : ByteArray) : F180 Tryz.prog lf (a0, a1) =
  ((F223 Tryz.prog lf (a0, a1))).bind fun r3 => some (decide (r3 ≥ (0 : Int))) := by kernel_rfl
def S165 : FuncId → Sp := fun _ => {}
noncomputable def F165 (P : Program) (lf : Nat) (x : tt [(false, .str)]) : Option (tt [(false, .bool)]) := fnF P (C180 P lf) S165 165 [(false, .str)] [(false, .bool)] lf x
noncomputable def C165 (P : Program) (lf : Nat) : FuncId → Option Con := extC (C180 P lf) 165 (dataCon [(false, .str)] [(false, .bool)] (F165 P lf))
theorem F165_eq (lf : Nat) (a0 : ByteArray) : F165 Tryz.prog lf a0 =
  ((F180 Tryz.prog lf ([(bts [99, 111, 100, 101]), (bts [102, 97, 99, 116]), (bts [114, 117, 108, 101]), (bts [119, 104, 101, 110]), (bts [109, 117, 115, 116]), (bts [117, 110, 108, 101, 115, 115]), (bts [97, 110, 100]), (bts [111, 114]), (bts [110, 111, 116]), (bts [116, 114, 117, 101])], a0))).bind fun r2 => some r2 := by kernel_rfl
def S94 : FuncId → Sp := fun g => match g with
  | 94 => { joins := [(9, [(.slot 48, .dat .bool)]), (8, [(.slot 5, .dat .bool)]), (7, [(.slot 4, .dat .bool)]), (2, [(.slot 13, .dat .bool)])], loops := [(4, [(.slot 16, .dat .i)])] }
  | _ => {}
noncomputable def F94 (P : Program) (lf : Nat) (x : tt [(false, .str)]) : Option (tt [(false, .bool)]) := fnF P (C165 P lf) S94 94 [(false, .str)] [(false, .bool)] lf x
noncomputable def C94 (P : Program) (lf : Nat) : FuncId → Option Con := extC (C165 P lf) 94 (dataCon [(false, .str)] [(false, .bool)] (F94 P lf))
theorem F94_eq (lf : Nat) (a0 : ByteArray) : F94 Tryz.prog lf a0 =
  jn (((F91 Tryz.prog lf ((a0.size : Int), ((1 : Int), (12 : Int))))).bind fun r12 => cond (!r12) (some (.inl true)) (((F165 Tryz.prog lf a0)).bind fun r13 => some (.inl r13))) (fun y14 : Bool => cond y14 (some false) (iter lf (fun y15 : Int => cond (decide (y15 < (a0.size : Int))) (jn (((byteAt a0 y15)).bind fun r16 => cond (decide (r16 ≥ (97 : Int))) (((byteAt a0 y15)).bind fun r17 => some (.inl (decide (r17 ≤ (122 : Int))))) (some (.inl false))) (fun y18 : Bool => jn (((byteAt a0 y15)).bind fun r19 => cond (decide (r19 ≥ (48 : Int))) (((byteAt a0 y15)).bind fun r20 => some (.inl (decide (r20 ≤ (57 : Int))))) (some (.inl false))) (fun y21 : Bool => jn (cond (!y18) (cond (decide (y15 = (0 : Int))) (some (.inl true)) (some (.inl (!y21)))) (some (.inl false))) (fun y22 : Bool => cond y22 (some (.inr false)) (some (.inl (w64 (y15 + (1 : Int))))))))) (some (.inr true))) (0 : Int))) := by kernel_rfl
def S158 : FuncId → Sp := fun _ => {}
noncomputable def F158 (P : Program) (lf : Nat) (x : tt [(false, (.int .i32))]) : Option (tt [(false, .bool)]) := fnF P (C94 P lf) S158 158 [(false, (.int .i32))] [(false, .bool)] lf x
noncomputable def C158 (P : Program) (lf : Nat) : FuncId → Option Con := extC (C94 P lf) 158 (dataCon [(false, (.int .i32))] [(false, .bool)] (F158 P lf))
def S86 : FuncId → Sp := fun _ => {}
noncomputable def F86 (P : Program) (lf : Nat) (x : tt [(false, .str)]) : Option (tt [(false, (.sl .str))]) := fnF P (C158 P lf) S86 86 [(false, .str)] [(false, (.sl .str))] lf x
noncomputable def C86 (P : Program) (lf : Nat) : FuncId → Option Con := extC (C158 P lf) 86 (dataCon [(false, .str)] [(false, (.sl .str))] (F86 P lf))
theorem F86_eq (lf : Nat) (a0 : ByteArray) : F86 Tryz.prog lf a0 =
  ((fieldsC (fun y2 : Nat => (isSp y2)) a0)).bind fun r3 => some r3 := by kernel_rfl
def S244 : FuncId → Sp := fun g => match g with
  | 244 => { joins := [(5, [(.slot 34, .dat .bool)]), (4, [(.slot 6, .dat .str)])] }
  | 291 => { joins := [(2, [(.slot 7, .dat .bool)])] }
  | _ => {}
noncomputable def F244 (P : Program) (lf : Nat) (x : tt [(false, .str), (false, .bool)]) : Option (tt [(false, .i), (false, .bool)]) := fnF P (C86 P lf) S244 244 [(false, .str), (false, .bool)] [(false, .i), (false, .bool)] lf x
noncomputable def C244 (P : Program) (lf : Nat) : FuncId → Option Con := extC (C86 P lf) 244 (dataCon [(false, .str), (false, .bool)] [(false, .i), (false, .bool)] (F244 P lf))
theorem F244_eq (lf : Nat) (a0 : ByteArray) (a1 : Bool) : F244 Tryz.prog lf (a0, a1) =
  jn (cond a1 (jn (cond (decide ((a0.size : Int) ≥ (1 : Int))) (((cutC a0 (0 : Int) (1 : Int))).bind fun r11 => some (.inl ((ByteArray.toList (ByteArray.extract a0 0 1)) == [(UInt8.ofNat 45)]))) (some (.inl false))) (fun y12 : Bool => cond y12 (((cutC a0 (1 : Int) (a0.size : Int))).bind fun r13 => some (.inl (ByteArray.extract a0 1 (Int.toNat (a0.size : Int))))) (some (.inl a0)))) (some (.inl a0))) (fun y14 : ByteArray => jn (cond (decide ((y14.size : Int) = (0 : Int))) (some (.inl true)) (cond (decide ((y14.size : Int) > (13 : Int))) (some (.inl true)) (((byteAt y14 (0 : Int))).bind fun r15 => cond (decide (r15 = (48 : Int))) (cond (!((ByteArray.toList a0) == [(UInt8.ofNat 48)])) (some (.inl true)) (((trimC y14 (bts [48, 49, 50, 51, 52, 53, 54, 55, 56, 57]))).bind fun r16 => some (.inl (!((ByteArray.toList r16) == ([] : List UInt8)))))) (((trimC y14 (bts [48, 49, 50, 51, 52, 53, 54, 55, 56, 57]))).bind fun r17 => some (.inl (!((ByteArray.toList r17) == ([] : List UInt8)))))))) (fun y18 : Bool => cond y18 (some ((0 : Int), false)) (((atoiC a0)).bind fun r19 => some (r19, true)))) := by kernel_rfl
abbrev CK215 : List CK := [.d (.sl .str), .d .i, .o Yp 131]
abbrev U215 : AT := (true, .i)
def S215 : FuncId → Sp := fun _ => {}
noncomputable def F215 (P : Program) (lf : Nat) (x : ckT CK215 × tt [(true, Yp)]) : Option ((ckT CK215 × tt [(false, .i)]) ⊕ U215.2.den) := fnR P (C244 P lf) S215 215 126 CK215 [(true, Yp)] [(false, .i)] 122 U215 lf x
noncomputable def C215 (P : Program) (lf : Nat) : FuncId → Option Con := extC (C244 P lf) 215 (refCon 126 CK215 [(true, Yp)] [(false, .i)] 122 U215 (F215 P lf))
theorem F215_eq (lf : Nat) (a0 : (List ByteArray)) (a1 : Int) (a2 : Yt) (a3 : Int) (a4 : Int) (a5 : Int) (a6 : ByteArray) (a7 : Int) : F215 Tryz.prog lf ((a0, (a1, (a2, ()))), (a3, (a4, (a5, (a6, a7))))) =
  ((appC a2 [(a3, (a4, (a5, (a6, a7))))])).bind fun r9 => some (.inl ((a0, (a1, (r9, ()))), (w64 ((r9.length : Int) - (1 : Int))))) := by kernel_rfl
abbrev CK216 : List CK := [.d (.sl .str), .d .i, .o Yp 131]
abbrev U216 : AT := (true, .i)
def S216 : FuncId → Sp := fun g => match g with
  | 216 => { joins := [(13, [(.slot 69, .dat .bool)]), (9, [(.slot 44, .dat .bool)]), (8, [(.slot 9, .dat .i), (.slot 8, .dat .bool)]), (4, [(.slot 7, .dat .i), (.slot 8, .dat .bool)]), (3, [(.slot 6, .dat .str)])] }
  | _ => {}
noncomputable def F216 (P : Program) (lf : Nat) (x : ckT CK216 × tt [(false, .str)]) : Option ((ckT CK216 × tt [(false, .i)]) ⊕ U216.2.den) := fnR P (C215 P lf) S216 216 126 CK216 [(false, .str)] [(false, .i)] 122 U216 lf x
noncomputable def C216 (P : Program) (lf : Nat) : FuncId → Option Con := extC (C215 P lf) 216 (refCon 126 CK216 [(false, .str)] [(false, .i)] 122 U216 (F216 P lf))
theorem F216_eq (lf : Nat) (a0 : (List ByteArray)) (a1 : Int) (a2 : Yt) (a3 : ByteArray) : F216 Tryz.prog lf ((a0, (a1, (a2, ()))), a3) =
  jn (cond (decide (a1 = (a0.length : Int))) (some (.inl (bts []))) (((getI a0 a1)).bind fun r22 => some (.inl r22))) (fun y23 : ByteArray => jn (cond ((ByteArray.toList y23) == [(UInt8.ofNat 60)]) (some (.inl ((1 : Int), true))) (cond ((ByteArray.toList y23) == [(UInt8.ofNat 62), (UInt8.ofNat 61)]) (some (.inl ((1 : Int), true))) (cond ((ByteArray.toList y23) == [(UInt8.ofNat 60), (UInt8.ofNat 61)]) (some (.inl ((2 : Int), true))) (cond ((ByteArray.toList y23) == [(UInt8.ofNat 62)]) (some (.inl ((2 : Int), true))) (cond ((ByteArray.toList y23) == [(UInt8.ofNat 61)]) (some (.inl ((3 : Int), true))) (cond ((ByteArray.toList y23) == [(UInt8.ofNat 33), (UInt8.ofNat 61)]) (some (.inl ((3 : Int), true))) (some (.inl ((0 : Int), false))))))))) (fun y24 : (Int × Bool) => cond (!y24.2) (some (.inr (w64 (a1 + (1 : Int))))) (jn (cond (decide ((w64 (a1 + (1 : Int))) = (a0.length : Int))) (((F244 Tryz.prog lf ((bts []), true))).bind fun r25 => some (.inl (r25.1, r25.2))) (((getI a0 (w64 (a1 + (1 : Int))))).bind fun r26 => ((F244 Tryz.prog lf (r26, true))).bind fun r27 => some (.inl (r27.1, r27.2)))) (fun y28 : (Int × Bool) => jn (cond (!y28.2) (some (.inl true)) (((F91 Tryz.prog lf (y28.1, ((-1000000000000 : Int), (1000000000000 : Int))))).bind fun r29 => some (.inl (!r29)))) (fun y30 : Bool => cond y30 (some (.inr (w64 ((w64 (a1 + (1 : Int))) + (1 : Int))))) (((F215 Tryz.prog lf ((a0, ((w64 ((w64 (a1 + (1 : Int))) + (1 : Int))), (a2, ()))), (y24.1, ((0 : Int), ((0 : Int), (a3, y28.1))))))).bind fun r31 => sm r31 (fun r32 : (((List ByteArray) × (Int × (Yt × PUnit))) × Int) => jn (cond ((ByteArray.toList y23) == [(UInt8.ofNat 62), (UInt8.ofNat 61)]) (some (.inl true)) (cond ((ByteArray.toList y23) == [(UInt8.ofNat 62)]) (some (.inl true)) (some (.inl ((ByteArray.toList y23) == [(UInt8.ofNat 33), (UInt8.ofNat 61)]))))) (fun y33 : Bool => cond y33 (((F215 Tryz.prog lf ((r32.1.1, (r32.1.2.1, (r32.1.2.2.1, ()))), ((4 : Int), (r32.2, ((0 : Int), ((bts []), (0 : Int)))))))).bind fun r34 => sm r34 (fun r35 : (((List ByteArray) × (Int × (Yt × PUnit))) × Int) => some (.inl ((r35.1.1, (r35.1.2.1, (r35.1.2.2.1, ()))), r35.2))) (fun r36 : Int => some (.inr r36))) (some (.inl ((r32.1.1, (r32.1.2.1, (r32.1.2.2.1, ()))), r32.2))))) (fun r37 : Int => some (.inr r37)))))))) := by kernel_rfl
abbrev CK162 : List CK := [.d (.sl .str), .d .i, .o Yp 131]
abbrev U162 : AT := (true, .i)
def S162 : FuncId → Sp := fun g => match g with
  | 162 => { joins := [(10, [(.slot 42, .dat .bool)]), (9, [(.slot 6, .dat .i), (.cell 0 0, .dat (.sl .str)), (.cell 0 1, .dat .i), (.cell 0 2, .own Yp 131)]), (3, [(.slot 9, .dat .bool)]), (2, [(.slot 5, .dat .str)])] }
  | 159 => { joins := [(5, [(.slot 10, .dat .i), (.cell 0 0, .dat (.sl .str)), (.cell 0 1, .dat .i), (.cell 0 2, .own Yp 131)]), (2, [(.slot 9, .dat .i), (.cell 0 0, .dat (.sl .str)), (.cell 0 1, .dat .i), (.cell 0 2, .own Yp 131)])], loops := [(2, [(.slot 9, .dat .i), (.cell 0 0, .dat (.sl .str)), (.cell 0 1, .dat .i), (.cell 0 2, .own Yp 131)])] }
  | _ => {}
noncomputable def F162 (P : Program) (lf : Nat) : Nat → ckT CK162 × tt [(false, .i)] → Option ((ckT CK162 × tt [(false, .i)]) ⊕ U162.2.den)
  | 0, _ => none
  | n + 1, x => fnR P (extC (C216 P lf) 162 (refCon 126 CK162 [(false, .i)] [(false, .i)] 122 U162 (F162 P lf n))) S162 162 126 CK162 [(false, .i)] [(false, .i)] 122 U162 lf x
noncomputable def C162 (P : Program) (lf : Nat) : FuncId → Option Con := extC (C216 P lf) 162 (refCon 126 CK162 [(false, .i)] [(false, .i)] 122 U162 (F162 P lf lf))
theorem F162_eq (lf n : Nat) (a0 : (List ByteArray)) (a1 : Int) (a2 : Yt) (a3 : Int) : F162 Tryz.prog lf (n + 1) ((a0, (a1, (a2, ()))), a3) =
  jn (cond (decide (a1 = (a0.length : Int))) (some (.inl (bts []))) (((getI a0 a1)).bind fun r78 => some (.inl r78))) (fun y79 : ByteArray => jn (cond ((ByteArray.toList y79) == [(UInt8.ofNat 110), (UInt8.ofNat 111), (UInt8.ofNat 116)]) (some (.inl true)) (some (.inl ((ByteArray.toList y79) == [(UInt8.ofNat 40)])))) (fun y80 : Bool => cond y80 (cond (decide (a3 = (8 : Int))) (some (.inr (w64 (a1 + (1 : Int))))) (cond ((ByteArray.toList y79) == [(UInt8.ofNat 110), (UInt8.ofNat 111), (UInt8.ofNat 116)]) (((F162 Tryz.prog lf n ((a0, ((w64 (a1 + (1 : Int))), (a2, ()))), (w64 (a3 + (1 : Int)))))).bind fun r81 => sm r81 (fun r82 : (((List ByteArray) × (Int × (Yt × PUnit))) × Int) => ((F215 Tryz.prog lf ((r82.1.1, (r82.1.2.1, (r82.1.2.2.1, ()))), ((4 : Int), (r82.2, ((0 : Int), ((bts []), (0 : Int)))))))).bind fun r83 => sm r83 (fun r84 : (((List ByteArray) × (Int × (Yt × PUnit))) × Int) => some (.inl ((r84.1.1, (r84.1.2.1, (r84.1.2.2.1, ()))), r84.2))) (fun r85 : Int => some (.inr r85))) (fun r86 : Int => some (.inr r86))) (jn (jn (jn (((F162 Tryz.prog lf n ((a0, ((w64 (a1 + (1 : Int))), (a2, ()))), (w64 (a3 + (1 : Int)))))).bind fun r87 => sm r87 (fun r88 : (((List ByteArray) × (Int × (Yt × PUnit))) × Int) => some (.inl (r88.2, (r88.1.1, (r88.1.2.1, r88.1.2.2.1))))) (fun r89 : Int => some (.inr (.inr (.inr (.inr r89)))))) (fun y90 : (Int × ((List ByteArray) × (Int × Yt))) => iter lf (fun y91 : (Int × ((List ByteArray) × (Int × Yt))) => cond (decide (y91.2.2.1 = (y91.2.1.length : Int))) (some (.inr (.inl (y91.1, (y91.2.1, (y91.2.2.1, y91.2.2.2)))))) (((getI y91.2.1 y91.2.2.1)).bind fun r92 => cond ((ByteArray.toList r92) == [(UInt8.ofNat 97), (UInt8.ofNat 110), (UInt8.ofNat 100)]) (jn (((F162 Tryz.prog lf n ((y91.2.1, ((w64 (y91.2.2.1 + (1 : Int))), (y91.2.2.2, ()))), (w64 (a3 + (1 : Int)))))).bind fun r93 => sm r93 (fun r94 : (((List ByteArray) × (Int × (Yt × PUnit))) × Int) => some (.inl (r94.2, (r94.1.1, (r94.1.2.1, r94.1.2.2.1))))) (fun r95 : Int => some (.inr (.inr (.inr (.inr (.inr r95))))))) (fun y96 : (Int × ((List ByteArray) × (Int × Yt))) => ((F215 Tryz.prog lf ((y96.2.1, (y96.2.2.1, (y96.2.2.2, ()))), ((5 : Int), (y91.1, (y96.1, ((bts []), (0 : Int)))))))).bind fun r97 => sm r97 (fun r98 : (((List ByteArray) × (Int × (Yt × PUnit))) × Int) => some (.inl (r98.2, (r98.1.1, (r98.1.2.1, r98.1.2.2.1))))) (fun r99 : Int => some (.inr (.inr (.inr (.inr r99))))))) (some (.inr (.inl (y91.1, (y91.2.1, (y91.2.2.1, y91.2.2.2)))))))) (y90.1, (y90.2.1, (y90.2.2.1, y90.2.2.2))))) (fun y100 : (Int × ((List ByteArray) × (Int × Yt))) => iter lf (fun y101 : (Int × ((List ByteArray) × (Int × Yt))) => cond (decide (y101.2.2.1 = (y101.2.1.length : Int))) (some (.inr (.inl (y101.1, (y101.2.1, (y101.2.2.1, y101.2.2.2)))))) (((getI y101.2.1 y101.2.2.1)).bind fun r102 => cond ((ByteArray.toList r102) == [(UInt8.ofNat 111), (UInt8.ofNat 114)]) (jn (jn (((F162 Tryz.prog lf n ((y101.2.1, ((w64 (y101.2.2.1 + (1 : Int))), (y101.2.2.2, ()))), (w64 (a3 + (1 : Int)))))).bind fun r103 => sm r103 (fun r104 : (((List ByteArray) × (Int × (Yt × PUnit))) × Int) => some (.inl (r104.2, (r104.1.1, (r104.1.2.1, r104.1.2.2.1))))) (fun r105 : Int => some (.inr (.inr (.inr (.inr (.inr r105))))))) (fun y106 : (Int × ((List ByteArray) × (Int × Yt))) => iter lf (fun y107 : (Int × ((List ByteArray) × (Int × Yt))) => cond (decide (y107.2.2.1 = (y107.2.1.length : Int))) (some (.inr (.inl (y107.1, (y107.2.1, (y107.2.2.1, y107.2.2.2)))))) (((getI y107.2.1 y107.2.2.1)).bind fun r108 => cond ((ByteArray.toList r108) == [(UInt8.ofNat 97), (UInt8.ofNat 110), (UInt8.ofNat 100)]) (jn (((F162 Tryz.prog lf n ((y107.2.1, ((w64 (y107.2.2.1 + (1 : Int))), (y107.2.2.2, ()))), (w64 (a3 + (1 : Int)))))).bind fun r109 => sm r109 (fun r110 : (((List ByteArray) × (Int × (Yt × PUnit))) × Int) => some (.inl (r110.2, (r110.1.1, (r110.1.2.1, r110.1.2.2.1))))) (fun r111 : Int => some (.inr (.inr (.inr (.inr (.inr (.inr r111)))))))) (fun y112 : (Int × ((List ByteArray) × (Int × Yt))) => ((F215 Tryz.prog lf ((y112.2.1, (y112.2.2.1, (y112.2.2.2, ()))), ((5 : Int), (y107.1, (y112.1, ((bts []), (0 : Int)))))))).bind fun r113 => sm r113 (fun r114 : (((List ByteArray) × (Int × (Yt × PUnit))) × Int) => some (.inl (r114.2, (r114.1.1, (r114.1.2.1, r114.1.2.2.1))))) (fun r115 : Int => some (.inr (.inr (.inr (.inr (.inr r115)))))))) (some (.inr (.inl (y107.1, (y107.2.1, (y107.2.2.1, y107.2.2.2)))))))) (y106.1, (y106.2.1, (y106.2.2.1, y106.2.2.2))))) (fun y116 : (Int × ((List ByteArray) × (Int × Yt))) => ((F215 Tryz.prog lf ((y116.2.1, (y116.2.2.1, (y116.2.2.2, ()))), ((6 : Int), (y101.1, (y116.1, ((bts []), (0 : Int)))))))).bind fun r117 => sm r117 (fun r118 : (((List ByteArray) × (Int × (Yt × PUnit))) × Int) => some (.inl (r118.2, (r118.1.1, (r118.1.2.1, r118.1.2.2.1))))) (fun r119 : Int => some (.inr (.inr (.inr r119)))))) (some (.inr (.inl (y101.1, (y101.2.1, (y101.2.2.1, y101.2.2.2)))))))) (y100.1, (y100.2.1, (y100.2.2.1, y100.2.2.2))))) (fun y120 : (Int × ((List ByteArray) × (Int × Yt))) => jn (cond (decide (y120.2.2.1 = (y120.2.1.length : Int))) (some (.inl true)) (((getI y120.2.1 y120.2.2.1)).bind fun r121 => some (.inl (!((ByteArray.toList r121) == [(UInt8.ofNat 41)]))))) (fun y122 : Bool => cond y122 (some (.inr (w64 (y120.2.2.1 + (1 : Int))))) (some (.inl ((y120.2.1, ((w64 (y120.2.2.1 + (1 : Int))), (y120.2.2.2, ()))), y120.1)))))))) (cond ((ByteArray.toList y79) == [(UInt8.ofNat 116), (UInt8.ofNat 114), (UInt8.ofNat 117), (UInt8.ofNat 101)]) (((F215 Tryz.prog lf ((a0, ((w64 (a1 + (1 : Int))), (a2, ()))), ((0 : Int), ((0 : Int), ((0 : Int), ((bts []), (0 : Int)))))))).bind fun r123 => sm r123 (fun r124 : (((List ByteArray) × (Int × (Yt × PUnit))) × Int) => some (.inl ((r124.1.1, (r124.1.2.1, (r124.1.2.2.1, ()))), r124.2))) (fun r125 : Int => some (.inr r125))) (((F94 Tryz.prog lf y79)).bind fun r126 => cond (!r126) (some (.inr (w64 (a1 + (1 : Int))))) (((F216 Tryz.prog lf ((a0, ((w64 (a1 + (1 : Int))), (a2, ()))), y79))).bind fun r127 => sm r127 (fun r128 : (((List ByteArray) × (Int × (Yt × PUnit))) × Int) => some (.inl ((r128.1.1, (r128.1.2.1, (r128.1.2.2.1, ()))), r128.2))) (fun r129 : Int => some (.inr r129))))))) := by kernel_rfl
def S17 : FuncId → Sp := fun g => match g with
  | 17 => { joins := [(6, [(.cell 14 0, .dat (.sl .str)), (.cell 14 1, .dat .i), (.cell 14 2, .own Yp 131)])] }
  | 159 => { joins := [(5, [(.slot 10, .dat .i), (.cell 0 0, .dat (.sl .str)), (.cell 0 1, .dat .i), (.cell 0 2, .own Yp 131)]), (2, [(.slot 9, .dat .i), (.cell 0 0, .dat (.sl .str)), (.cell 0 1, .dat .i), (.cell 0 2, .own Yp 131)])], loops := [(2, [(.slot 9, .dat .i), (.cell 0 0, .dat (.sl .str)), (.cell 0 1, .dat .i), (.cell 0 2, .own Yp 131)])] }
  | _ => {}
noncomputable def F17 (P : Program) (lf : Nat) (x : tt [(false, .str)]) : Option (tt [(true, (.sl Yp)), (false, .i), (false, .i)]) := fnF P (C162 P lf) S17 17 [(false, .str)] [(true, (.sl Yp)), (false, .i), (false, .i)] lf x
noncomputable def C17 (P : Program) (lf : Nat) : FuncId → Option Con := extC (C162 P lf) 17 (dataCon [(false, .str)] [(true, (.sl Yp)), (false, .i), (false, .i)] (F17 P lf))
theorem F17_eq (lf : Nat) (a0 : ByteArray) : F17 Tryz.prog lf a0 =
  cond (decide ((a0.size : Int) > (8000 : Int))) (some (([] : List (Int × (Int × (Int × (ByteArray × Int))))), ((0 : Int), (2 : Int)))) (((F86 Tryz.prog lf a0)).bind fun r57 => jn (jn (jn (((F162 Tryz.prog lf lf ((r57, ((0 : Int), (([] : List (Int × (Int × (Int × (ByteArray × Int))))), ()))), (0 : Int)))).bind fun r58 => sm r58 (fun r59 : (((List ByteArray) × (Int × (Yt × PUnit))) × Int) => some (.inl (r59.2, (r59.1.1, (r59.1.2.1, r59.1.2.2.1))))) (fun r60 : Int => outR (outR (outR (agree (some (([] : List (Int × (Int × (Int × (ByteArray × Int))))), (r60, (46 : Int)))) (some (([] : List (Int × (Int × (Int × (ByteArray × Int))))), (r60, (46 : Int))))))))) (fun y61 : (Int × ((List ByteArray) × (Int × Yt))) => iter lf (fun y62 : (Int × ((List ByteArray) × (Int × Yt))) => cond (decide (y62.2.2.1 = (y62.2.1.length : Int))) (some (.inr (.inl (y62.1, (y62.2.1, (y62.2.2.1, y62.2.2.2)))))) (((getI y62.2.1 y62.2.2.1)).bind fun r63 => cond ((ByteArray.toList r63) == [(UInt8.ofNat 97), (UInt8.ofNat 110), (UInt8.ofNat 100)]) (jn (((F162 Tryz.prog lf lf ((y62.2.1, ((w64 (y62.2.2.1 + (1 : Int))), (y62.2.2.2, ()))), (0 : Int)))).bind fun r64 => sm r64 (fun r65 : (((List ByteArray) × (Int × (Yt × PUnit))) × Int) => some (.inl (r65.2, (r65.1.1, (r65.1.2.1, r65.1.2.2.1))))) (fun r66 : Int => outR (outR (outR (outR (agree (some (([] : List (Int × (Int × (Int × (ByteArray × Int))))), (r66, (46 : Int)))) (some (([] : List (Int × (Int × (Int × (ByteArray × Int))))), (r66, (46 : Int)))))))))) (fun y67 : (Int × ((List ByteArray) × (Int × Yt))) => ((F215 Tryz.prog lf ((y67.2.1, (y67.2.2.1, (y67.2.2.2, ()))), ((5 : Int), (y62.1, (y67.1, ((bts []), (0 : Int)))))))).bind fun r68 => sm r68 (fun r69 : (((List ByteArray) × (Int × (Yt × PUnit))) × Int) => some (.inl (r69.2, (r69.1.1, (r69.1.2.1, r69.1.2.2.1))))) (fun r70 : Int => outR (outR (outR (agree (some (([] : List (Int × (Int × (Int × (ByteArray × Int))))), (r70, (46 : Int)))) (some (([] : List (Int × (Int × (Int × (ByteArray × Int))))), (r70, (46 : Int)))))))))) (some (.inr (.inl (y62.1, (y62.2.1, (y62.2.2.1, y62.2.2.2)))))))) (y61.1, (y61.2.1, (y61.2.2.1, y61.2.2.2))))) (fun y71 : (Int × ((List ByteArray) × (Int × Yt))) => iter lf (fun y72 : (Int × ((List ByteArray) × (Int × Yt))) => cond (decide (y72.2.2.1 = (y72.2.1.length : Int))) (some (.inr (.inl (y72.2.1, (y72.2.2.1, y72.2.2.2))))) (((getI y72.2.1 y72.2.2.1)).bind fun r73 => cond ((ByteArray.toList r73) == [(UInt8.ofNat 111), (UInt8.ofNat 114)]) (jn (jn (((F162 Tryz.prog lf lf ((y72.2.1, ((w64 (y72.2.2.1 + (1 : Int))), (y72.2.2.2, ()))), (0 : Int)))).bind fun r74 => sm r74 (fun r75 : (((List ByteArray) × (Int × (Yt × PUnit))) × Int) => some (.inl (r75.2, (r75.1.1, (r75.1.2.1, r75.1.2.2.1))))) (fun r76 : Int => outR (outR (outR (outR (agree (some (([] : List (Int × (Int × (Int × (ByteArray × Int))))), (r76, (46 : Int)))) (some (([] : List (Int × (Int × (Int × (ByteArray × Int))))), (r76, (46 : Int)))))))))) (fun y77 : (Int × ((List ByteArray) × (Int × Yt))) => iter lf (fun y78 : (Int × ((List ByteArray) × (Int × Yt))) => cond (decide (y78.2.2.1 = (y78.2.1.length : Int))) (some (.inr (.inl (y78.1, (y78.2.1, (y78.2.2.1, y78.2.2.2)))))) (((getI y78.2.1 y78.2.2.1)).bind fun r79 => cond ((ByteArray.toList r79) == [(UInt8.ofNat 97), (UInt8.ofNat 110), (UInt8.ofNat 100)]) (jn (((F162 Tryz.prog lf lf ((y78.2.1, ((w64 (y78.2.2.1 + (1 : Int))), (y78.2.2.2, ()))), (0 : Int)))).bind fun r80 => sm r80 (fun r81 : (((List ByteArray) × (Int × (Yt × PUnit))) × Int) => some (.inl (r81.2, (r81.1.1, (r81.1.2.1, r81.1.2.2.1))))) (fun r82 : Int => outR (outR (outR (outR (outR (agree (some (([] : List (Int × (Int × (Int × (ByteArray × Int))))), (r82, (46 : Int)))) (some (([] : List (Int × (Int × (Int × (ByteArray × Int))))), (r82, (46 : Int))))))))))) (fun y83 : (Int × ((List ByteArray) × (Int × Yt))) => ((F215 Tryz.prog lf ((y83.2.1, (y83.2.2.1, (y83.2.2.2, ()))), ((5 : Int), (y78.1, (y83.1, ((bts []), (0 : Int)))))))).bind fun r84 => sm r84 (fun r85 : (((List ByteArray) × (Int × (Yt × PUnit))) × Int) => some (.inl (r85.2, (r85.1.1, (r85.1.2.1, r85.1.2.2.1))))) (fun r86 : Int => outR (outR (outR (outR (agree (some (([] : List (Int × (Int × (Int × (ByteArray × Int))))), (r86, (46 : Int)))) (some (([] : List (Int × (Int × (Int × (ByteArray × Int))))), (r86, (46 : Int))))))))))) (some (.inr (.inl (y78.1, (y78.2.1, (y78.2.2.1, y78.2.2.2)))))))) (y77.1, (y77.2.1, (y77.2.2.1, y77.2.2.2))))) (fun y87 : (Int × ((List ByteArray) × (Int × Yt))) => ((F215 Tryz.prog lf ((y87.2.1, (y87.2.2.1, (y87.2.2.2, ()))), ((6 : Int), (y72.1, (y87.1, ((bts []), (0 : Int)))))))).bind fun r88 => sm r88 (fun r89 : (((List ByteArray) × (Int × (Yt × PUnit))) × Int) => some (.inl (r89.2, (r89.1.1, (r89.1.2.1, r89.1.2.2.1))))) (fun r90 : Int => outR (outR (agree (some (([] : List (Int × (Int × (Int × (ByteArray × Int))))), (r90, (46 : Int)))) (some (([] : List (Int × (Int × (Int × (ByteArray × Int))))), (r90, (46 : Int))))))))) (some (.inr (.inl (y72.2.1, (y72.2.2.1, y72.2.2.2))))))) (y71.1, (y71.2.1, (y71.2.2.1, y71.2.2.2))))) (fun y91 : ((List ByteArray) × (Int × Yt)) => cond (decide (y91.2.1 < (y91.1.length : Int))) (agree (some (([] : List (Int × (Int × (Int × (ByteArray × Int))))), ((w64 (y91.2.1 + (1 : Int))), (46 : Int)))) (some (([] : List (Int × (Int × (Int × (ByteArray × Int))))), ((w64 (y91.2.1 + (1 : Int))), (46 : Int))))) (cond (decide ((y91.2.2.length : Int) > (30 : Int))) (some (([] : List (Int × (Int × (Int × (ByteArray × Int))))), ((0 : Int), (2 : Int)))) (some (y91.2.2, ((0 : Int), (0 : Int))))))) := by kernel_rfl
end Go.K
namespace Go.K
open Go.Sl Go.Sx Go.Proofs
noncomputable def G91 (lf : Nat) (x : (Int × (Int × Int))) : Option (Bool) :=
  cond (decide (x.1 ≥ x.2.1)) (some (decide (x.1 ≤ x.2.2))) (some false)
theorem F91_G (lf : Nat) (x : (Int × (Int × Int))) : F91 Tryz.prog lf x = G91 lf x := (F91_eq lf x.1 x.2.1 x.2.2).trans (by
  unfold G91
  (try simp only [agree_self, Lib.toList_data]); first | done | rfl)
noncomputable def G223 (lf : Nat) (x : ((List ByteArray) × ByteArray)) : Option (Int) :=
  iter lf (fun y4 : Int => cond (decide (y4 < (x.1.length : Int))) (((getI x.1 y4)).bind fun r5 => cond (x.2.data.toList == r5.data.toList) (some (.inr y4)) (some (.inl (w64 (y4 + (1 : Int)))))) (some (.inr (-1 : Int)))) (0 : Int)
theorem F223_G (lf : Nat) (x : ((List ByteArray) × ByteArray)) : F223 Tryz.prog lf x = G223 lf x := (F223_eq lf x.1 x.2).trans (by
  unfold G223
  (try simp only [agree_self, Lib.toList_data]); first | done | rfl)
noncomputable def G180 (lf : Nat) (x : ((List ByteArray) × ByteArray)) : Option (Bool) :=
  ((G223 lf (x.1, x.2))).bind fun r3 => some (decide (r3 ≥ (0 : Int)))
theorem F180_G (lf : Nat) (x : ((List ByteArray) × ByteArray)) : F180 Tryz.prog lf x = G180 lf x := (F180_eq lf x.1 x.2).trans (by
  unfold G180
  (try simp only [F223_G, agree_self, Lib.toList_data]); first | done | rfl)
noncomputable def G165 (lf : Nat) (x : ByteArray) : Option (Bool) :=
  ((G180 lf ([(bts [99, 111, 100, 101]), (bts [102, 97, 99, 116]), (bts [114, 117, 108, 101]), (bts [119, 104, 101, 110]), (bts [109, 117, 115, 116]), (bts [117, 110, 108, 101, 115, 115]), (bts [97, 110, 100]), (bts [111, 114]), (bts [110, 111, 116]), (bts [116, 114, 117, 101])], x))).bind fun r2 => some r2
theorem F165_G (lf : Nat) (x : ByteArray) : F165 Tryz.prog lf x = G165 lf x := (F165_eq lf x).trans (by
  unfold G165
  (try simp only [F180_G, agree_self, Lib.toList_data]); first | done | rfl)
noncomputable def G94 (lf : Nat) (x : ByteArray) : Option (Bool) :=
  jn (((G91 lf ((x.size : Int), ((1 : Int), (12 : Int))))).bind fun r12 => cond (!r12) (some (.inl true)) (((G165 lf x)).bind fun r13 => some (.inl r13))) (fun y14 : Bool => cond y14 (some false) (iter lf (fun y15 : Int => cond (decide (y15 < (x.size : Int))) (jn (((byteAt x y15)).bind fun r16 => cond (decide (r16 ≥ (97 : Int))) (((byteAt x y15)).bind fun r17 => some (.inl (decide (r17 ≤ (122 : Int))))) (some (.inl false))) (fun y18 : Bool => jn (((byteAt x y15)).bind fun r19 => cond (decide (r19 ≥ (48 : Int))) (((byteAt x y15)).bind fun r20 => some (.inl (decide (r20 ≤ (57 : Int))))) (some (.inl false))) (fun y21 : Bool => jn (cond (!y18) (cond (decide (y15 = (0 : Int))) (some (.inl true)) (some (.inl (!y21)))) (some (.inl false))) (fun y22 : Bool => cond y22 (some (.inr false)) (some (.inl (w64 (y15 + (1 : Int))))))))) (some (.inr true))) (0 : Int)))
theorem F94_G (lf : Nat) (x : ByteArray) : F94 Tryz.prog lf x = G94 lf x := (F94_eq lf x).trans (by
  unfold G94
  (try simp only [F91_G, F165_G, agree_self, Lib.toList_data]); first | done | rfl)
noncomputable def G86 (lf : Nat) (x : ByteArray) : Option ((List ByteArray)) :=
  ((fieldsC (fun y2 : Nat => (isSp y2)) x)).bind fun r3 => some r3
theorem F86_G (lf : Nat) (x : ByteArray) : F86 Tryz.prog lf x = G86 lf x := (F86_eq lf x).trans (by
  unfold G86
  (try simp only [agree_self, Lib.toList_data]); first | done | rfl)
noncomputable def G244 (lf : Nat) (x : (ByteArray × Bool)) : Option ((Int × Bool)) :=
  jn (cond x.2 (jn (cond (decide ((x.1.size : Int) ≥ (1 : Int))) (((cutC x.1 (0 : Int) (1 : Int))).bind fun r11 => some (.inl ((ByteArray.extract x.1 0 1).data.toList == [(UInt8.ofNat 45)]))) (some (.inl false))) (fun y12 : Bool => cond y12 (((cutC x.1 (1 : Int) (x.1.size : Int))).bind fun r13 => some (.inl (ByteArray.extract x.1 1 (Int.toNat (x.1.size : Int))))) (some (.inl x.1)))) (some (.inl x.1))) (fun y14 : ByteArray => jn (cond (decide ((y14.size : Int) = (0 : Int))) (some (.inl true)) (cond (decide ((y14.size : Int) > (13 : Int))) (some (.inl true)) (((byteAt y14 (0 : Int))).bind fun r15 => cond (decide (r15 = (48 : Int))) (cond (!(x.1.data.toList == [(UInt8.ofNat 48)])) (some (.inl true)) (((trimC y14 (bts [48, 49, 50, 51, 52, 53, 54, 55, 56, 57]))).bind fun r16 => some (.inl (!(r16.data.toList == ([] : List UInt8)))))) (((trimC y14 (bts [48, 49, 50, 51, 52, 53, 54, 55, 56, 57]))).bind fun r17 => some (.inl (!(r17.data.toList == ([] : List UInt8)))))))) (fun y18 : Bool => cond y18 (some ((0 : Int), false)) (((atoiC x.1)).bind fun r19 => some (r19, true))))
theorem F244_G (lf : Nat) (x : (ByteArray × Bool)) : F244 Tryz.prog lf x = G244 lf x := (F244_eq lf x.1 x.2).trans (by
  unfold G244
  (try simp only [agree_self, Lib.toList_data]); first | done | rfl)
noncomputable def G215 (lf : Nat) (x : (((List ByteArray) × (Int × (Yt × Unit))) × (Int × (Int × (Int × (ByteArray × Int)))))) : Option ((((List ByteArray) × (Int × (Yt × Unit))) × Int) ⊕ Int) :=
  ((appC x.1.2.2.1 [(x.2.1, (x.2.2.1, (x.2.2.2.1, (x.2.2.2.2.1, x.2.2.2.2.2))))])).bind fun r9 => some (.inl ((x.1.1, (x.1.2.1, (r9, ()))), (w64 ((r9.length : Int) - (1 : Int)))))
theorem F215_G (lf : Nat) (x : (((List ByteArray) × (Int × (Yt × Unit))) × (Int × (Int × (Int × (ByteArray × Int)))))) : F215 Tryz.prog lf x = G215 lf x := (F215_eq lf x.1.1 x.1.2.1 x.1.2.2.1 x.2.1 x.2.2.1 x.2.2.2.1 x.2.2.2.2.1 x.2.2.2.2.2).trans (by
  unfold G215
  (try simp only [agree_self, Lib.toList_data]); first | done | rfl)
noncomputable def G216 (lf : Nat) (x : (((List ByteArray) × (Int × (Yt × Unit))) × ByteArray)) : Option ((((List ByteArray) × (Int × (Yt × Unit))) × Int) ⊕ Int) :=
  jn (cond (decide (x.1.2.1 = (x.1.1.length : Int))) (some (.inl (bts []))) (((getI x.1.1 x.1.2.1)).bind fun r22 => some (.inl r22))) (fun y23 : ByteArray => jn (cond (y23.data.toList == [(UInt8.ofNat 60)]) (some (.inl ((1 : Int), true))) (cond (y23.data.toList == [(UInt8.ofNat 62), (UInt8.ofNat 61)]) (some (.inl ((1 : Int), true))) (cond (y23.data.toList == [(UInt8.ofNat 60), (UInt8.ofNat 61)]) (some (.inl ((2 : Int), true))) (cond (y23.data.toList == [(UInt8.ofNat 62)]) (some (.inl ((2 : Int), true))) (cond (y23.data.toList == [(UInt8.ofNat 61)]) (some (.inl ((3 : Int), true))) (cond (y23.data.toList == [(UInt8.ofNat 33), (UInt8.ofNat 61)]) (some (.inl ((3 : Int), true))) (some (.inl ((0 : Int), false))))))))) (fun y24 : (Int × Bool) => cond (!y24.2) (some (.inr (w64 (x.1.2.1 + (1 : Int))))) (jn (cond (decide ((w64 (x.1.2.1 + (1 : Int))) = (x.1.1.length : Int))) (((G244 lf ((bts []), true))).bind fun r25 => some (.inl (r25.1, r25.2))) (((getI x.1.1 (w64 (x.1.2.1 + (1 : Int))))).bind fun r26 => ((G244 lf (r26, true))).bind fun r27 => some (.inl (r27.1, r27.2)))) (fun y28 : (Int × Bool) => jn (cond (!y28.2) (some (.inl true)) (((G91 lf (y28.1, ((-1000000000000 : Int), (1000000000000 : Int))))).bind fun r29 => some (.inl (!r29)))) (fun y30 : Bool => cond y30 (some (.inr (w64 ((w64 (x.1.2.1 + (1 : Int))) + (1 : Int))))) (((G215 lf ((x.1.1, ((w64 ((w64 (x.1.2.1 + (1 : Int))) + (1 : Int))), (x.1.2.2.1, ()))), (y24.1, ((0 : Int), ((0 : Int), (x.2, y28.1))))))).bind fun r31 => sm r31 (fun r32 : (((List ByteArray) × (Int × (Yt × PUnit))) × Int) => jn (cond (y23.data.toList == [(UInt8.ofNat 62), (UInt8.ofNat 61)]) (some (.inl true)) (cond (y23.data.toList == [(UInt8.ofNat 62)]) (some (.inl true)) (some (.inl (y23.data.toList == [(UInt8.ofNat 33), (UInt8.ofNat 61)]))))) (fun y33 : Bool => cond y33 (((G215 lf ((r32.1.1, (r32.1.2.1, (r32.1.2.2.1, ()))), ((4 : Int), (r32.2, ((0 : Int), ((bts []), (0 : Int)))))))).bind fun r34 => sm r34 (fun r35 : (((List ByteArray) × (Int × (Yt × PUnit))) × Int) => some (.inl ((r35.1.1, (r35.1.2.1, (r35.1.2.2.1, ()))), r35.2))) (fun r36 : Int => some (.inr r36))) (some (.inl ((r32.1.1, (r32.1.2.1, (r32.1.2.2.1, ()))), r32.2))))) (fun r37 : Int => some (.inr r37))))))))
theorem F216_G (lf : Nat) (x : (((List ByteArray) × (Int × (Yt × Unit))) × ByteArray)) : F216 Tryz.prog lf x = G216 lf x := (F216_eq lf x.1.1 x.1.2.1 x.1.2.2.1 x.2).trans (by
  unfold G216
  (try simp only [F91_G, F215_G, F244_G, agree_self, Lib.toList_data]); first | done | rfl)
noncomputable def G162 (lf : Nat) : Nat → (((List ByteArray) × (Int × (Yt × Unit))) × Int) → Option ((((List ByteArray) × (Int × (Yt × Unit))) × Int) ⊕ Int)
  | 0, _ => none
  | n + 1, x => jn (cond (decide (x.1.2.1 = (x.1.1.length : Int))) (some (.inl (bts []))) (((getI x.1.1 x.1.2.1)).bind fun r78 => some (.inl r78))) (fun y79 : ByteArray => jn (cond (y79.data.toList == [(UInt8.ofNat 110), (UInt8.ofNat 111), (UInt8.ofNat 116)]) (some (.inl true)) (some (.inl (y79.data.toList == [(UInt8.ofNat 40)])))) (fun y80 : Bool => cond y80 (cond (decide (x.2 = (8 : Int))) (some (.inr (w64 (x.1.2.1 + (1 : Int))))) (cond (y79.data.toList == [(UInt8.ofNat 110), (UInt8.ofNat 111), (UInt8.ofNat 116)]) (((G162 lf n ((x.1.1, ((w64 (x.1.2.1 + (1 : Int))), (x.1.2.2.1, ()))), (w64 (x.2 + (1 : Int)))))).bind fun r81 => sm r81 (fun r82 : (((List ByteArray) × (Int × (Yt × PUnit))) × Int) => ((G215 lf ((r82.1.1, (r82.1.2.1, (r82.1.2.2.1, ()))), ((4 : Int), (r82.2, ((0 : Int), ((bts []), (0 : Int)))))))).bind fun r83 => sm r83 (fun r84 : (((List ByteArray) × (Int × (Yt × PUnit))) × Int) => some (.inl ((r84.1.1, (r84.1.2.1, (r84.1.2.2.1, ()))), r84.2))) (fun r85 : Int => some (.inr r85))) (fun r86 : Int => some (.inr r86))) (jn (jn (jn (((G162 lf n ((x.1.1, ((w64 (x.1.2.1 + (1 : Int))), (x.1.2.2.1, ()))), (w64 (x.2 + (1 : Int)))))).bind fun r87 => sm r87 (fun r88 : (((List ByteArray) × (Int × (Yt × PUnit))) × Int) => some (.inl (r88.2, (r88.1.1, (r88.1.2.1, r88.1.2.2.1))))) (fun r89 : Int => some (.inr (.inr (.inr (.inr r89)))))) (fun y90 : (Int × ((List ByteArray) × (Int × Yt))) => iter lf (fun y91 : (Int × ((List ByteArray) × (Int × Yt))) => cond (decide (y91.2.2.1 = (y91.2.1.length : Int))) (some (.inr (.inl (y91.1, (y91.2.1, (y91.2.2.1, y91.2.2.2)))))) (((getI y91.2.1 y91.2.2.1)).bind fun r92 => cond (r92.data.toList == [(UInt8.ofNat 97), (UInt8.ofNat 110), (UInt8.ofNat 100)]) (jn (((G162 lf n ((y91.2.1, ((w64 (y91.2.2.1 + (1 : Int))), (y91.2.2.2, ()))), (w64 (x.2 + (1 : Int)))))).bind fun r93 => sm r93 (fun r94 : (((List ByteArray) × (Int × (Yt × PUnit))) × Int) => some (.inl (r94.2, (r94.1.1, (r94.1.2.1, r94.1.2.2.1))))) (fun r95 : Int => some (.inr (.inr (.inr (.inr (.inr r95))))))) (fun y96 : (Int × ((List ByteArray) × (Int × Yt))) => ((G215 lf ((y96.2.1, (y96.2.2.1, (y96.2.2.2, ()))), ((5 : Int), (y91.1, (y96.1, ((bts []), (0 : Int)))))))).bind fun r97 => sm r97 (fun r98 : (((List ByteArray) × (Int × (Yt × PUnit))) × Int) => some (.inl (r98.2, (r98.1.1, (r98.1.2.1, r98.1.2.2.1))))) (fun r99 : Int => some (.inr (.inr (.inr (.inr r99))))))) (some (.inr (.inl (y91.1, (y91.2.1, (y91.2.2.1, y91.2.2.2)))))))) (y90.1, (y90.2.1, (y90.2.2.1, y90.2.2.2))))) (fun y100 : (Int × ((List ByteArray) × (Int × Yt))) => iter lf (fun y101 : (Int × ((List ByteArray) × (Int × Yt))) => cond (decide (y101.2.2.1 = (y101.2.1.length : Int))) (some (.inr (.inl (y101.1, (y101.2.1, (y101.2.2.1, y101.2.2.2)))))) (((getI y101.2.1 y101.2.2.1)).bind fun r102 => cond (r102.data.toList == [(UInt8.ofNat 111), (UInt8.ofNat 114)]) (jn (jn (((G162 lf n ((y101.2.1, ((w64 (y101.2.2.1 + (1 : Int))), (y101.2.2.2, ()))), (w64 (x.2 + (1 : Int)))))).bind fun r103 => sm r103 (fun r104 : (((List ByteArray) × (Int × (Yt × PUnit))) × Int) => some (.inl (r104.2, (r104.1.1, (r104.1.2.1, r104.1.2.2.1))))) (fun r105 : Int => some (.inr (.inr (.inr (.inr (.inr r105))))))) (fun y106 : (Int × ((List ByteArray) × (Int × Yt))) => iter lf (fun y107 : (Int × ((List ByteArray) × (Int × Yt))) => cond (decide (y107.2.2.1 = (y107.2.1.length : Int))) (some (.inr (.inl (y107.1, (y107.2.1, (y107.2.2.1, y107.2.2.2)))))) (((getI y107.2.1 y107.2.2.1)).bind fun r108 => cond (r108.data.toList == [(UInt8.ofNat 97), (UInt8.ofNat 110), (UInt8.ofNat 100)]) (jn (((G162 lf n ((y107.2.1, ((w64 (y107.2.2.1 + (1 : Int))), (y107.2.2.2, ()))), (w64 (x.2 + (1 : Int)))))).bind fun r109 => sm r109 (fun r110 : (((List ByteArray) × (Int × (Yt × PUnit))) × Int) => some (.inl (r110.2, (r110.1.1, (r110.1.2.1, r110.1.2.2.1))))) (fun r111 : Int => some (.inr (.inr (.inr (.inr (.inr (.inr r111)))))))) (fun y112 : (Int × ((List ByteArray) × (Int × Yt))) => ((G215 lf ((y112.2.1, (y112.2.2.1, (y112.2.2.2, ()))), ((5 : Int), (y107.1, (y112.1, ((bts []), (0 : Int)))))))).bind fun r113 => sm r113 (fun r114 : (((List ByteArray) × (Int × (Yt × PUnit))) × Int) => some (.inl (r114.2, (r114.1.1, (r114.1.2.1, r114.1.2.2.1))))) (fun r115 : Int => some (.inr (.inr (.inr (.inr (.inr r115)))))))) (some (.inr (.inl (y107.1, (y107.2.1, (y107.2.2.1, y107.2.2.2)))))))) (y106.1, (y106.2.1, (y106.2.2.1, y106.2.2.2))))) (fun y116 : (Int × ((List ByteArray) × (Int × Yt))) => ((G215 lf ((y116.2.1, (y116.2.2.1, (y116.2.2.2, ()))), ((6 : Int), (y101.1, (y116.1, ((bts []), (0 : Int)))))))).bind fun r117 => sm r117 (fun r118 : (((List ByteArray) × (Int × (Yt × PUnit))) × Int) => some (.inl (r118.2, (r118.1.1, (r118.1.2.1, r118.1.2.2.1))))) (fun r119 : Int => some (.inr (.inr (.inr r119)))))) (some (.inr (.inl (y101.1, (y101.2.1, (y101.2.2.1, y101.2.2.2)))))))) (y100.1, (y100.2.1, (y100.2.2.1, y100.2.2.2))))) (fun y120 : (Int × ((List ByteArray) × (Int × Yt))) => jn (cond (decide (y120.2.2.1 = (y120.2.1.length : Int))) (some (.inl true)) (((getI y120.2.1 y120.2.2.1)).bind fun r121 => some (.inl (!(r121.data.toList == [(UInt8.ofNat 41)]))))) (fun y122 : Bool => cond y122 (some (.inr (w64 (y120.2.2.1 + (1 : Int))))) (some (.inl ((y120.2.1, ((w64 (y120.2.2.1 + (1 : Int))), (y120.2.2.2, ()))), y120.1)))))))) (cond (y79.data.toList == [(UInt8.ofNat 116), (UInt8.ofNat 114), (UInt8.ofNat 117), (UInt8.ofNat 101)]) (((G215 lf ((x.1.1, ((w64 (x.1.2.1 + (1 : Int))), (x.1.2.2.1, ()))), ((0 : Int), ((0 : Int), ((0 : Int), ((bts []), (0 : Int)))))))).bind fun r123 => sm r123 (fun r124 : (((List ByteArray) × (Int × (Yt × PUnit))) × Int) => some (.inl ((r124.1.1, (r124.1.2.1, (r124.1.2.2.1, ()))), r124.2))) (fun r125 : Int => some (.inr r125))) (((G94 lf y79)).bind fun r126 => cond (!r126) (some (.inr (w64 (x.1.2.1 + (1 : Int))))) (((G216 lf ((x.1.1, ((w64 (x.1.2.1 + (1 : Int))), (x.1.2.2.1, ()))), y79))).bind fun r127 => sm r127 (fun r128 : (((List ByteArray) × (Int × (Yt × PUnit))) × Int) => some (.inl ((r128.1.1, (r128.1.2.1, (r128.1.2.2.1, ()))), r128.2))) (fun r129 : Int => some (.inr r129)))))))
theorem F162_G (lf : Nat) : ∀ (n : Nat) (x : (((List ByteArray) × (Int × (Yt × Unit))) × Int)), F162 Tryz.prog lf n x = G162 lf n x
  | 0, _ => rfl
  | n + 1, x => (F162_eq lf n x.1.1 x.1.2.1 x.1.2.2.1 x.2).trans (by
    unfold G162
    (try simp only [F162_G lf n, F94_G, F215_G, F216_G, agree_self, Lib.toList_data]); first | done | rfl)
noncomputable def G17 (lf : Nat) (x : ByteArray) : Option ((Yt × (Int × Int))) :=
  cond (decide ((x.size : Int) > (8000 : Int))) (some (([] : List (Int × (Int × (Int × (ByteArray × Int))))), ((0 : Int), (2 : Int)))) (((G86 lf x)).bind fun r57 => jn (jn (jn (((G162 lf lf ((r57, ((0 : Int), (([] : List (Int × (Int × (Int × (ByteArray × Int))))), ()))), (0 : Int)))).bind fun r58 => sm r58 (fun r59 : (((List ByteArray) × (Int × (Yt × PUnit))) × Int) => some (.inl (r59.2, (r59.1.1, (r59.1.2.1, r59.1.2.2.1))))) (fun r60 : Int => outR (outR (outR (some (([] : List (Int × (Int × (Int × (ByteArray × Int))))), (r60, (46 : Int)))))))) (fun y61 : (Int × ((List ByteArray) × (Int × Yt))) => iter lf (fun y62 : (Int × ((List ByteArray) × (Int × Yt))) => cond (decide (y62.2.2.1 = (y62.2.1.length : Int))) (some (.inr (.inl (y62.1, (y62.2.1, (y62.2.2.1, y62.2.2.2)))))) (((getI y62.2.1 y62.2.2.1)).bind fun r63 => cond (r63.data.toList == [(UInt8.ofNat 97), (UInt8.ofNat 110), (UInt8.ofNat 100)]) (jn (((G162 lf lf ((y62.2.1, ((w64 (y62.2.2.1 + (1 : Int))), (y62.2.2.2, ()))), (0 : Int)))).bind fun r64 => sm r64 (fun r65 : (((List ByteArray) × (Int × (Yt × PUnit))) × Int) => some (.inl (r65.2, (r65.1.1, (r65.1.2.1, r65.1.2.2.1))))) (fun r66 : Int => outR (outR (outR (outR (some (([] : List (Int × (Int × (Int × (ByteArray × Int))))), (r66, (46 : Int))))))))) (fun y67 : (Int × ((List ByteArray) × (Int × Yt))) => ((G215 lf ((y67.2.1, (y67.2.2.1, (y67.2.2.2, ()))), ((5 : Int), (y62.1, (y67.1, ((bts []), (0 : Int)))))))).bind fun r68 => sm r68 (fun r69 : (((List ByteArray) × (Int × (Yt × PUnit))) × Int) => some (.inl (r69.2, (r69.1.1, (r69.1.2.1, r69.1.2.2.1))))) (fun r70 : Int => outR (outR (outR (some (([] : List (Int × (Int × (Int × (ByteArray × Int))))), (r70, (46 : Int))))))))) (some (.inr (.inl (y62.1, (y62.2.1, (y62.2.2.1, y62.2.2.2)))))))) (y61.1, (y61.2.1, (y61.2.2.1, y61.2.2.2))))) (fun y71 : (Int × ((List ByteArray) × (Int × Yt))) => iter lf (fun y72 : (Int × ((List ByteArray) × (Int × Yt))) => cond (decide (y72.2.2.1 = (y72.2.1.length : Int))) (some (.inr (.inl (y72.2.1, (y72.2.2.1, y72.2.2.2))))) (((getI y72.2.1 y72.2.2.1)).bind fun r73 => cond (r73.data.toList == [(UInt8.ofNat 111), (UInt8.ofNat 114)]) (jn (jn (((G162 lf lf ((y72.2.1, ((w64 (y72.2.2.1 + (1 : Int))), (y72.2.2.2, ()))), (0 : Int)))).bind fun r74 => sm r74 (fun r75 : (((List ByteArray) × (Int × (Yt × PUnit))) × Int) => some (.inl (r75.2, (r75.1.1, (r75.1.2.1, r75.1.2.2.1))))) (fun r76 : Int => outR (outR (outR (outR (some (([] : List (Int × (Int × (Int × (ByteArray × Int))))), (r76, (46 : Int))))))))) (fun y77 : (Int × ((List ByteArray) × (Int × Yt))) => iter lf (fun y78 : (Int × ((List ByteArray) × (Int × Yt))) => cond (decide (y78.2.2.1 = (y78.2.1.length : Int))) (some (.inr (.inl (y78.1, (y78.2.1, (y78.2.2.1, y78.2.2.2)))))) (((getI y78.2.1 y78.2.2.1)).bind fun r79 => cond (r79.data.toList == [(UInt8.ofNat 97), (UInt8.ofNat 110), (UInt8.ofNat 100)]) (jn (((G162 lf lf ((y78.2.1, ((w64 (y78.2.2.1 + (1 : Int))), (y78.2.2.2, ()))), (0 : Int)))).bind fun r80 => sm r80 (fun r81 : (((List ByteArray) × (Int × (Yt × PUnit))) × Int) => some (.inl (r81.2, (r81.1.1, (r81.1.2.1, r81.1.2.2.1))))) (fun r82 : Int => outR (outR (outR (outR (outR (some (([] : List (Int × (Int × (Int × (ByteArray × Int))))), (r82, (46 : Int)))))))))) (fun y83 : (Int × ((List ByteArray) × (Int × Yt))) => ((G215 lf ((y83.2.1, (y83.2.2.1, (y83.2.2.2, ()))), ((5 : Int), (y78.1, (y83.1, ((bts []), (0 : Int)))))))).bind fun r84 => sm r84 (fun r85 : (((List ByteArray) × (Int × (Yt × PUnit))) × Int) => some (.inl (r85.2, (r85.1.1, (r85.1.2.1, r85.1.2.2.1))))) (fun r86 : Int => outR (outR (outR (outR (some (([] : List (Int × (Int × (Int × (ByteArray × Int))))), (r86, (46 : Int)))))))))) (some (.inr (.inl (y78.1, (y78.2.1, (y78.2.2.1, y78.2.2.2)))))))) (y77.1, (y77.2.1, (y77.2.2.1, y77.2.2.2))))) (fun y87 : (Int × ((List ByteArray) × (Int × Yt))) => ((G215 lf ((y87.2.1, (y87.2.2.1, (y87.2.2.2, ()))), ((6 : Int), (y72.1, (y87.1, ((bts []), (0 : Int)))))))).bind fun r88 => sm r88 (fun r89 : (((List ByteArray) × (Int × (Yt × PUnit))) × Int) => some (.inl (r89.2, (r89.1.1, (r89.1.2.1, r89.1.2.2.1))))) (fun r90 : Int => outR (outR (some (([] : List (Int × (Int × (Int × (ByteArray × Int))))), (r90, (46 : Int)))))))) (some (.inr (.inl (y72.2.1, (y72.2.2.1, y72.2.2.2))))))) (y71.1, (y71.2.1, (y71.2.2.1, y71.2.2.2))))) (fun y91 : ((List ByteArray) × (Int × Yt)) => cond (decide (y91.2.1 < (y91.1.length : Int))) (some (([] : List (Int × (Int × (Int × (ByteArray × Int))))), ((w64 (y91.2.1 + (1 : Int))), (46 : Int)))) (cond (decide ((y91.2.2.length : Int) > (30 : Int))) (some (([] : List (Int × (Int × (Int × (ByteArray × Int))))), ((0 : Int), (2 : Int)))) (some (y91.2.2, ((0 : Int), (0 : Int)))))))
theorem F17_G (lf : Nat) (x : ByteArray) : F17 Tryz.prog lf x = G17 lf x := (F17_eq lf x).trans (by
  unfold G17
  (try simp only [F86_G, F162_G, F215_G, agree_self, Lib.toList_data]); first | done | rfl)
end Go.K
namespace Go.K
open Go.Sl Go.Sx Go.Proofs
def S110 : FuncId → Sp := fun g => match g with
  | 178 => { loops := [(2, [(.slot 8, .dat .i)])] }
  | _ => {}
noncomputable def F110 (P : Program) (lf : Nat) (x : tt [(false, (.sl (.pair .str (.pair .i .i)))), (false, .str)]) : Option (tt [(false, .i)]) := fnF P (C17 P lf) S110 110 [(false, (.sl (.pair .str (.pair .i .i)))), (false, .str)] [(false, .i)] lf x
noncomputable def C110 (P : Program) (lf : Nat) : FuncId → Option Con := extC (C17 P lf) 110 (dataCon [(false, (.sl (.pair .str (.pair .i .i)))), (false, .str)] [(false, .i)] (F110 P lf))
theorem F110_eq (lf : Nat) (a0 : Yf) (a1 : ByteArray) : F110 Tryz.prog lf (a0, a1) =
  iter lf (fun y4 : Int => cond (decide (y4 < (a0.length : Int))) (((getI a0 y4)).bind fun r5 => cond ((ByteArray.toList r5.1) == (ByteArray.toList a1)) (some (.inr y4)) (some (.inl (w64 (y4 + (1 : Int)))))) (some (.inr (-1 : Int)))) (0 : Int) := by kernel_rfl
def S190 : FuncId → Sp := fun _ => {}
noncomputable def F190 (P : Program) (lf : Nat) (x : tt [(true, (.pair (.sl (.pair .str (.pair .i .i))) (.sl .i))), (false, .str)]) : Option (tt [(false, .i)]) := fnF P (C110 P lf) S190 190 [(true, (.pair (.sl (.pair .str (.pair .i .i))) (.sl .i))), (false, .str)] [(false, .i)] lf x
noncomputable def C190 (P : Program) (lf : Nat) : FuncId → Option Con := extC (C110 P lf) 190 (dataCon [(true, (.pair (.sl (.pair .str (.pair .i .i))) (.sl .i))), (false, .str)] [(false, .i)] (F190 P lf))
theorem F190_eq (lf : Nat) (a0 : Yf) (a1 : (List Int)) (a2 : ByteArray) : F190 Tryz.prog lf ((a0, a1), a2) =
  ((F110 Tryz.prog lf (a0, a2))).bind fun r5 => ((getI a1 r5)).bind fun r6 => some r6 := by kernel_rfl
def S188 : FuncId → Sp := fun _ => {}
noncomputable def F188 (P : Program) (lf : Nat) (x : tt [(true, (.pair (.sl (.pair .str (.pair .i .i))) (.sl .i))), (true, Yp), (false, (.sl .bool))]) : Option (tt [(false, .bool)]) := fnF P (C190 P lf) S188 188 [(true, (.pair (.sl (.pair .str (.pair .i .i))) (.sl .i))), (true, Yp), (false, (.sl .bool))] [(false, .bool)] lf x
noncomputable def C188 (P : Program) (lf : Nat) : FuncId → Option Con := extC (C190 P lf) 188 (dataCon [(true, (.pair (.sl (.pair .str (.pair .i .i))) (.sl .i))), (true, Yp), (false, (.sl .bool))] [(false, .bool)] (F188 P lf))
theorem F188_eq (lf : Nat) (a0 : Yf) (a1 : (List Int)) (a2 : Int) (a3 : Int) (a4 : Int) (a5 : ByteArray) (a6 : Int) (a7 : (List Bool)) : F188 Tryz.prog lf ((a0, a1), ((a2, (a3, (a4, (a5, a6)))), a7)) =
  some true := by kernel_rfl
def S189 : FuncId → Sp := fun _ => {}
noncomputable def F189 (P : Program) (lf : Nat) (x : tt [(true, (.pair (.sl (.pair .str (.pair .i .i))) (.sl .i))), (true, Yp), (false, (.sl .bool))]) : Option (tt [(false, .bool)]) := fnF P (C188 P lf) S189 189 [(true, (.pair (.sl (.pair .str (.pair .i .i))) (.sl .i))), (true, Yp), (false, (.sl .bool))] [(false, .bool)] lf x
noncomputable def C189 (P : Program) (lf : Nat) : FuncId → Option Con := extC (C188 P lf) 189 (dataCon [(true, (.pair (.sl (.pair .str (.pair .i .i))) (.sl .i))), (true, Yp), (false, (.sl .bool))] [(false, .bool)] (F189 P lf))
theorem F189_eq (lf : Nat) (a0 : Yf) (a1 : (List Int)) (a2 : Int) (a3 : Int) (a4 : Int) (a5 : ByteArray) (a6 : Int) (a7 : (List Bool)) : F189 Tryz.prog lf ((a0, a1), ((a2, (a3, (a4, (a5, a6)))), a7)) =
  ((F190 Tryz.prog lf ((a0, a1), a5))).bind fun r9 => some (decide (r9 < a6)) := by kernel_rfl
def S191 : FuncId → Sp := fun _ => {}
noncomputable def F191 (P : Program) (lf : Nat) (x : tt [(true, (.pair (.sl (.pair .str (.pair .i .i))) (.sl .i))), (true, Yp), (false, (.sl .bool))]) : Option (tt [(false, .bool)]) := fnF P (C189 P lf) S191 191 [(true, (.pair (.sl (.pair .str (.pair .i .i))) (.sl .i))), (true, Yp), (false, (.sl .bool))] [(false, .bool)] lf x
noncomputable def C191 (P : Program) (lf : Nat) : FuncId → Option Con := extC (C189 P lf) 191 (dataCon [(true, (.pair (.sl (.pair .str (.pair .i .i))) (.sl .i))), (true, Yp), (false, (.sl .bool))] [(false, .bool)] (F191 P lf))
theorem F191_eq (lf : Nat) (a0 : Yf) (a1 : (List Int)) (a2 : Int) (a3 : Int) (a4 : Int) (a5 : ByteArray) (a6 : Int) (a7 : (List Bool)) : F191 Tryz.prog lf ((a0, a1), ((a2, (a3, (a4, (a5, a6)))), a7)) =
  ((F190 Tryz.prog lf ((a0, a1), a5))).bind fun r9 => some (decide (r9 ≤ a6)) := by kernel_rfl
def S192 : FuncId → Sp := fun _ => {}
noncomputable def F192 (P : Program) (lf : Nat) (x : tt [(true, (.pair (.sl (.pair .str (.pair .i .i))) (.sl .i))), (true, Yp), (false, (.sl .bool))]) : Option (tt [(false, .bool)]) := fnF P (C191 P lf) S192 192 [(true, (.pair (.sl (.pair .str (.pair .i .i))) (.sl .i))), (true, Yp), (false, (.sl .bool))] [(false, .bool)] lf x
noncomputable def C192 (P : Program) (lf : Nat) : FuncId → Option Con := extC (C191 P lf) 192 (dataCon [(true, (.pair (.sl (.pair .str (.pair .i .i))) (.sl .i))), (true, Yp), (false, (.sl .bool))] [(false, .bool)] (F192 P lf))
theorem F192_eq (lf : Nat) (a0 : Yf) (a1 : (List Int)) (a2 : Int) (a3 : Int) (a4 : Int) (a5 : ByteArray) (a6 : Int) (a7 : (List Bool)) : F192 Tryz.prog lf ((a0, a1), ((a2, (a3, (a4, (a5, a6)))), a7)) =
  ((F190 Tryz.prog lf ((a0, a1), a5))).bind fun r9 => some (decide (r9 = a6)) := by kernel_rfl
def S193 : FuncId → Sp := fun _ => {}
noncomputable def F193 (P : Program) (lf : Nat) (x : tt [(true, (.pair (.sl (.pair .str (.pair .i .i))) (.sl .i))), (true, Yp), (false, (.sl .bool))]) : Option (tt [(false, .bool)]) := fnF P (C192 P lf) S193 193 [(true, (.pair (.sl (.pair .str (.pair .i .i))) (.sl .i))), (true, Yp), (false, (.sl .bool))] [(false, .bool)] lf x
noncomputable def C193 (P : Program) (lf : Nat) : FuncId → Option Con := extC (C192 P lf) 193 (dataCon [(true, (.pair (.sl (.pair .str (.pair .i .i))) (.sl .i))), (true, Yp), (false, (.sl .bool))] [(false, .bool)] (F193 P lf))
theorem F193_eq (lf : Nat) (a0 : Yf) (a1 : (List Int)) (a2 : Int) (a3 : Int) (a4 : Int) (a5 : ByteArray) (a6 : Int) (a7 : (List Bool)) : F193 Tryz.prog lf ((a0, a1), ((a2, (a3, (a4, (a5, a6)))), a7)) =
  ((getI a7 a3)).bind fun r9 => some (!r9) := by kernel_rfl
def S194 : FuncId → Sp := fun _ => {}
noncomputable def F194 (P : Program) (lf : Nat) (x : tt [(true, (.pair (.sl (.pair .str (.pair .i .i))) (.sl .i))), (true, Yp), (false, (.sl .bool))]) : Option (tt [(false, .bool)]) := fnF P (C193 P lf) S194 194 [(true, (.pair (.sl (.pair .str (.pair .i .i))) (.sl .i))), (true, Yp), (false, (.sl .bool))] [(false, .bool)] lf x
noncomputable def C194 (P : Program) (lf : Nat) : FuncId → Option Con := extC (C193 P lf) 194 (dataCon [(true, (.pair (.sl (.pair .str (.pair .i .i))) (.sl .i))), (true, Yp), (false, (.sl .bool))] [(false, .bool)] (F194 P lf))
theorem F194_eq (lf : Nat) (a0 : Yf) (a1 : (List Int)) (a2 : Int) (a3 : Int) (a4 : Int) (a5 : ByteArray) (a6 : Int) (a7 : (List Bool)) : F194 Tryz.prog lf ((a0, a1), ((a2, (a3, (a4, (a5, a6)))), a7)) =
  ((getI a7 a3)).bind fun r10 => cond r10 (((getI a7 a4)).bind fun r11 => some r11) (some false) := by kernel_rfl
def S195 : FuncId → Sp := fun _ => {}
noncomputable def F195 (P : Program) (lf : Nat) (x : tt [(true, (.pair (.sl (.pair .str (.pair .i .i))) (.sl .i))), (true, Yp), (false, (.sl .bool))]) : Option (tt [(false, .bool)]) := fnF P (C194 P lf) S195 195 [(true, (.pair (.sl (.pair .str (.pair .i .i))) (.sl .i))), (true, Yp), (false, (.sl .bool))] [(false, .bool)] lf x
noncomputable def C195 (P : Program) (lf : Nat) : FuncId → Option Con := extC (C194 P lf) 195 (dataCon [(true, (.pair (.sl (.pair .str (.pair .i .i))) (.sl .i))), (true, Yp), (false, (.sl .bool))] [(false, .bool)] (F195 P lf))
theorem F195_eq (lf : Nat) (a0 : Yf) (a1 : (List Int)) (a2 : Int) (a3 : Int) (a4 : Int) (a5 : ByteArray) (a6 : Int) (a7 : (List Bool)) : F195 Tryz.prog lf ((a0, a1), ((a2, (a3, (a4, (a5, a6)))), a7)) =
  ((getI a7 a3)).bind fun r10 => cond r10 (some true) (((getI a7 a4)).bind fun r11 => some r11) := by kernel_rfl
abbrev AO131 : List AT := []
abbrev RO131 : List AT := [(false, .mpc [(.int .i64 0, .fn 188), (.int .i64 1, .fn 189), (.int .i64 2, .fn 191), (.int .i64 3, .fn 192), (.int .i64 4, .fn 193), (.int .i64 5, .fn 194), (.int .i64 6, .fn 195)])]
def S131 : FuncId → Sp := fun _ => {}
noncomputable def F131 (P : Program) (lf : Nat) (x : tt AO131) : Option (tt RO131) := fnF P (C195 P lf) S131 131 AO131 RO131 lf x
noncomputable def C131 (P : Program) (lf : Nat) : FuncId → Option Con := extC (C195 P lf) 131 (dataCon AO131 RO131 (F131 P lf))
theorem F131_eq (lf : Nat) : F131 Tryz.prog lf () =
  some () := by kernel_rfl
abbrev AO147 : List AT := [(true, (.pair (.sl (.pair .str (.pair .i .i))) (.sl .i))), (true, (.sl Yp)), (false, .mpc [(.int .i64 0, .fn 188), (.int .i64 1, .fn 189), (.int .i64 2, .fn 191), (.int .i64 3, .fn 192), (.int .i64 4, .fn 193), (.int .i64 5, .fn 194), (.int .i64 6, .fn 195)])]
abbrev RO147 : List AT := [(false, .bool)]
def S147 : FuncId → Sp := fun g => match g with
  | 147 => { joins := [(6, [(.slot 7, .own .bool 4)])], loops := [(3, [(.slot 7, .own .bool 4), (.slot 13, .dat .i)])] }
  | _ => {}
noncomputable def F147 (P : Program) (lf : Nat) (x : tt AO147) : Option (tt RO147) := fnF P (C131 P lf) S147 147 AO147 RO147 lf x
noncomputable def C147 (P : Program) (lf : Nat) : FuncId → Option Con := extC (C131 P lf) 147 (dataCon AO147 RO147 (F147 P lf))
theorem F147_eq (lf : Nat) (a0 : Yf) (a1 : (List Int)) (a2 : Yt) : F147 Tryz.prog lf ((a0, a1), (a2, ())) =
  iter lf (fun y23 : ((List Bool) × Int) => cond (decide (y23.2 < (a2.length : Int))) (jn (((getI a2 y23.2)).bind fun r24 => cond (decide (r24.1 = (0 : Int))) (((F188 Tryz.prog lf ((a0, a1), ((r24.1, (r24.2.1, (r24.2.2.1, (r24.2.2.2.1, r24.2.2.2.2)))), y23.1)))).bind fun r25 => ((appC y23.1 [r25])).bind fun r26 => some (.inl r26)) (cond (decide (r24.1 = (1 : Int))) (((F189 Tryz.prog lf ((a0, a1), ((r24.1, (r24.2.1, (r24.2.2.1, (r24.2.2.2.1, r24.2.2.2.2)))), y23.1)))).bind fun r27 => ((appC y23.1 [r27])).bind fun r28 => some (.inl r28)) (cond (decide (r24.1 = (2 : Int))) (((F191 Tryz.prog lf ((a0, a1), ((r24.1, (r24.2.1, (r24.2.2.1, (r24.2.2.2.1, r24.2.2.2.2)))), y23.1)))).bind fun r29 => ((appC y23.1 [r29])).bind fun r30 => some (.inl r30)) (cond (decide (r24.1 = (3 : Int))) (((F192 Tryz.prog lf ((a0, a1), ((r24.1, (r24.2.1, (r24.2.2.1, (r24.2.2.2.1, r24.2.2.2.2)))), y23.1)))).bind fun r31 => ((appC y23.1 [r31])).bind fun r32 => some (.inl r32)) (cond (decide (r24.1 = (4 : Int))) (((F193 Tryz.prog lf ((a0, a1), ((r24.1, (r24.2.1, (r24.2.2.1, (r24.2.2.2.1, r24.2.2.2.2)))), y23.1)))).bind fun r33 => ((appC y23.1 [r33])).bind fun r34 => some (.inl r34)) (cond (decide (r24.1 = (5 : Int))) (((F194 Tryz.prog lf ((a0, a1), ((r24.1, (r24.2.1, (r24.2.2.1, (r24.2.2.2.1, r24.2.2.2.2)))), y23.1)))).bind fun r35 => ((appC y23.1 [r35])).bind fun r36 => some (.inl r36)) (cond (decide (r24.1 = (6 : Int))) (((F195 Tryz.prog lf ((a0, a1), ((r24.1, (r24.2.1, (r24.2.2.1, (r24.2.2.2.1, r24.2.2.2.2)))), y23.1)))).bind fun r37 => ((appC y23.1 [r37])).bind fun r38 => some (.inl r38)) ((outI))))))))) (fun y39 : (List Bool) => some (.inl (y39, (w64 (y23.2 + (1 : Int))))))) (outR (((getI y23.1 (w64 ((y23.1.length : Int) - (1 : Int))))).bind fun r40 => ((getI y23.1 (w64 ((y23.1.length : Int) - (1 : Int))))).bind fun r41 => some r41))) (([] : List Bool), (0 : Int)) := by kernel_rfl
def S36 : FuncId → Sp := fun g => match g with
  | 123 => { loops := [(2, [(.slot 8, .dat .i)])] }
  | _ => {}
noncomputable def F36 (P : Program) (lf : Nat) (x : tt [(true, (.pair .str (.pair (.sl (.pair .str (.pair .i .i))) (.sl Yq)))), (false, .str)]) : Option (tt [(false, .i)]) := fnF P (C147 P lf) S36 36 [(true, (.pair .str (.pair (.sl (.pair .str (.pair .i .i))) (.sl Yq)))), (false, .str)] [(false, .i)] lf x
noncomputable def C36 (P : Program) (lf : Nat) : FuncId → Option Con := extC (C147 P lf) 36 (dataCon [(true, (.pair .str (.pair (.sl (.pair .str (.pair .i .i))) (.sl Yq)))), (false, .str)] [(false, .i)] (F36 P lf))
theorem F36_eq (lf : Nat) (a0 : ByteArray) (a1 : Yf) (a2 : Yr) (a3 : ByteArray) : F36 Tryz.prog lf ((a0, (a1, a2)), a3) =
  iter lf (fun y6 : Int => cond (decide (y6 < (a2.length : Int))) (((getI a2 y6)).bind fun r7 => cond ((ByteArray.toList r7.1) == (ByteArray.toList a3)) (some (.inr y6)) (some (.inl (w64 (y6 + (1 : Int)))))) (some (.inr (-1 : Int)))) (0 : Int) := by kernel_rfl
abbrev AO130 : List AT := [(true, (.pair .str (.pair (.sl (.pair .str (.pair .i .i))) (.sl Yq)))), (false, .i), (false, (.sl .i)), (false, .mpc [(.int .i64 0, .fn 188), (.int .i64 1, .fn 189), (.int .i64 2, .fn 191), (.int .i64 3, .fn 192), (.int .i64 4, .fn 193), (.int .i64 5, .fn 194), (.int .i64 6, .fn 195)])]
abbrev RO130 : List AT := [(true, (.pair (.sl .bool) (.sl .bool)))]
def S130 : FuncId → Sp := fun g => match g with
  | 130 => { joins := [(7, [(.slot 13, .dat .bool)])], loops := [(8, [(.slot 13, .dat .bool), (.slot 43, .dat .i)]), (4, [(.slot 23, .dat .i), (.cell 10 1, .own .bool 4), (.cell 10 0, .own .bool 4)])], wr := [10], pu := [36] }
  | _ => {}
noncomputable def F130 (P : Program) (lf : Nat) (x : tt AO130) : Option (tt RO130) := fnF P (C36 P lf) S130 130 AO130 RO130 lf x
noncomputable def C130 (P : Program) (lf : Nat) : FuncId → Option Con := extC (C36 P lf) 130 (dataCon AO130 RO130 (F130 P lf))
theorem F130_eq (lf : Nat) (a0 : ByteArray) (a1 : Yf) (a2 : Yr) (a3 : Int) (a4 : (List Int)) : F130 Tryz.prog lf ((a0, (a1, a2)), (a3, (a4, ()))) =
  iter lf (fun y37 : (Int × ((List Bool) × (List Bool))) => cond (decide (y37.1 < (a2.length : Int))) (((getI a2 y37.1)).bind fun r38 => jn (((F91 Tryz.prog lf (a3, (r38.2.1, r38.2.2.1)))).bind fun r39 => cond r39 (((F147 Tryz.prog lf ((a1, a4), (r38.2.2.2.1, ())))).bind fun r40 => some (.inl r40)) (some (.inl false))) (fun y41 : Bool => iter lf (fun y42 : (Bool × Int) => cond (decide (y42.2 < (r38.2.2.2.2.2.length : Int))) (((getI r38.2.2.2.2.2 y42.2)).bind fun r43 => cond y42.1 (((F36 Tryz.prog lf ((a0, (a1, a2)), r43))).bind fun r44 => ((getI y37.2.2 r44)).bind fun r45 => ((getI y37.2.2 r44)).bind fun r46 => some (.inl ((!r46), (w64 (y42.2 + (1 : Int)))))) (some (.inl (false, (w64 (y42.2 + (1 : Int))))))) (outR (((appC y37.2.2 [y42.1])).bind fun r47 => cond (!y42.1) (((appC y37.2.1 [true])).bind fun r48 => some (.inl ((w64 (y37.1 + (1 : Int))), (r48, r47)))) (((F147 Tryz.prog lf ((a1, a4), (r38.2.2.2.2.1, ())))).bind fun r49 => ((appC y37.2.1 [r49])).bind fun r50 => some (.inl ((w64 (y37.1 + (1 : Int))), (r50, r47))))))) (y41, (0 : Int)))) (some (.inr (y37.2.2, y37.2.1)))) ((0 : Int), (([] : List Bool), ([] : List Bool))) := by kernel_rfl
def S116 : FuncId → Sp := fun g => match g with
  | 116 => { loops := [(3, [(.slot 3, .own (.sl Yp) 24), (.slot 9, .dat .i)])] }
  | _ => {}
noncomputable def F116 (P : Program) (lf : Nat) (x : tt [(true, (.pair .str (.pair (.sl (.pair .str (.pair .i .i))) (.sl Yq))))]) : Option (tt [(false, (.sl (.sl Yp)))]) := fnF P (C130 P lf) S116 116 [(true, (.pair .str (.pair (.sl (.pair .str (.pair .i .i))) (.sl Yq))))] [(false, (.sl (.sl Yp)))] lf x
noncomputable def C116 (P : Program) (lf : Nat) : FuncId → Option Con := extC (C130 P lf) 116 (dataCon [(true, (.pair .str (.pair (.sl (.pair .str (.pair .i .i))) (.sl Yq))))] [(false, (.sl (.sl Yp)))] (F116 P lf))
theorem F116_eq (lf : Nat) (a0 : ByteArray) (a1 : Yf) (a2 : Yr) : F116 Tryz.prog lf (a0, (a1, a2)) =
  iter lf (fun y7 : ((List Yt) × Int) => cond (decide (y7.2 < (a2.length : Int))) (((getI a2 y7.2)).bind fun r8 => ((appC y7.1 [r8.2.2.2.1, r8.2.2.2.2.1])).bind fun r9 => some (.inl (r9, (w64 (y7.2 + (1 : Int)))))) (some (.inr y7.1))) (([] : List Yt), (0 : Int)) := by kernel_rfl
def S181 : FuncId → Sp := fun _ => {}
noncomputable def F181 (P : Program) (lf : Nat) (x : tt [(true, Yp)]) : Option (tt [(false, (.sl .i))]) := fnF P (C116 P lf) S181 181 [(true, Yp)] [(false, (.sl .i))] lf x
noncomputable def C181 (P : Program) (lf : Nat) : FuncId → Option Con := extC (C116 P lf) 181 (dataCon [(true, Yp)] [(false, (.sl .i))] (F181 P lf))
theorem F181_eq (lf : Nat) (a0 : Int) (a1 : Int) (a2 : Int) (a3 : ByteArray) (a4 : Int) : F181 Tryz.prog lf (a0, (a1, (a2, (a3, a4)))) =
  cond (decide (a0 = (1 : Int))) (some [a4]) (cond (decide (a0 = (2 : Int))) (some [(w64 (a4 + (1 : Int)))]) (cond (decide (a0 = (3 : Int))) (some [a4, (w64 (a4 + (1 : Int)))]) (some ([] : List Int)))) := by kernel_rfl
def S115 : FuncId → Sp := fun g => match g with
  | 115 => { joins := [(17, [(.slot 61, .dat .bool)])], loops := [(14, [(.slot 8, .own .i 3), (.slot 46, .dat .i)]), (10, [(.slot 8, .own .i 3), (.slot 34, .dat .i)]), (7, [(.slot 8, .own .i 3), (.slot 27, .dat .i)]), (3, [(.slot 5, .own (.sl .i) 41), (.slot 17, .dat .i)])] }
  | _ => {}
noncomputable def F115 (P : Program) (lf : Nat) (x : tt [(false, (.sl (.pair .str (.pair .i .i)))), (false, (.sl (.sl Yp)))]) : Option (tt [(false, (.sl (.sl .i)))]) := fnF P (C181 P lf) S115 115 [(false, (.sl (.pair .str (.pair .i .i)))), (false, (.sl (.sl Yp)))] [(false, (.sl (.sl .i)))] lf x
noncomputable def C115 (P : Program) (lf : Nat) : FuncId → Option Con := extC (C181 P lf) 115 (dataCon [(false, (.sl (.pair .str (.pair .i .i)))), (false, (.sl (.sl Yp)))] [(false, (.sl (.sl .i)))] (F115 P lf))
theorem F115_eq (lf : Nat) (a0 : Yf) (a1 : (List Yt)) : F115 Tryz.prog lf (a0, a1) =
  iter lf (fun y20 : ((List (List Int)) × Int) => cond (decide (y20.2 < (a0.length : Int))) (((getI a0 y20.2)).bind fun r21 => iter lf (fun y22 : ((List Int) × Int) => cond (decide (y22.2 < (a1.length : Int))) (((getI a1 y22.2)).bind fun r23 => iter lf (fun y24 : ((List Int) × Int) => cond (decide (y24.2 < (r23.length : Int))) (((getI r23 y24.2)).bind fun r25 => cond (!((ByteArray.toList r25.2.2.2.1) == (ByteArray.toList r21.1))) (some (.inl (y24.1, (w64 (y24.2 + (1 : Int)))))) (((F181 Tryz.prog lf (r25.1, (r25.2.1, (r25.2.2.1, (r25.2.2.2.1, r25.2.2.2.2)))))).bind fun r26 => iter lf (fun y27 : ((List Int) × Int) => cond (decide (y27.2 < (r26.length : Int))) (((getI r26 y27.2)).bind fun r28 => jn (cond (decide (r28 > r21.2.1)) (some (.inl (decide (r28 ≤ r21.2.2)))) (some (.inl false))) (fun y29 : Bool => cond y29 (((appC y27.1 [r28])).bind fun r30 => some (.inl (r30, (w64 (y27.2 + (1 : Int)))))) (some (.inl (y27.1, (w64 (y27.2 + (1 : Int)))))))) (some (.inr (.inl (y27.1, (w64 (y24.2 + (1 : Int)))))))) (y24.1, (0 : Int)))) (some (.inr (.inl (y24.1, (w64 (y22.2 + (1 : Int)))))))) (y22.1, (0 : Int))) (outR (((ltC y22.1)).bind fun r31 => ((ltC (sortL y22.1))).bind fun r32 => ((appC y20.1 [(compL (sortL y22.1))])).bind fun r33 => some (.inl (r33, (w64 (y20.2 + (1 : Int)))))))) ([r21.2.1], (0 : Int))) (some (.inr y20.1))) (([] : List (List Int)), (0 : Int)) := by kernel_rfl
def S106 : FuncId → Sp := fun g => match g with
  | 106 => { loops := [(2, [(.slot 8, .dat .i)])] }
  | _ => {}
noncomputable def F106 (P : Program) (lf : Nat) (x : tt [(false, (.sl .bool)), (false, .bool)]) : Option (tt [(false, .i)]) := fnF P (C115 P lf) S106 106 [(false, (.sl .bool)), (false, .bool)] [(false, .i)] lf x
noncomputable def C106 (P : Program) (lf : Nat) : FuncId → Option Con := extC (C115 P lf) 106 (dataCon [(false, (.sl .bool)), (false, .bool)] [(false, .i)] (F106 P lf))
theorem F106_eq (lf : Nat) (a0 : (List Bool)) (a1 : Bool) : F106 Tryz.prog lf (a0, a1) =
  iter lf (fun y4 : Int => cond (decide (y4 < (a0.length : Int))) (((getI a0 y4)).bind fun r5 => cond (decide (a1 = r5)) (some (.inr y4)) (some (.inl (w64 (y4 + (1 : Int)))))) (some (.inr (-1 : Int)))) (0 : Int) := by kernel_rfl
def S174 : FuncId → Sp := fun _ => {}
noncomputable def F174 (P : Program) (lf : Nat) (x : tt [(false, (.sl .bool)), (false, .bool)]) : Option (tt [(false, .bool)]) := fnF P (C106 P lf) S174 174 [(false, (.sl .bool)), (false, .bool)] [(false, .bool)] lf x
noncomputable def C174 (P : Program) (lf : Nat) : FuncId → Option Con := extC (C106 P lf) 174 (dataCon [(false, (.sl .bool)), (false, .bool)] [(false, .bool)] (F174 P lf))
theorem F174_eq (lf : Nat) (a0 : (List Bool)) (a1 : Bool) : F174 Tryz.prog lf (a0, a1) =
  ((F106 Tryz.prog lf (a0, a1))).bind fun r3 => some (decide (r3 ≥ (0 : Int))) := by kernel_rfl
def S125 : FuncId → Sp := fun _ => {}
noncomputable def F125 (P : Program) (lf : Nat) (x : tt [(false, (.sl .bool))]) : Option (tt [(false, .i)]) := fnF P (C174 P lf) S125 125 [(false, (.sl .bool))] [(false, .i)] lf x
noncomputable def C125 (P : Program) (lf : Nat) : FuncId → Option Con := extC (C174 P lf) 125 (dataCon [(false, (.sl .bool))] [(false, .i)] (F125 P lf))
theorem F125_eq (lf : Nat) (a0 : (List Bool)) : F125 Tryz.prog lf a0 =
  ((F174 Tryz.prog lf (a0, false))).bind fun r3 => cond (!r3) (some (1 : Int)) (((F174 Tryz.prog lf (a0, true))).bind fun r4 => cond (!r4) (some (0 : Int)) (some (2 : Int))) := by kernel_rfl
def S133 : FuncId → Sp := fun g => match g with
  | 133 => { loops := [(2, [(.slot 10, .dat .i)])] }
  | _ => {}
noncomputable def F133 (P : Program) (lf : Nat) (x : tt [(true, (.pair (.sl .bool) (.sl .bool))), (false, .i)]) : Option (tt [(false, .bool)]) := fnF P (C125 P lf) S133 133 [(true, (.pair (.sl .bool) (.sl .bool))), (false, .i)] [(false, .bool)] lf x
noncomputable def C133 (P : Program) (lf : Nat) : FuncId → Option Con := extC (C125 P lf) 133 (dataCon [(true, (.pair (.sl .bool) (.sl .bool))), (false, .i)] [(false, .bool)] (F133 P lf))
theorem F133_eq (lf : Nat) (a0 : (List Bool)) (a1 : (List Bool)) (a2 : Int) : F133 Tryz.prog lf ((a0, a1), a2) =
  iter lf (fun y5 : Int => cond (decide (y5 < (a1.length : Int))) (((getI a1 y5)).bind fun r6 => cond (decide (r6 = (decide (y5 = a2)))) (some (.inr false)) (some (.inl (w64 (y5 + (1 : Int)))))) (some (.inr true))) (0 : Int) := by kernel_rfl
end Go.K
namespace Go.K
open Go.Sl Go.Sx Go.Proofs
noncomputable def G110 (lf : Nat) (x : (Yf × ByteArray)) : Option (Int) :=
  iter lf (fun y4 : Int => cond (decide (y4 < (x.1.length : Int))) (((getI x.1 y4)).bind fun r5 => cond (r5.1.data.toList == x.2.data.toList) (some (.inr y4)) (some (.inl (w64 (y4 + (1 : Int)))))) (some (.inr (-1 : Int)))) (0 : Int)
theorem F110_G (lf : Nat) (x : (Yf × ByteArray)) : F110 Tryz.prog lf x = G110 lf x := (F110_eq lf x.1 x.2).trans (by
  unfold G110
  (try simp only [agree_self, Lib.toList_data]); first | done | rfl)
noncomputable def G190 (lf : Nat) (x : ((Yf × (List Int)) × ByteArray)) : Option (Int) :=
  ((G110 lf (x.1.1, x.2))).bind fun r5 => ((getI x.1.2 r5)).bind fun r6 => some r6
theorem F190_G (lf : Nat) (x : ((Yf × (List Int)) × ByteArray)) : F190 Tryz.prog lf x = G190 lf x := (F190_eq lf x.1.1 x.1.2 x.2).trans (by
  unfold G190
  (try simp only [F110_G, agree_self, Lib.toList_data]); first | done | rfl)
noncomputable def G188 (lf : Nat) (x : ((Yf × (List Int)) × ((Int × (Int × (Int × (ByteArray × Int)))) × (List Bool)))) : Option (Bool) :=
  some true
theorem F188_G (lf : Nat) (x : ((Yf × (List Int)) × ((Int × (Int × (Int × (ByteArray × Int)))) × (List Bool)))) : F188 Tryz.prog lf x = G188 lf x := (F188_eq lf x.1.1 x.1.2 x.2.1.1 x.2.1.2.1 x.2.1.2.2.1 x.2.1.2.2.2.1 x.2.1.2.2.2.2 x.2.2).trans (by
  unfold G188
  (try simp only [agree_self, Lib.toList_data]); first | done | rfl)
noncomputable def G189 (lf : Nat) (x : ((Yf × (List Int)) × ((Int × (Int × (Int × (ByteArray × Int)))) × (List Bool)))) : Option (Bool) :=
  ((G190 lf ((x.1.1, x.1.2), x.2.1.2.2.2.1))).bind fun r9 => some (decide (r9 < x.2.1.2.2.2.2))
theorem F189_G (lf : Nat) (x : ((Yf × (List Int)) × ((Int × (Int × (Int × (ByteArray × Int)))) × (List Bool)))) : F189 Tryz.prog lf x = G189 lf x := (F189_eq lf x.1.1 x.1.2 x.2.1.1 x.2.1.2.1 x.2.1.2.2.1 x.2.1.2.2.2.1 x.2.1.2.2.2.2 x.2.2).trans (by
  unfold G189
  (try simp only [F190_G, agree_self, Lib.toList_data]); first | done | rfl)
noncomputable def G191 (lf : Nat) (x : ((Yf × (List Int)) × ((Int × (Int × (Int × (ByteArray × Int)))) × (List Bool)))) : Option (Bool) :=
  ((G190 lf ((x.1.1, x.1.2), x.2.1.2.2.2.1))).bind fun r9 => some (decide (r9 ≤ x.2.1.2.2.2.2))
theorem F191_G (lf : Nat) (x : ((Yf × (List Int)) × ((Int × (Int × (Int × (ByteArray × Int)))) × (List Bool)))) : F191 Tryz.prog lf x = G191 lf x := (F191_eq lf x.1.1 x.1.2 x.2.1.1 x.2.1.2.1 x.2.1.2.2.1 x.2.1.2.2.2.1 x.2.1.2.2.2.2 x.2.2).trans (by
  unfold G191
  (try simp only [F190_G, agree_self, Lib.toList_data]); first | done | rfl)
noncomputable def G192 (lf : Nat) (x : ((Yf × (List Int)) × ((Int × (Int × (Int × (ByteArray × Int)))) × (List Bool)))) : Option (Bool) :=
  ((G190 lf ((x.1.1, x.1.2), x.2.1.2.2.2.1))).bind fun r9 => some (decide (r9 = x.2.1.2.2.2.2))
theorem F192_G (lf : Nat) (x : ((Yf × (List Int)) × ((Int × (Int × (Int × (ByteArray × Int)))) × (List Bool)))) : F192 Tryz.prog lf x = G192 lf x := (F192_eq lf x.1.1 x.1.2 x.2.1.1 x.2.1.2.1 x.2.1.2.2.1 x.2.1.2.2.2.1 x.2.1.2.2.2.2 x.2.2).trans (by
  unfold G192
  (try simp only [F190_G, agree_self, Lib.toList_data]); first | done | rfl)
noncomputable def G193 (lf : Nat) (x : ((Yf × (List Int)) × ((Int × (Int × (Int × (ByteArray × Int)))) × (List Bool)))) : Option (Bool) :=
  ((getI x.2.2 x.2.1.2.1)).bind fun r9 => some (!r9)
theorem F193_G (lf : Nat) (x : ((Yf × (List Int)) × ((Int × (Int × (Int × (ByteArray × Int)))) × (List Bool)))) : F193 Tryz.prog lf x = G193 lf x := (F193_eq lf x.1.1 x.1.2 x.2.1.1 x.2.1.2.1 x.2.1.2.2.1 x.2.1.2.2.2.1 x.2.1.2.2.2.2 x.2.2).trans (by
  unfold G193
  (try simp only [agree_self, Lib.toList_data]); first | done | rfl)
noncomputable def G194 (lf : Nat) (x : ((Yf × (List Int)) × ((Int × (Int × (Int × (ByteArray × Int)))) × (List Bool)))) : Option (Bool) :=
  ((getI x.2.2 x.2.1.2.1)).bind fun r10 => cond r10 (((getI x.2.2 x.2.1.2.2.1)).bind fun r11 => some r11) (some false)
theorem F194_G (lf : Nat) (x : ((Yf × (List Int)) × ((Int × (Int × (Int × (ByteArray × Int)))) × (List Bool)))) : F194 Tryz.prog lf x = G194 lf x := (F194_eq lf x.1.1 x.1.2 x.2.1.1 x.2.1.2.1 x.2.1.2.2.1 x.2.1.2.2.2.1 x.2.1.2.2.2.2 x.2.2).trans (by
  unfold G194
  (try simp only [agree_self, Lib.toList_data]); first | done | rfl)
noncomputable def G195 (lf : Nat) (x : ((Yf × (List Int)) × ((Int × (Int × (Int × (ByteArray × Int)))) × (List Bool)))) : Option (Bool) :=
  ((getI x.2.2 x.2.1.2.1)).bind fun r10 => cond r10 (some true) (((getI x.2.2 x.2.1.2.2.1)).bind fun r11 => some r11)
theorem F195_G (lf : Nat) (x : ((Yf × (List Int)) × ((Int × (Int × (Int × (ByteArray × Int)))) × (List Bool)))) : F195 Tryz.prog lf x = G195 lf x := (F195_eq lf x.1.1 x.1.2 x.2.1.1 x.2.1.2.1 x.2.1.2.2.1 x.2.1.2.2.2.1 x.2.1.2.2.2.2 x.2.2).trans (by
  unfold G195
  (try simp only [agree_self, Lib.toList_data]); first | done | rfl)
noncomputable def G131 (lf : Nat) (x : Unit) : Option (Unit) :=
  some ()
theorem F131_G (lf : Nat) (x : Unit) : F131 Tryz.prog lf x = G131 lf x := (F131_eq lf ).trans (by
  unfold G131
  (try simp only [agree_self, Lib.toList_data]); first | done | rfl)
noncomputable def G147 (lf : Nat) (x : ((Yf × (List Int)) × (Yt × Unit))) : Option (Bool) :=
  iter lf (fun y23 : ((List Bool) × Int) => cond (decide (y23.2 < (x.2.1.length : Int))) (jn (((getI x.2.1 y23.2)).bind fun r24 => cond (decide (r24.1 = (0 : Int))) (((G188 lf ((x.1.1, x.1.2), ((r24.1, (r24.2.1, (r24.2.2.1, (r24.2.2.2.1, r24.2.2.2.2)))), y23.1)))).bind fun r25 => ((appC y23.1 [r25])).bind fun r26 => some (.inl r26)) (cond (decide (r24.1 = (1 : Int))) (((G189 lf ((x.1.1, x.1.2), ((r24.1, (r24.2.1, (r24.2.2.1, (r24.2.2.2.1, r24.2.2.2.2)))), y23.1)))).bind fun r27 => ((appC y23.1 [r27])).bind fun r28 => some (.inl r28)) (cond (decide (r24.1 = (2 : Int))) (((G191 lf ((x.1.1, x.1.2), ((r24.1, (r24.2.1, (r24.2.2.1, (r24.2.2.2.1, r24.2.2.2.2)))), y23.1)))).bind fun r29 => ((appC y23.1 [r29])).bind fun r30 => some (.inl r30)) (cond (decide (r24.1 = (3 : Int))) (((G192 lf ((x.1.1, x.1.2), ((r24.1, (r24.2.1, (r24.2.2.1, (r24.2.2.2.1, r24.2.2.2.2)))), y23.1)))).bind fun r31 => ((appC y23.1 [r31])).bind fun r32 => some (.inl r32)) (cond (decide (r24.1 = (4 : Int))) (((G193 lf ((x.1.1, x.1.2), ((r24.1, (r24.2.1, (r24.2.2.1, (r24.2.2.2.1, r24.2.2.2.2)))), y23.1)))).bind fun r33 => ((appC y23.1 [r33])).bind fun r34 => some (.inl r34)) (cond (decide (r24.1 = (5 : Int))) (((G194 lf ((x.1.1, x.1.2), ((r24.1, (r24.2.1, (r24.2.2.1, (r24.2.2.2.1, r24.2.2.2.2)))), y23.1)))).bind fun r35 => ((appC y23.1 [r35])).bind fun r36 => some (.inl r36)) (cond (decide (r24.1 = (6 : Int))) (((G195 lf ((x.1.1, x.1.2), ((r24.1, (r24.2.1, (r24.2.2.1, (r24.2.2.2.1, r24.2.2.2.2)))), y23.1)))).bind fun r37 => ((appC y23.1 [r37])).bind fun r38 => some (.inl r38)) ((outI))))))))) (fun y39 : (List Bool) => some (.inl (y39, (w64 (y23.2 + (1 : Int))))))) (outR (((getI y23.1 (w64 ((y23.1.length : Int) - (1 : Int))))).bind fun r40 => ((getI y23.1 (w64 ((y23.1.length : Int) - (1 : Int))))).bind fun r41 => some r41))) (([] : List Bool), (0 : Int))
theorem F147_G (lf : Nat) (x : ((Yf × (List Int)) × (Yt × Unit))) : F147 Tryz.prog lf x = G147 lf x := (F147_eq lf x.1.1 x.1.2 x.2.1).trans (by
  unfold G147
  (try simp only [F188_G, F189_G, F191_G, F192_G, F193_G, F194_G, F195_G, agree_self, Lib.toList_data]); first | done | rfl)
noncomputable def G36 (lf : Nat) (x : ((ByteArray × (Yf × Yr)) × ByteArray)) : Option (Int) :=
  iter lf (fun y6 : Int => cond (decide (y6 < (x.1.2.2.length : Int))) (((getI x.1.2.2 y6)).bind fun r7 => cond (r7.1.data.toList == x.2.data.toList) (some (.inr y6)) (some (.inl (w64 (y6 + (1 : Int)))))) (some (.inr (-1 : Int)))) (0 : Int)
theorem F36_G (lf : Nat) (x : ((ByteArray × (Yf × Yr)) × ByteArray)) : F36 Tryz.prog lf x = G36 lf x := (F36_eq lf x.1.1 x.1.2.1 x.1.2.2 x.2).trans (by
  unfold G36
  (try simp only [agree_self, Lib.toList_data]); first | done | rfl)
noncomputable def G130 (lf : Nat) (x : ((ByteArray × (Yf × Yr)) × (Int × ((List Int) × Unit)))) : Option (((List Bool) × (List Bool))) :=
  iter lf (fun y37 : (Int × ((List Bool) × (List Bool))) => cond (decide (y37.1 < (x.1.2.2.length : Int))) (((getI x.1.2.2 y37.1)).bind fun r38 => jn (((G91 lf (x.2.1, (r38.2.1, r38.2.2.1)))).bind fun r39 => cond r39 (((G147 lf ((x.1.2.1, x.2.2.1), (r38.2.2.2.1, ())))).bind fun r40 => some (.inl r40)) (some (.inl false))) (fun y41 : Bool => iter lf (fun y42 : (Bool × Int) => cond (decide (y42.2 < (r38.2.2.2.2.2.length : Int))) (((getI r38.2.2.2.2.2 y42.2)).bind fun r43 => cond y42.1 (((G36 lf ((x.1.1, (x.1.2.1, x.1.2.2)), r43))).bind fun r44 => ((getI y37.2.2 r44)).bind fun r45 => ((getI y37.2.2 r44)).bind fun r46 => some (.inl ((!r46), (w64 (y42.2 + (1 : Int)))))) (some (.inl (false, (w64 (y42.2 + (1 : Int))))))) (outR (((appC y37.2.2 [y42.1])).bind fun r47 => cond (!y42.1) (((appC y37.2.1 [true])).bind fun r48 => some (.inl ((w64 (y37.1 + (1 : Int))), (r48, r47)))) (((G147 lf ((x.1.2.1, x.2.2.1), (r38.2.2.2.2.1, ())))).bind fun r49 => ((appC y37.2.1 [r49])).bind fun r50 => some (.inl ((w64 (y37.1 + (1 : Int))), (r50, r47))))))) (y41, (0 : Int)))) (some (.inr (y37.2.2, y37.2.1)))) ((0 : Int), (([] : List Bool), ([] : List Bool)))
theorem F130_G (lf : Nat) (x : ((ByteArray × (Yf × Yr)) × (Int × ((List Int) × Unit)))) : F130 Tryz.prog lf x = G130 lf x := (F130_eq lf x.1.1 x.1.2.1 x.1.2.2 x.2.1 x.2.2.1).trans (by
  unfold G130
  (try simp only [F36_G, F91_G, F147_G, agree_self, Lib.toList_data]); first | done | rfl)
noncomputable def G116 (lf : Nat) (x : (ByteArray × (Yf × Yr))) : Option ((List Yt)) :=
  iter lf (fun y7 : ((List Yt) × Int) => cond (decide (y7.2 < (x.2.2.length : Int))) (((getI x.2.2 y7.2)).bind fun r8 => ((appC y7.1 [r8.2.2.2.1, r8.2.2.2.2.1])).bind fun r9 => some (.inl (r9, (w64 (y7.2 + (1 : Int)))))) (some (.inr y7.1))) (([] : List Yt), (0 : Int))
theorem F116_G (lf : Nat) (x : (ByteArray × (Yf × Yr))) : F116 Tryz.prog lf x = G116 lf x := (F116_eq lf x.1 x.2.1 x.2.2).trans (by
  unfold G116
  (try simp only [agree_self, Lib.toList_data]); first | done | rfl)
noncomputable def G181 (lf : Nat) (x : (Int × (Int × (Int × (ByteArray × Int))))) : Option ((List Int)) :=
  cond (decide (x.1 = (1 : Int))) (some [x.2.2.2.2]) (cond (decide (x.1 = (2 : Int))) (some [(w64 (x.2.2.2.2 + (1 : Int)))]) (cond (decide (x.1 = (3 : Int))) (some [x.2.2.2.2, (w64 (x.2.2.2.2 + (1 : Int)))]) (some ([] : List Int))))
theorem F181_G (lf : Nat) (x : (Int × (Int × (Int × (ByteArray × Int))))) : F181 Tryz.prog lf x = G181 lf x := (F181_eq lf x.1 x.2.1 x.2.2.1 x.2.2.2.1 x.2.2.2.2).trans (by
  unfold G181
  (try simp only [agree_self, Lib.toList_data]); first | done | rfl)
noncomputable def G115 (lf : Nat) (x : (Yf × (List Yt))) : Option ((List (List Int))) :=
  iter lf (fun y20 : ((List (List Int)) × Int) => cond (decide (y20.2 < (x.1.length : Int))) (((getI x.1 y20.2)).bind fun r21 => iter lf (fun y22 : ((List Int) × Int) => cond (decide (y22.2 < (x.2.length : Int))) (((getI x.2 y22.2)).bind fun r23 => iter lf (fun y24 : ((List Int) × Int) => cond (decide (y24.2 < (r23.length : Int))) (((getI r23 y24.2)).bind fun r25 => cond (!(r25.2.2.2.1.data.toList == r21.1.data.toList)) (some (.inl (y24.1, (w64 (y24.2 + (1 : Int)))))) (((G181 lf (r25.1, (r25.2.1, (r25.2.2.1, (r25.2.2.2.1, r25.2.2.2.2)))))).bind fun r26 => iter lf (fun y27 : ((List Int) × Int) => cond (decide (y27.2 < (r26.length : Int))) (((getI r26 y27.2)).bind fun r28 => jn (cond (decide (r28 > r21.2.1)) (some (.inl (decide (r28 ≤ r21.2.2)))) (some (.inl false))) (fun y29 : Bool => cond y29 (((appC y27.1 [r28])).bind fun r30 => some (.inl (r30, (w64 (y27.2 + (1 : Int)))))) (some (.inl (y27.1, (w64 (y27.2 + (1 : Int)))))))) (some (.inr (.inl (y27.1, (w64 (y24.2 + (1 : Int)))))))) (y24.1, (0 : Int)))) (some (.inr (.inl (y24.1, (w64 (y22.2 + (1 : Int)))))))) (y22.1, (0 : Int))) (outR (((ltC y22.1)).bind fun r31 => ((ltC (sortL y22.1))).bind fun r32 => ((appC y20.1 [(compL (sortL y22.1))])).bind fun r33 => some (.inl (r33, (w64 (y20.2 + (1 : Int)))))))) ([r21.2.1], (0 : Int))) (some (.inr y20.1))) (([] : List (List Int)), (0 : Int))
theorem F115_G (lf : Nat) (x : (Yf × (List Yt))) : F115 Tryz.prog lf x = G115 lf x := (F115_eq lf x.1 x.2).trans (by
  unfold G115
  (try simp only [F181_G, agree_self, Lib.toList_data]); first | done | rfl)
noncomputable def G106 (lf : Nat) (x : ((List Bool) × Bool)) : Option (Int) :=
  iter lf (fun y4 : Int => cond (decide (y4 < (x.1.length : Int))) (((getI x.1 y4)).bind fun r5 => cond (decide (x.2 = r5)) (some (.inr y4)) (some (.inl (w64 (y4 + (1 : Int)))))) (some (.inr (-1 : Int)))) (0 : Int)
theorem F106_G (lf : Nat) (x : ((List Bool) × Bool)) : F106 Tryz.prog lf x = G106 lf x := (F106_eq lf x.1 x.2).trans (by
  unfold G106
  (try simp only [agree_self, Lib.toList_data]); first | done | rfl)
noncomputable def G174 (lf : Nat) (x : ((List Bool) × Bool)) : Option (Bool) :=
  ((G106 lf (x.1, x.2))).bind fun r3 => some (decide (r3 ≥ (0 : Int)))
theorem F174_G (lf : Nat) (x : ((List Bool) × Bool)) : F174 Tryz.prog lf x = G174 lf x := (F174_eq lf x.1 x.2).trans (by
  unfold G174
  (try simp only [F106_G, agree_self, Lib.toList_data]); first | done | rfl)
noncomputable def G125 (lf : Nat) (x : (List Bool)) : Option (Int) :=
  ((G174 lf (x, false))).bind fun r3 => cond (!r3) (some (1 : Int)) (((G174 lf (x, true))).bind fun r4 => cond (!r4) (some (0 : Int)) (some (2 : Int)))
theorem F125_G (lf : Nat) (x : (List Bool)) : F125 Tryz.prog lf x = G125 lf x := (F125_eq lf x).trans (by
  unfold G125
  (try simp only [F174_G, agree_self, Lib.toList_data]); first | done | rfl)
noncomputable def G133 (lf : Nat) (x : (((List Bool) × (List Bool)) × Int)) : Option (Bool) :=
  iter lf (fun y5 : Int => cond (decide (y5 < (x.1.2.length : Int))) (((getI x.1.2 y5)).bind fun r6 => cond (decide (r6 = (decide (y5 = x.2)))) (some (.inr false)) (some (.inl (w64 (y5 + (1 : Int)))))) (some (.inr true))) (0 : Int)
theorem F133_G (lf : Nat) (x : (((List Bool) × (List Bool)) × Int)) : F133 Tryz.prog lf x = G133 lf x := (F133_eq lf x.1.1 x.1.2 x.2).trans (by
  unfold G133
  (try simp only [agree_self, Lib.toList_data]); first | done | rfl)
end Go.K
namespace Go.K
open Go.Sl Go.Sx Go.Proofs
def S104 : FuncId → Sp := fun g => match g with
  | 209 => { joins := [(12, [(.slot 7, .dat .i), (.slot 3, .own .i 3)])], loops := [(9, [(.slot 7, .dat .i), (.slot 3, .own .i 3)]), (3, [(.slot 4, .own .i 3), (.slot 13, .dat .i)]), (1, [(.slot 3, .own .i 3), (.cell 0 0 [3, 1], .own .bool 4)])] }
  | 175 => { fz := [(4, [(.slot 6, .dat (.sl .i))])] }
  | _ => {}
noncomputable def F104 (P : Program) (lf : Nat) (x : tt [(true, (.pair .str (.pair (.sl (.pair .str (.pair .i .i))) (.sl Yq)))), (false, .i), (false, (.sl (.pair .str (.pair .i .i))))]) : Option (tt [(false, .i)]) := fnF P (C133 P lf) S104 104 [(true, (.pair .str (.pair (.sl (.pair .str (.pair .i .i))) (.sl Yq)))), (false, .i), (false, (.sl (.pair .str (.pair .i .i))))] [(false, .i)] lf x
noncomputable def C104 (P : Program) (lf : Nat) : FuncId → Option Con := extC (C133 P lf) 104 (dataCon [(true, (.pair .str (.pair (.sl (.pair .str (.pair .i .i))) (.sl Yq)))), (false, .i), (false, (.sl (.pair .str (.pair .i .i))))] [(false, .i)] (F104 P lf))
theorem F104_eq (lf : Nat) (a0 : ByteArray) (a1 : Yf) (a2 : Yr) (a3 : Int) (a4 : Yf) : F104 Tryz.prog lf ((a0, (a1, a2)), (a3, a4)) =
  ((F131 Tryz.prog lf ())).bind fun r71 => ((F116 Tryz.prog lf (a0, (a1, a2)))).bind fun r72 => ((F115 Tryz.prog lf (a4, r72))).bind fun r73 => ((mkC (r73.length : Int) (0 : Int))).bind fun r74 => iter lf (fun y75 : ((List Int) × (List Bool)) => iter lf (fun y76 : ((List Int) × Int) => cond (decide (y76.2 < (y75.1.length : Int))) (((getI y75.1 y76.2)).bind fun r77 => ((getI y75.1 y76.2)).bind fun r78 => ((getI r73 y76.2)).bind fun r79 => ((getI r79 r78)).bind fun r80 => ((appC y76.1 [r80])).bind fun r81 => some (.inl (r81, (w64 (y76.2 + (1 : Int)))))) (outR (((F130 Tryz.prog lf ((a0, (a1, a2)), (a3, (y76.1, ()))))).bind fun r82 => ((F174 Tryz.prog lf (r82.2, false))).bind fun r83 => ((appC y75.2 [(!r83)])).bind fun r84 => jn (iter lf (fun y85 : (Int × (List Int)) => cond (decide (y85.1 ≥ (0 : Int))) (((getI y85.2 y85.1)).bind fun r86 => ((getI y85.2 y85.1)).bind fun r87 => ((getI r73 y85.1)).bind fun r88 => cond (decide (r87 = (w64 ((r88.length : Int) - (1 : Int))))) (((getI y85.2 y85.1)).bind fun r89 => ((getI y85.2 y85.1)).bind fun r90 => ((setI y85.2 y85.1 (0 : Int))).bind fun r91 => some (.inl ((w64 (y85.1 - (1 : Int))), r91))) (some (.inr (.inl (y85.1, y85.2))))) (some (.inr (.inl (y85.1, y85.2))))) ((w64 ((r73.length : Int) - (1 : Int))), y75.1)) (fun y92 : (Int × (List Int)) => cond (decide (y92.1 < (0 : Int))) (outR (((F125 Tryz.prog lf r84)).bind fun r93 => some r93)) (((getI y92.2 y92.1)).bind fun r94 => ((getI y92.2 y92.1)).bind fun r95 => ((getI y92.2 y92.1)).bind fun r96 => ((getI y92.2 y92.1)).bind fun r97 => ((setI y92.2 y92.1 (w64 (r95 + (1 : Int))))).bind fun r98 => some (.inl (r98, r84))))))) (([] : List Int), (0 : Int))) (r74, ([] : List Bool)) := by kernel_rfl
end Go.K
namespace Go.K
open Go.Sl Go.Sx Go.Proofs
noncomputable def G104 (lf : Nat) (x : ((ByteArray × (Yf × Yr)) × (Int × Yf))) : Option (Int) :=
  ((G131 lf ())).bind fun r71 => ((G116 lf (x.1.1, (x.1.2.1, x.1.2.2)))).bind fun r72 => ((G115 lf (x.2.2, r72))).bind fun r73 => ((mkC (r73.length : Int) (0 : Int))).bind fun r74 => iter lf (fun y75 : ((List Int) × (List Bool)) => iter lf (fun y76 : ((List Int) × Int) => cond (decide (y76.2 < (y75.1.length : Int))) (((getI y75.1 y76.2)).bind fun r77 => ((getI y75.1 y76.2)).bind fun r78 => ((getI r73 y76.2)).bind fun r79 => ((getI r79 r78)).bind fun r80 => ((appC y76.1 [r80])).bind fun r81 => some (.inl (r81, (w64 (y76.2 + (1 : Int)))))) (outR (((G130 lf ((x.1.1, (x.1.2.1, x.1.2.2)), (x.2.1, (y76.1, ()))))).bind fun r82 => ((G174 lf (r82.2, false))).bind fun r83 => ((appC y75.2 [(!r83)])).bind fun r84 => jn (iter lf (fun y85 : (Int × (List Int)) => cond (decide (y85.1 ≥ (0 : Int))) (((getI y85.2 y85.1)).bind fun r86 => ((getI y85.2 y85.1)).bind fun r87 => ((getI r73 y85.1)).bind fun r88 => cond (decide (r87 = (w64 ((r88.length : Int) - (1 : Int))))) (((getI y85.2 y85.1)).bind fun r89 => ((getI y85.2 y85.1)).bind fun r90 => ((setI y85.2 y85.1 (0 : Int))).bind fun r91 => some (.inl ((w64 (y85.1 - (1 : Int))), r91))) (some (.inr (.inl (y85.1, y85.2))))) (some (.inr (.inl (y85.1, y85.2))))) ((w64 ((r73.length : Int) - (1 : Int))), y75.1)) (fun y92 : (Int × (List Int)) => cond (decide (y92.1 < (0 : Int))) (outR (((G125 lf r84)).bind fun r93 => some r93)) (((getI y92.2 y92.1)).bind fun r94 => ((getI y92.2 y92.1)).bind fun r95 => ((getI y92.2 y92.1)).bind fun r96 => ((getI y92.2 y92.1)).bind fun r97 => ((setI y92.2 y92.1 (w64 (r95 + (1 : Int))))).bind fun r98 => some (.inl (r98, r84))))))) (([] : List Int), (0 : Int))) (r74, ([] : List Bool))
theorem F104_G (lf : Nat) (x : ((ByteArray × (Yf × Yr)) × (Int × Yf))) : F104 Tryz.prog lf x = G104 lf x := (F104_eq lf x.1.1 x.1.2.1 x.1.2.2 x.2.1 x.2.2).trans (by
  unfold G104
  (try simp only [F115_G, F116_G, F125_G, F130_G, F131_G, F174_G, agree_self, Lib.toList_data]); first | done | rfl)
end Go.K
namespace Go.K
open Go.Sl Go.Sx Go.Proofs
def S266 : FuncId → Sp := fun g => match g with
  | 266 => { loops := [(2, [(.slot 9, .dat .i)])] }
  | _ => {}
noncomputable def F266 (P : Program) (lf : Nat) (x : tt [(false, (.sl .str)), (false, .str)]) : Option (tt [(false, .bool)]) := fnF P (C104 P lf) S266 266 [(false, (.sl .str)), (false, .str)] [(false, .bool)] lf x
noncomputable def C266 (P : Program) (lf : Nat) : FuncId → Option Con := extC (C104 P lf) 266 (dataCon [(false, (.sl .str)), (false, .str)] [(false, .bool)] (F266 P lf))
theorem F266_eq (lf : Nat) (a0 : (List ByteArray)) (a1 : ByteArray) : F266 Tryz.prog lf (a0, a1) =
  iter lf (fun y4 : Int => cond (decide (y4 < (a0.length : Int))) (((getI a0 y4)).bind fun r5 => cond ((ByteArray.toList r5) == (ByteArray.toList a1)) (some (.inr true)) (some (.inl (w64 (y4 + (1 : Int)))))) (some (.inr false))) (0 : Int) := by kernel_rfl
def S199 : FuncId → Sp := fun _ => {}
noncomputable def F199 (P : Program) (lf : Nat) (x : tt [(false, .bool)]) : Option (tt [] ⊕ ((true, .i) : AT).2.den) := fnP P (C266 P lf) S199 199 [(false, .bool)] [] 122 (true, .i) lf x
noncomputable def C199 (P : Program) (lf : Nat) : FuncId → Option Con := extC (C266 P lf) 199 (panCon [(false, .bool)] [] 122 (true, .i) (F199 P lf))
theorem F199_eq (lf : Nat) (a0 : Bool) : F199 Tryz.prog lf a0 =
  cond (!a0) (some (.inr (0 : Int))) (some (.inl ())) := by kernel_rfl
abbrev CK198 : List CK := [.d (.sl .str)]
abbrev U198 : AT := (true, .i)
def S198 : FuncId → Sp := fun _ => {}
noncomputable def F198 (P : Program) (lf : Nat) (x : ckT CK198 × tt []) : Option ((ckT CK198 × tt [(false, .str)]) ⊕ U198.2.den) := fnR P (C199 P lf) S198 198 236 CK198 [] [(false, .str)] 122 U198 lf x
noncomputable def C198 (P : Program) (lf : Nat) : FuncId → Option Con := extC (C199 P lf) 198 (refCon 236 CK198 [] [(false, .str)] 122 U198 (F198 P lf))
theorem F198_eq (lf : Nat) (a0 : (List ByteArray)) : F198 Tryz.prog lf ((a0, ()), ()) =
  ((F199 Tryz.prog lf (decide ((a0.length : Int) > (0 : Int))))).bind fun r6 => sm r6 (fun r7 : PUnit => ((getI a0 (0 : Int))).bind fun r8 => ((subI a0 (1 : Int) (a0.length : Int))).bind fun r9 => some (.inl ((r9, ()), r8))) (fun r10 : Int => some (.inr r10)) := by kernel_rfl
abbrev CK200 : List CK := [.d (.sl .str)]
abbrev U200 : AT := (true, .i)
def S200 : FuncId → Sp := fun _ => {}
noncomputable def F200 (P : Program) (lf : Nat) (x : ckT CK200 × tt []) : Option ((ckT CK200 × tt [(false, .str)]) ⊕ U200.2.den) := fnR P (C198 P lf) S200 200 236 CK200 [] [(false, .str)] 122 U200 lf x
noncomputable def C200 (P : Program) (lf : Nat) : FuncId → Option Con := extC (C198 P lf) 200 (refCon 236 CK200 [] [(false, .str)] 122 U200 (F200 P lf))
theorem F200_eq (lf : Nat) (a0 : (List ByteArray)) : F200 Tryz.prog lf ((a0, ()), ()) =
  ((F198 Tryz.prog lf ((a0, ()), ()))).bind fun r8 => sm r8 (fun r9 : (((List ByteArray) × PUnit) × ByteArray) => ((F94 Tryz.prog lf r9.2)).bind fun r10 => ((F199 Tryz.prog lf r10)).bind fun r11 => sm r11 (fun r12 : PUnit => some (.inl ((r9.1.1, ()), r9.2))) (fun r13 : Int => some (.inr r13))) (fun r14 : Int => some (.inr r14)) := by kernel_rfl
abbrev CK239 : List CK := [.d (.sl .str)]
abbrev U239 : AT := (true, .i)
def S239 : FuncId → Sp := fun _ => {}
noncomputable def F239 (P : Program) (lf : Nat) (x : ckT CK239 × tt [(false, .bool)]) : Option ((ckT CK239 × tt [(false, .i)]) ⊕ U239.2.den) := fnR P (C200 P lf) S239 239 236 CK239 [(false, .bool)] [(false, .i)] 122 U239 lf x
noncomputable def C239 (P : Program) (lf : Nat) : FuncId → Option Con := extC (C200 P lf) 239 (refCon 236 CK239 [(false, .bool)] [(false, .i)] 122 U239 (F239 P lf))
theorem F239_eq (lf : Nat) (a0 : (List ByteArray)) (a1 : Bool) : F239 Tryz.prog lf ((a0, ()), a1) =
  ((F198 Tryz.prog lf ((a0, ()), ()))).bind fun r9 => sm r9 (fun r10 : (((List ByteArray) × PUnit) × ByteArray) => ((F244 Tryz.prog lf (r10.2, a1))).bind fun r11 => ((F199 Tryz.prog lf r11.2)).bind fun r12 => sm r12 (fun r13 : PUnit => some (.inl ((r10.1.1, ()), r11.1))) (fun r14 : Int => some (.inr r14))) (fun r15 : Int => some (.inr r15)) := by kernel_rfl
abbrev CK201 : List CK := [.d (.sl .str)]
abbrev U201 : AT := (true, .i)
def S201 : FuncId → Sp := fun _ => {}
noncomputable def F201 (P : Program) (lf : Nat) (x : ckT CK201 × tt []) : Option ((ckT CK201 × tt [(true, (.pair .str (.pair .i .i)))]) ⊕ U201.2.den) := fnR P (C239 P lf) S201 201 236 CK201 [] [(true, (.pair .str (.pair .i .i)))] 122 U201 lf x
noncomputable def C201 (P : Program) (lf : Nat) : FuncId → Option Con := extC (C239 P lf) 201 (refCon 236 CK201 [] [(true, (.pair .str (.pair .i .i)))] 122 U201 (F201 P lf))
theorem F201_eq (lf : Nat) (a0 : (List ByteArray)) : F201 Tryz.prog lf ((a0, ()), ()) =
  ((F200 Tryz.prog lf ((a0, ()), ()))).bind fun r10 => sm r10 (fun r11 : (((List ByteArray) × PUnit) × ByteArray) => ((F239 Tryz.prog lf ((r11.1.1, ()), true))).bind fun r12 => sm r12 (fun r13 : (((List ByteArray) × PUnit) × Int) => ((F239 Tryz.prog lf ((r13.1.1, ()), true))).bind fun r14 => sm r14 (fun r15 : (((List ByteArray) × PUnit) × Int) => some (.inl ((r15.1.1, ()), (r11.2, (r13.2, r15.2))))) (fun r16 : Int => some (.inr r16))) (fun r17 : Int => some (.inr r17))) (fun r18 : Int => some (.inr r18)) := by kernel_rfl
abbrev CK240 : List CK := [.d (.sl .str)]
abbrev U240 : AT := (true, .i)
def S240 : FuncId → Sp := fun g => match g with
  | 240 => { joins := [(4, [(.slot 5, .dat .i)])], loops := [(2, [(.slot 5, .dat .i)])] }
  | _ => {}
noncomputable def F240 (P : Program) (lf : Nat) (x : ckT CK240 × tt [(false, (.sl .str))]) : Option ((ckT CK240 × tt [(true, (.sl Yp))]) ⊕ U240.2.den) := fnR P (C201 P lf) S240 240 236 CK240 [(false, (.sl .str))] [(true, (.sl Yp))] 122 U240 lf x
noncomputable def C240 (P : Program) (lf : Nat) : FuncId → Option Con := extC (C201 P lf) 240 (refCon 236 CK240 [(false, (.sl .str))] [(true, (.sl Yp))] 122 U240 (F240 P lf))
theorem F240_eq (lf : Nat) (a0 : (List ByteArray)) (a1 : (List ByteArray)) : F240 Tryz.prog lf ((a0, ()), a1) =
  jn (iter lf (fun y13 : Int => cond (decide (y13 < (a0.length : Int))) (((getI a0 y13)).bind fun r14 => ((F266 Tryz.prog lf (a1, r14))).bind fun r15 => cond (!r15) (some (.inl (w64 (y13 + (1 : Int))))) (some (.inr (.inl y13)))) (some (.inr (.inl y13)))) (0 : Int)) (fun y16 : Int => ((subI a0 (0 : Int) y16)).bind fun r17 => ((joinC (bts [32]) r17)).bind fun r18 => ((F17 Tryz.prog lf r18)).bind fun r19 => ((F199 Tryz.prog lf (decide (r19.2.2 = (0 : Int))))).bind fun r20 => sm r20 (fun r21 : PUnit => ((subI a0 y16 (a0.length : Int))).bind fun r22 => some (.inl ((r22, ()), r19.1))) (fun r23 : Int => some (.inr r23))) := by kernel_rfl
abbrev CK202 : List CK := [.d (.sl .str)]
abbrev U202 : AT := (true, .i)
def S202 : FuncId → Sp := fun g => match g with
  | 202 => { joins := [(12, [(.cell 3 5, .own .str 9), (.cell 0 0, .dat (.sl .str))])], loops := [(12, [(.cell 3 5, .own .str 9), (.cell 0 0, .dat (.sl .str))])], wr := [13, 11] }
  | _ => {}
noncomputable def F202 (P : Program) (lf : Nat) (x : ckT CK202 × tt []) : Option ((ckT CK202 × tt [(true, Yq)]) ⊕ U202.2.den) := fnR P (C240 P lf) S202 202 236 CK202 [] [(true, Yq)] 122 U202 lf x
noncomputable def C202 (P : Program) (lf : Nat) : FuncId → Option Con := extC (C240 P lf) 202 (refCon 236 CK202 [] [(true, Yq)] 122 U202 (F202 P lf))
theorem F202_eq (lf : Nat) (a0 : (List ByteArray)) : F202 Tryz.prog lf ((a0, ()), ()) =
  ((F200 Tryz.prog lf ((a0, ()), ()))).bind fun r68 => sm r68 (fun r69 : (((List ByteArray) × PUnit) × ByteArray) => ((F239 Tryz.prog lf ((r69.1.1, ()), false))).bind fun r70 => sm r70 (fun r71 : (((List ByteArray) × PUnit) × Int) => ((F239 Tryz.prog lf ((r71.1.1, ()), false))).bind fun r72 => sm r72 (fun r73 : (((List ByteArray) × PUnit) × Int) => ((F198 Tryz.prog lf ((r73.1.1, ()), ()))).bind fun r74 => sm r74 (fun r75 : (((List ByteArray) × PUnit) × ByteArray) => ((F199 Tryz.prog lf ((ByteArray.toList r75.2) == [(UInt8.ofNat 119), (UInt8.ofNat 104), (UInt8.ofNat 101), (UInt8.ofNat 110)]))).bind fun r76 => sm r76 (fun r77 : PUnit => ((F240 Tryz.prog lf ((r75.1.1, ()), [(bts [109, 117, 115, 116])]))).bind fun r78 => sm r78 (fun r79 : (((List ByteArray) × PUnit) × Yt) => ((F198 Tryz.prog lf ((r79.1.1, ()), ()))).bind fun r80 => sm r80 (fun r81 : (((List ByteArray) × PUnit) × ByteArray) => ((F199 Tryz.prog lf ((ByteArray.toList r81.2) == [(UInt8.ofNat 109), (UInt8.ofNat 117), (UInt8.ofNat 115), (UInt8.ofNat 116)]))).bind fun r82 => sm r82 (fun r83 : PUnit => ((F240 Tryz.prog lf ((r81.1.1, ()), [(bts [117, 110, 108, 101, 115, 115])]))).bind fun r84 => sm r84 (fun r85 : (((List ByteArray) × PUnit) × Yt) => cond (decide ((r85.1.1.length : Int) > (0 : Int))) (((F198 Tryz.prog lf ((r85.1.1, ()), ()))).bind fun r86 => sm r86 (fun r87 : (((List ByteArray) × PUnit) × ByteArray) => jn (agree (((F200 Tryz.prog lf ((r87.1.1, ()), ()))).bind fun r88 => sm r88 (fun r89 : (((List ByteArray) × PUnit) × ByteArray) => ((appC ([] : List ByteArray) [r89.2])).bind fun r90 => some (.inl (r90, r89.1.1))) (fun r91 : Int => some (.inr (.inr r91)))) (((F200 Tryz.prog lf ((r87.1.1, ()), ()))).bind fun r92 => sm r92 (fun r93 : (((List ByteArray) × PUnit) × ByteArray) => agree (((appC ([] : List ByteArray) [r93.2])).bind fun r94 => some (.inl (r94, r93.1.1))) (((appC ([] : List ByteArray) [r93.2])).bind fun r95 => some (.inl (r95, r93.1.1)))) (fun r96 : Int => some (.inr (.inr r96))))) (fun y97 : ((List ByteArray) × (List ByteArray)) => iter lf (fun y98 : ((List ByteArray) × (List ByteArray)) => cond (decide ((y98.2.length : Int) > (0 : Int))) (agree (((F200 Tryz.prog lf ((y98.2, ()), ()))).bind fun r99 => sm r99 (fun r100 : (((List ByteArray) × PUnit) × ByteArray) => ((appC y98.1 [r100.2])).bind fun r101 => some (.inl (r101, r100.1.1))) (fun r102 : Int => some (.inr (.inr r102)))) (((F200 Tryz.prog lf ((y98.2, ()), ()))).bind fun r103 => sm r103 (fun r104 : (((List ByteArray) × PUnit) × ByteArray) => agree (((appC y98.1 [r104.2])).bind fun r105 => some (.inl (r105, r104.1.1))) (((appC y98.1 [r104.2])).bind fun r106 => some (.inl (r106, r104.1.1)))) (fun r107 : Int => some (.inr (.inr r107))))) (some (.inr (.inl ((y98.2, ()), (r69.2, (r71.2, (r73.2, (r79.2, (r85.2, y98.1)))))))))) (y97.1, y97.2))) (fun r108 : Int => some (.inr r108))) (some (.inl ((r85.1.1, ()), (r69.2, (r71.2, (r73.2, (r79.2, (r85.2, ([] : List ByteArray)))))))))) (fun r109 : Int => some (.inr r109))) (fun r110 : Int => some (.inr r110))) (fun r111 : Int => some (.inr r111))) (fun r112 : Int => some (.inr r112))) (fun r113 : Int => some (.inr r113))) (fun r114 : Int => some (.inr r114))) (fun r115 : Int => some (.inr r115))) (fun r116 : Int => some (.inr r116))) (fun r117 : Int => some (.inr r117)) := by kernel_rfl
def S93 : FuncId → Sp := fun _ => {}
noncomputable def F93 (P : Program) (lf : Nat) (x : tt [(false, .i)]) : Option (tt [(false, .bool)]) := fnF P (C202 P lf) S93 93 [(false, .i)] [(false, .bool)] lf x
noncomputable def C93 (P : Program) (lf : Nat) : FuncId → Option Con := extC (C202 P lf) 93 (dataCon [(false, .i)] [(false, .bool)] (F93 P lf))
theorem F93_eq (lf : Nat) (a0 : Int) : F93 Tryz.prog lf a0 =
  ((F91 Tryz.prog lf (a0, ((1 : Int), (3 : Int))))).bind fun r2 => some r2 := by kernel_rfl
def S92 : FuncId → Sp := fun g => match g with
  | 92 => { joins := [(17, [(.cell 5 0, .dat .i), (.cell 5 4, .dat .i), (.cell 5 3, .dat .str), (.cell 5 1, .dat .i), (.cell 5 2, .dat .i)]), (16, [(.slot 57, .dat .bool)]), (14, [(.slot 33, .dat .bool)])] }
  | _ => {}
noncomputable def F92 (P : Program) (lf : Nat) (x : tt [(true, Yp), (false, .i)]) : Option (tt [(false, .bool)]) := fnF P (C93 P lf) S92 92 [(true, Yp), (false, .i)] [(false, .bool)] lf x
noncomputable def C92 (P : Program) (lf : Nat) : FuncId → Option Con := extC (C93 P lf) 92 (dataCon [(true, Yp), (false, .i)] [(false, .bool)] (F92 P lf))
theorem F92_eq (lf : Nat) (a0 : Int) (a1 : Int) (a2 : Int) (a3 : ByteArray) (a4 : Int) (a5 : Int) : F92 Tryz.prog lf ((a0, (a1, (a2, (a3, a4)))), a5) =
  jn (cond (decide (a0 = (0 : Int))) (some (.inl ((0 : Int), (a4, (a3, (a1, a2)))))) (((F93 Tryz.prog lf a0)).bind fun r18 => cond r18 (((F91 Tryz.prog lf (a4, ((-1000000000000 : Int), (1000000000000 : Int))))).bind fun r19 => cond (!r19) (some (.inr false)) (some (.inl (a0, ((0 : Int), ((bts []), (a1, a2))))))) (cond (decide (a0 = (4 : Int))) (((F91 Tryz.prog lf (a1, ((0 : Int), (w64 (a5 - (1 : Int))))))).bind fun r20 => cond (!r20) (some (.inr false)) (some (.inl (a0, (a4, (a3, ((0 : Int), a2))))))) (jn (cond (decide (a0 = (5 : Int))) (some (.inl true)) (some (.inl (decide (a0 = (6 : Int)))))) (fun y21 : Bool => cond y21 (jn (((F91 Tryz.prog lf (a1, ((0 : Int), (w64 (a5 - (1 : Int))))))).bind fun r22 => cond (!r22) (some (.inl true)) (((F91 Tryz.prog lf (a2, ((0 : Int), (w64 (a5 - (1 : Int))))))).bind fun r23 => some (.inl (!r23)))) (fun y24 : Bool => cond y24 (some (.inr false)) (some (.inl (a0, (a4, (a3, ((0 : Int), (0 : Int))))))))) (some (.inr false))))))) (fun y25 : (Int × (Int × (ByteArray × (Int × Int)))) => some ((decide (y25.1 = a0)) && ((decide (y25.2.2.2.1 = (0 : Int))) && ((decide (y25.2.2.2.2 = (0 : Int))) && (((ByteArray.toList y25.2.2.1) == ([] : List UInt8)) && ((decide (y25.2.1 = (0 : Int))) && true)))))) := by kernel_rfl
def S29 : FuncId → Sp := fun g => match g with
  | 29 => { joins := [(9, [(.slot 32, .dat .bool)])], loops := [(4, [(.slot 14, .dat .i)])] }
  | _ => {}
noncomputable def F29 (P : Program) (lf : Nat) (x : tt [(false, (.sl (.pair .str (.pair .i .i)))), (true, (.sl Yp))]) : Option (tt [(false, .i)]) := fnF P (C92 P lf) S29 29 [(false, (.sl (.pair .str (.pair .i .i)))), (true, (.sl Yp))] [(false, .i)] lf x
noncomputable def C29 (P : Program) (lf : Nat) : FuncId → Option Con := extC (C92 P lf) 29 (dataCon [(false, (.sl (.pair .str (.pair .i .i)))), (true, (.sl Yp))] [(false, .i)] (F29 P lf))
theorem F29_eq (lf : Nat) (a0 : Yf) (a1 : Yt) : F29 Tryz.prog lf (a0, a1) =
  cond (decide ((a1.length : Int) > (30 : Int))) (some (2 : Int)) (iter lf (fun y8 : Int => cond (decide (y8 < (a1.length : Int))) (((getI a1 y8)).bind fun r9 => ((F92 Tryz.prog lf ((r9.1, (r9.2.1, (r9.2.2.1, (r9.2.2.2.1, r9.2.2.2.2)))), y8))).bind fun r10 => cond (!r10) (some (.inr (41 : Int))) (jn (((F93 Tryz.prog lf r9.1)).bind fun r11 => cond r11 (((F110 Tryz.prog lf (a0, r9.2.2.2.1))).bind fun r12 => some (.inl (decide (r12 < (0 : Int))))) (some (.inl false))) (fun y13 : Bool => cond y13 (some (.inr (40 : Int))) (some (.inl (w64 (y8 + (1 : Int)))))))) (outR (cond (decide ((a1.length : Int) = (0 : Int))) (some (41 : Int)) (some (0 : Int))))) (0 : Int)) := by kernel_rfl
def S112 : FuncId → Sp := fun _ => {}
noncomputable def F112 (P : Program) (lf : Nat) (x : tt [(true, (.pair .str (.pair .i .i)))]) : Option (tt [(false, .bool)]) := fnF P (C29 P lf) S112 112 [(true, (.pair .str (.pair .i .i)))] [(false, .bool)] lf x
noncomputable def C112 (P : Program) (lf : Nat) : FuncId → Option Con := extC (C29 P lf) 112 (dataCon [(true, (.pair .str (.pair .i .i)))] [(false, .bool)] (F112 P lf))
theorem F112_eq (lf : Nat) (a0 : ByteArray) (a1 : Int) (a2 : Int) : F112 Tryz.prog lf (a0, (a1, a2)) =
  cond (decide (a1 ≥ (-1000000000000 : Int))) (cond (decide (a1 ≤ a2)) (some (decide (a2 ≤ (1000000000000 : Int)))) (some false)) (some false) := by kernel_rfl
def S113 : FuncId → Sp := fun g => match g with
  | 113 => { joins := [(19, [(.slot 89, .dat .bool)]), (5, [(.slot 45, .dat .bool)]), (3, [(.slot 30, .dat .bool)])], loops := [(16, [(.slot 69, .dat .i)]), (7, [(.slot 51, .dat .i)])] }
  | _ => {}
noncomputable def F113 (P : Program) (lf : Nat) (x : tt [(true, (.pair .str (.pair (.sl (.pair .str (.pair .i .i))) (.sl Yq)))), (false, .i)]) : Option (tt [(false, .i)]) := fnF P (C112 P lf) S113 113 [(true, (.pair .str (.pair (.sl (.pair .str (.pair .i .i))) (.sl Yq)))), (false, .i)] [(false, .i)] lf x
noncomputable def C113 (P : Program) (lf : Nat) : FuncId → Option Con := extC (C112 P lf) 113 (dataCon [(true, (.pair .str (.pair (.sl (.pair .str (.pair .i .i))) (.sl Yq)))), (false, .i)] [(false, .i)] (F113 P lf))
theorem F113_eq (lf : Nat) (a0 : ByteArray) (a1 : Yf) (a2 : Yr) (a3 : Int) : F113 Tryz.prog lf ((a0, (a1, a2)), a3) =
  ((getI a2 a3)).bind fun r20 => jn (((F94 Tryz.prog lf r20.1)).bind fun r21 => cond (!r21) (some (.inl true)) (((subI a2 (0 : Int) a3)).bind fun r22 => ((F36 Tryz.prog lf (((bts []), (([] : List (ByteArray × (Int × Int))), r22)), r20.1))).bind fun r23 => some (.inl (decide (r23 ≥ (0 : Int)))))) (fun y24 : Bool => cond y24 (some (40 : Int)) (jn (cond (decide (r20.2.1 < (0 : Int))) (some (.inl true)) (cond (decide (r20.2.1 > r20.2.2.1)) (some (.inl true)) (some (.inl (decide (r20.2.2.1 > (100000 : Int))))))) (fun y25 : Bool => cond y25 (some (45 : Int)) (iter lf (fun y26 : Int => cond (decide (y26 < (2 : Int))) (cond (decide (y26 = (0 : Int))) (((F29 Tryz.prog lf (a1, r20.2.2.2.1))).bind fun r27 => cond (!(decide (r27 = (0 : Int)))) (some (.inr r27)) (some (.inl (w64 (y26 + (1 : Int)))))) (cond (decide (y26 = (1 : Int))) (((F29 Tryz.prog lf (a1, r20.2.2.2.2.1))).bind fun r28 => cond (!(decide (r28 = (0 : Int)))) (some (.inr r28)) (some (.inl (w64 (y26 + (1 : Int)))))) ((outI)))) (outR (cond (decide ((r20.2.2.2.2.2.length : Int) > (6 : Int))) (some (2 : Int)) (iter lf (fun y29 : Int => cond (decide (y29 < (r20.2.2.2.2.2.length : Int))) (((getI r20.2.2.2.2.2 y29)).bind fun r30 => jn (((subI a2 (0 : Int) a3)).bind fun r31 => ((F36 Tryz.prog lf (((bts []), (([] : List (ByteArray × (Int × Int))), r31)), r30))).bind fun r32 => cond (decide (r32 < (0 : Int))) (some (.inl true)) (((subI r20.2.2.2.2.2 (0 : Int) y29)).bind fun r33 => ((F180 Tryz.prog lf (r33, r30))).bind fun r34 => some (.inl r34))) (fun y35 : Bool => cond y35 (some (.inr (42 : Int))) (some (.inl (w64 (y29 + (1 : Int))))))) (some (.inr (0 : Int)))) (0 : Int))))) (0 : Int))))) := by kernel_rfl
def S114 : FuncId → Sp := fun g => match g with
  | 114 => { loops := [(3, [(.slot 3, .dat .i), (.slot 8, .dat .i)])] }
  | _ => {}
noncomputable def F114 (P : Program) (lf : Nat) (x : tt [(false, (.sl (.sl .i)))]) : Option (tt [(false, .i)]) := fnF P (C113 P lf) S114 114 [(false, (.sl (.sl .i)))] [(false, .i)] lf x
noncomputable def C114 (P : Program) (lf : Nat) : FuncId → Option Con := extC (C113 P lf) 114 (dataCon [(false, (.sl (.sl .i)))] [(false, .i)] (F114 P lf))
theorem F114_eq (lf : Nat) (a0 : (List (List Int))) : F114 Tryz.prog lf a0 =
  iter lf (fun y4 : (Int × Int) => cond (decide (y4.2 < (a0.length : Int))) (((getI a0 y4.2)).bind fun r5 => some (.inl ((if (4001 : Int) < (w64 (y4.1 * (r5.length : Int))) then (4001 : Int) else (w64 (y4.1 * (r5.length : Int)))), (w64 (y4.2 + (1 : Int)))))) (some (.inr y4.1))) ((1 : Int), (0 : Int)) := by kernel_rfl
def S31 : FuncId → Sp := fun g => match g with
  | 31 => { joins := [(11, [(.slot 49, .dat .bool)]), (6, [(.slot 17, .dat .bool)])], loops := [(16, [(.slot 57, .dat .i)]), (8, [(.slot 31, .dat .i)])] }
  | _ => {}
noncomputable def F31 (P : Program) (lf : Nat) (x : tt [(true, (.pair .str (.pair (.sl (.pair .str (.pair .i .i))) (.sl Yq))))]) : Option (tt [(false, .i)]) := fnF P (C114 P lf) S31 31 [(true, (.pair .str (.pair (.sl (.pair .str (.pair .i .i))) (.sl Yq))))] [(false, .i)] lf x
noncomputable def C31 (P : Program) (lf : Nat) : FuncId → Option Con := extC (C114 P lf) 31 (dataCon [(true, (.pair .str (.pair (.sl (.pair .str (.pair .i .i))) (.sl Yq))))] [(false, .i)] (F31 P lf))
theorem F31_eq (lf : Nat) (a0 : ByteArray) (a1 : Yf) (a2 : Yr) : F31 Tryz.prog lf (a0, (a1, a2)) =
  ((F94 Tryz.prog lf a0)).bind fun r17 => cond (!r17) (some (40 : Int)) (cond (decide ((a1.length : Int) = (0 : Int))) (some (43 : Int)) (jn (cond (decide ((a1.length : Int) > (6 : Int))) (some (.inl true)) (some (.inl (decide ((a2.length : Int) > (12 : Int)))))) (fun y18 : Bool => cond y18 (some (2 : Int)) (iter lf (fun y19 : Int => cond (decide (y19 < (a1.length : Int))) (((getI a1 y19)).bind fun r20 => jn (((F94 Tryz.prog lf r20.1)).bind fun r21 => cond (!r21) (some (.inl true)) (((subI a1 (0 : Int) y19)).bind fun r22 => ((F110 Tryz.prog lf (r22, r20.1))).bind fun r23 => some (.inl (decide (r23 ≥ (0 : Int)))))) (fun y24 : Bool => cond y24 (some (.inr (40 : Int))) (((F112 Tryz.prog lf (r20.1, (r20.2.1, r20.2.2)))).bind fun r25 => cond (!r25) (some (.inr (44 : Int))) (some (.inl (w64 (y19 + (1 : Int)))))))) (outR (iter lf (fun y26 : Int => cond (decide (y26 < (a2.length : Int))) (((F113 Tryz.prog lf ((a0, (a1, a2)), y26))).bind fun r27 => cond (!(decide (r27 = (0 : Int)))) (some (.inr r27)) (some (.inl (w64 (y26 + (1 : Int)))))) (outR (((F116 Tryz.prog lf (a0, (a1, a2)))).bind fun r28 => ((F115 Tryz.prog lf (a1, r28))).bind fun r29 => ((F114 Tryz.prog lf r29)).bind fun r30 => cond (decide (r30 > (4000 : Int))) (some (2 : Int)) (some (0 : Int))))) (0 : Int)))) (0 : Int))))) := by kernel_rfl
def S62 : FuncId → Sp := fun g => match g with
  | 62 => { loops := [(4, [(.slot 13, .dat .i)])] }
  | _ => {}
noncomputable def F62 (P : Program) (lf : Nat) (x : tt [(false, (.sl .i)), (false, (.sl .i))]) : Option (tt [(false, .bool)]) := fnF P (C31 P lf) S62 62 [(false, (.sl .i)), (false, (.sl .i))] [(false, .bool)] lf x
noncomputable def C62 (P : Program) (lf : Nat) : FuncId → Option Con := extC (C31 P lf) 62 (dataCon [(false, (.sl .i)), (false, (.sl .i))] [(false, .bool)] (F62 P lf))
theorem F62_eq (lf : Nat) (a0 : (List Int)) (a1 : (List Int)) : F62 Tryz.prog lf (a0, a1) =
  cond (!(decide ((a0.length : Int) = (a1.length : Int)))) (some false) (iter lf (fun y5 : Int => cond (decide (y5 < (a0.length : Int))) (((getI a0 y5)).bind fun r6 => ((getI a1 y5)).bind fun r7 => cond (!(decide (r6 = r7))) (some (.inr false)) (some (.inl (w64 (y5 + (1 : Int)))))) (some (.inr true))) (0 : Int)) := by kernel_rfl
def S61 : FuncId → Sp := fun g => match g with
  | 61 => { joins := [(7, [(.slot 66, .dat .bool)])], loops := [(4, [(.slot 13, .dat .i)])] }
  | _ => {}
noncomputable def F61 (P : Program) (lf : Nat) (x : tt [(false, (.sl (.pair .i (.pair .i (.pair .i (.sl .i)))))), (false, (.sl (.pair .i (.pair .i (.pair .i (.sl .i))))))]) : Option (tt [(false, .bool)]) := fnF P (C62 P lf) S61 61 [(false, (.sl (.pair .i (.pair .i (.pair .i (.sl .i)))))), (false, (.sl (.pair .i (.pair .i (.pair .i (.sl .i))))))] [(false, .bool)] lf x
noncomputable def C61 (P : Program) (lf : Nat) : FuncId → Option Con := extC (C62 P lf) 61 (dataCon [(false, (.sl (.pair .i (.pair .i (.pair .i (.sl .i)))))), (false, (.sl (.pair .i (.pair .i (.pair .i (.sl .i))))))] [(false, .bool)] (F61 P lf))
theorem F61_eq (lf : Nat) (a0 : (List (Int × (Int × (Int × (List Int)))))) (a1 : (List (Int × (Int × (Int × (List Int)))))) : F61 Tryz.prog lf (a0, a1) =
  cond (!(decide ((a0.length : Int) = (a1.length : Int)))) (some false) (iter lf (fun y13 : Int => cond (decide (y13 < (a0.length : Int))) (jn (((getI a0 y13)).bind fun r14 => ((getI a1 y13)).bind fun r15 => cond (!(decide (r14.1 = r15.1))) (some (.inl true)) (((getI a0 y13)).bind fun r16 => ((getI a1 y13)).bind fun r17 => cond (!(decide (r16.2.1 = r17.2.1))) (some (.inl true)) (((getI a0 y13)).bind fun r18 => ((getI a1 y13)).bind fun r19 => cond (!(decide (r18.2.2.1 = r19.2.2.1))) (some (.inl true)) (((getI a0 y13)).bind fun r20 => ((getI a1 y13)).bind fun r21 => ((F62 Tryz.prog lf (r20.2.2.2, r21.2.2.2))).bind fun r22 => some (.inl (!r22)))))) (fun y23 : Bool => cond y23 (some (.inr false)) (some (.inl (w64 (y13 + (1 : Int))))))) (some (.inr true))) (0 : Int)) := by kernel_rfl
def S222 : FuncId → Sp := fun _ => {}
noncomputable def F222 (P : Program) (lf : Nat) (x : tt [(true, (.pair .str (.pair .i .i))), (true, (.pair .str (.pair .i .i)))]) : Option (tt [(false, .bool)]) := fnF P (C61 P lf) S222 222 [(true, (.pair .str (.pair .i .i))), (true, (.pair .str (.pair .i .i)))] [(false, .bool)] lf x
noncomputable def C222 (P : Program) (lf : Nat) : FuncId → Option Con := extC (C61 P lf) 222 (dataCon [(true, (.pair .str (.pair .i .i))), (true, (.pair .str (.pair .i .i)))] [(false, .bool)] (F222 P lf))
theorem F222_eq (lf : Nat) (a0 : ByteArray) (a1 : Int) (a2 : Int) (a3 : ByteArray) (a4 : Int) (a5 : Int) : F222 Tryz.prog lf ((a0, (a1, a2)), (a3, (a4, a5))) =
  cond ((ByteArray.toList a0) == (ByteArray.toList a3)) (cond (decide (a4 ≥ a1)) (cond (decide (a4 ≤ a5)) (some (decide (a5 ≤ a2))) (some false)) (some false)) (some false) := by kernel_rfl
def S173 : FuncId → Sp := fun g => match g with
  | 221 => { loops := [(4, [(.slot 17, .dat .i)])] }
  | _ => {}
noncomputable def F173 (P : Program) (lf : Nat) (x : tt [(true, (.pair .str (.pair (.sl (.pair .str (.pair .i .i))) (.sl Yq)))), (false, (.sl (.pair .str (.pair .i .i))))]) : Option (tt [(false, .bool)]) := fnF P (C222 P lf) S173 173 [(true, (.pair .str (.pair (.sl (.pair .str (.pair .i .i))) (.sl Yq)))), (false, (.sl (.pair .str (.pair .i .i))))] [(false, .bool)] lf x
noncomputable def C173 (P : Program) (lf : Nat) : FuncId → Option Con := extC (C222 P lf) 173 (dataCon [(true, (.pair .str (.pair (.sl (.pair .str (.pair .i .i))) (.sl Yq)))), (false, (.sl (.pair .str (.pair .i .i))))] [(false, .bool)] (F173 P lf))
theorem F173_eq (lf : Nat) (a0 : ByteArray) (a1 : Yf) (a2 : Yr) (a3 : Yf) : F173 Tryz.prog lf ((a0, (a1, a2)), a3) =
  cond (!(decide ((a1.length : Int) = (a3.length : Int)))) (some false) (iter lf (fun y8 : Int => cond (decide (y8 < (a1.length : Int))) (((getI a1 y8)).bind fun r9 => ((getI a3 y8)).bind fun r10 => ((F222 Tryz.prog lf ((r9.1, (r9.2.1, r9.2.2)), (r10.1, (r10.2.1, r10.2.2))))).bind fun r11 => cond (!r11) (some (.inr false)) (some (.inl (w64 (y8 + (1 : Int)))))) (some (.inr true))) (0 : Int)) := by kernel_rfl
end Go.K
namespace Go.K
open Go.Sl Go.Sx Go.Proofs
noncomputable def G266 (lf : Nat) (x : ((List ByteArray) × ByteArray)) : Option (Bool) :=
  iter lf (fun y4 : Int => cond (decide (y4 < (x.1.length : Int))) (((getI x.1 y4)).bind fun r5 => cond (r5.data.toList == x.2.data.toList) (some (.inr true)) (some (.inl (w64 (y4 + (1 : Int)))))) (some (.inr false))) (0 : Int)
theorem F266_G (lf : Nat) (x : ((List ByteArray) × ByteArray)) : F266 Tryz.prog lf x = G266 lf x := (F266_eq lf x.1 x.2).trans (by
  unfold G266
  (try simp only [agree_self, Lib.toList_data]); first | done | rfl)
noncomputable def G199 (lf : Nat) (x : Bool) : Option (Unit ⊕ Int) :=
  cond (!x) (some (.inr (0 : Int))) (some (.inl ()))
theorem F199_G (lf : Nat) (x : Bool) : F199 Tryz.prog lf x = G199 lf x := (F199_eq lf x).trans (by
  unfold G199
  (try simp only [agree_self, Lib.toList_data]); first | done | rfl)
noncomputable def G198 (lf : Nat) (x : (((List ByteArray) × Unit) × Unit)) : Option ((((List ByteArray) × Unit) × ByteArray) ⊕ Int) :=
  ((G199 lf (decide ((x.1.1.length : Int) > (0 : Int))))).bind fun r6 => sm r6 (fun r7 : PUnit => ((getI x.1.1 (0 : Int))).bind fun r8 => ((subI x.1.1 (1 : Int) (x.1.1.length : Int))).bind fun r9 => some (.inl ((r9, ()), r8))) (fun r10 : Int => some (.inr r10))
theorem F198_G (lf : Nat) (x : (((List ByteArray) × Unit) × Unit)) : F198 Tryz.prog lf x = G198 lf x := (F198_eq lf x.1.1).trans (by
  unfold G198
  (try simp only [F199_G, agree_self, Lib.toList_data]); first | done | rfl)
noncomputable def G200 (lf : Nat) (x : (((List ByteArray) × Unit) × Unit)) : Option ((((List ByteArray) × Unit) × ByteArray) ⊕ Int) :=
  ((G198 lf ((x.1.1, ()), ()))).bind fun r8 => sm r8 (fun r9 : (((List ByteArray) × PUnit) × ByteArray) => ((G94 lf r9.2)).bind fun r10 => ((G199 lf r10)).bind fun r11 => sm r11 (fun r12 : PUnit => some (.inl ((r9.1.1, ()), r9.2))) (fun r13 : Int => some (.inr r13))) (fun r14 : Int => some (.inr r14))
theorem F200_G (lf : Nat) (x : (((List ByteArray) × Unit) × Unit)) : F200 Tryz.prog lf x = G200 lf x := (F200_eq lf x.1.1).trans (by
  unfold G200
  (try simp only [F94_G, F198_G, F199_G, agree_self, Lib.toList_data]); first | done | rfl)
noncomputable def G239 (lf : Nat) (x : (((List ByteArray) × Unit) × Bool)) : Option ((((List ByteArray) × Unit) × Int) ⊕ Int) :=
  ((G198 lf ((x.1.1, ()), ()))).bind fun r9 => sm r9 (fun r10 : (((List ByteArray) × PUnit) × ByteArray) => ((G244 lf (r10.2, x.2))).bind fun r11 => ((G199 lf r11.2)).bind fun r12 => sm r12 (fun r13 : PUnit => some (.inl ((r10.1.1, ()), r11.1))) (fun r14 : Int => some (.inr r14))) (fun r15 : Int => some (.inr r15))
theorem F239_G (lf : Nat) (x : (((List ByteArray) × Unit) × Bool)) : F239 Tryz.prog lf x = G239 lf x := (F239_eq lf x.1.1 x.2).trans (by
  unfold G239
  (try simp only [F198_G, F199_G, F244_G, agree_self, Lib.toList_data]); first | done | rfl)
noncomputable def G201 (lf : Nat) (x : (((List ByteArray) × Unit) × Unit)) : Option ((((List ByteArray) × Unit) × (ByteArray × (Int × Int))) ⊕ Int) :=
  ((G200 lf ((x.1.1, ()), ()))).bind fun r10 => sm r10 (fun r11 : (((List ByteArray) × PUnit) × ByteArray) => ((G239 lf ((r11.1.1, ()), true))).bind fun r12 => sm r12 (fun r13 : (((List ByteArray) × PUnit) × Int) => ((G239 lf ((r13.1.1, ()), true))).bind fun r14 => sm r14 (fun r15 : (((List ByteArray) × PUnit) × Int) => some (.inl ((r15.1.1, ()), (r11.2, (r13.2, r15.2))))) (fun r16 : Int => some (.inr r16))) (fun r17 : Int => some (.inr r17))) (fun r18 : Int => some (.inr r18))
theorem F201_G (lf : Nat) (x : (((List ByteArray) × Unit) × Unit)) : F201 Tryz.prog lf x = G201 lf x := (F201_eq lf x.1.1).trans (by
  unfold G201
  (try simp only [F200_G, F239_G, agree_self, Lib.toList_data]); first | done | rfl)
noncomputable def G240 (lf : Nat) (x : (((List ByteArray) × Unit) × (List ByteArray))) : Option ((((List ByteArray) × Unit) × Yt) ⊕ Int) :=
  jn (iter lf (fun y13 : Int => cond (decide (y13 < (x.1.1.length : Int))) (((getI x.1.1 y13)).bind fun r14 => ((G266 lf (x.2, r14))).bind fun r15 => cond (!r15) (some (.inl (w64 (y13 + (1 : Int))))) (some (.inr (.inl y13)))) (some (.inr (.inl y13)))) (0 : Int)) (fun y16 : Int => ((subI x.1.1 (0 : Int) y16)).bind fun r17 => ((joinC (bts [32]) r17)).bind fun r18 => ((G17 lf r18)).bind fun r19 => ((G199 lf (decide (r19.2.2 = (0 : Int))))).bind fun r20 => sm r20 (fun r21 : PUnit => ((subI x.1.1 y16 (x.1.1.length : Int))).bind fun r22 => some (.inl ((r22, ()), r19.1))) (fun r23 : Int => some (.inr r23)))
theorem F240_G (lf : Nat) (x : (((List ByteArray) × Unit) × (List ByteArray))) : F240 Tryz.prog lf x = G240 lf x := (F240_eq lf x.1.1 x.2).trans (by
  unfold G240
  (try simp only [F17_G, F199_G, F266_G, agree_self, Lib.toList_data]); first | done | rfl)
noncomputable def G202 (lf : Nat) (x : (((List ByteArray) × Unit) × Unit)) : Option ((((List ByteArray) × Unit) × (ByteArray × (Int × (Int × (Yt × (Yt × (List ByteArray))))))) ⊕ Int) :=
  ((G200 lf ((x.1.1, ()), ()))).bind fun r68 => sm r68 (fun r69 : (((List ByteArray) × PUnit) × ByteArray) => ((G239 lf ((r69.1.1, ()), false))).bind fun r70 => sm r70 (fun r71 : (((List ByteArray) × PUnit) × Int) => ((G239 lf ((r71.1.1, ()), false))).bind fun r72 => sm r72 (fun r73 : (((List ByteArray) × PUnit) × Int) => ((G198 lf ((r73.1.1, ()), ()))).bind fun r74 => sm r74 (fun r75 : (((List ByteArray) × PUnit) × ByteArray) => ((G199 lf (r75.2.data.toList == [(UInt8.ofNat 119), (UInt8.ofNat 104), (UInt8.ofNat 101), (UInt8.ofNat 110)]))).bind fun r76 => sm r76 (fun r77 : PUnit => ((G240 lf ((r75.1.1, ()), [(bts [109, 117, 115, 116])]))).bind fun r78 => sm r78 (fun r79 : (((List ByteArray) × PUnit) × Yt) => ((G198 lf ((r79.1.1, ()), ()))).bind fun r80 => sm r80 (fun r81 : (((List ByteArray) × PUnit) × ByteArray) => ((G199 lf (r81.2.data.toList == [(UInt8.ofNat 109), (UInt8.ofNat 117), (UInt8.ofNat 115), (UInt8.ofNat 116)]))).bind fun r82 => sm r82 (fun r83 : PUnit => ((G240 lf ((r81.1.1, ()), [(bts [117, 110, 108, 101, 115, 115])]))).bind fun r84 => sm r84 (fun r85 : (((List ByteArray) × PUnit) × Yt) => cond (decide ((r85.1.1.length : Int) > (0 : Int))) (((G198 lf ((r85.1.1, ()), ()))).bind fun r86 => sm r86 (fun r87 : (((List ByteArray) × PUnit) × ByteArray) => jn (((G200 lf ((r87.1.1, ()), ()))).bind fun r88 => sm r88 (fun r89 : (((List ByteArray) × PUnit) × ByteArray) => ((appC ([] : List ByteArray) [r89.2])).bind fun r90 => some (.inl (r90, r89.1.1))) (fun r91 : Int => some (.inr (.inr r91)))) (fun y97 : ((List ByteArray) × (List ByteArray)) => iter lf (fun y98 : ((List ByteArray) × (List ByteArray)) => cond (decide ((y98.2.length : Int) > (0 : Int))) (((G200 lf ((y98.2, ()), ()))).bind fun r99 => sm r99 (fun r100 : (((List ByteArray) × PUnit) × ByteArray) => ((appC y98.1 [r100.2])).bind fun r101 => some (.inl (r101, r100.1.1))) (fun r102 : Int => some (.inr (.inr r102)))) (some (.inr (.inl ((y98.2, ()), (r69.2, (r71.2, (r73.2, (r79.2, (r85.2, y98.1)))))))))) (y97.1, y97.2))) (fun r108 : Int => some (.inr r108))) (some (.inl ((r85.1.1, ()), (r69.2, (r71.2, (r73.2, (r79.2, (r85.2, ([] : List ByteArray)))))))))) (fun r109 : Int => some (.inr r109))) (fun r110 : Int => some (.inr r110))) (fun r111 : Int => some (.inr r111))) (fun r112 : Int => some (.inr r112))) (fun r113 : Int => some (.inr r113))) (fun r114 : Int => some (.inr r114))) (fun r115 : Int => some (.inr r115))) (fun r116 : Int => some (.inr r116))) (fun r117 : Int => some (.inr r117))
theorem F202_G (lf : Nat) (x : (((List ByteArray) × Unit) × Unit)) : F202 Tryz.prog lf x = G202 lf x := (F202_eq lf x.1.1).trans (by
  unfold G202
  (try simp only [F198_G, F199_G, F200_G, F239_G, F240_G, agree_self, Lib.toList_data]); first | done | rfl)
noncomputable def G93 (lf : Nat) (x : Int) : Option (Bool) :=
  ((G91 lf (x, ((1 : Int), (3 : Int))))).bind fun r2 => some r2
theorem F93_G (lf : Nat) (x : Int) : F93 Tryz.prog lf x = G93 lf x := (F93_eq lf x).trans (by
  unfold G93
  (try simp only [F91_G, agree_self, Lib.toList_data]); first | done | rfl)
noncomputable def G92 (lf : Nat) (x : ((Int × (Int × (Int × (ByteArray × Int)))) × Int)) : Option (Bool) :=
  jn (cond (decide (x.1.1 = (0 : Int))) (some (.inl ((0 : Int), (x.1.2.2.2.2, (x.1.2.2.2.1, (x.1.2.1, x.1.2.2.1)))))) (((G93 lf x.1.1)).bind fun r18 => cond r18 (((G91 lf (x.1.2.2.2.2, ((-1000000000000 : Int), (1000000000000 : Int))))).bind fun r19 => cond (!r19) (some (.inr false)) (some (.inl (x.1.1, ((0 : Int), ((bts []), (x.1.2.1, x.1.2.2.1))))))) (cond (decide (x.1.1 = (4 : Int))) (((G91 lf (x.1.2.1, ((0 : Int), (w64 (x.2 - (1 : Int))))))).bind fun r20 => cond (!r20) (some (.inr false)) (some (.inl (x.1.1, (x.1.2.2.2.2, (x.1.2.2.2.1, ((0 : Int), x.1.2.2.1))))))) (jn (cond (decide (x.1.1 = (5 : Int))) (some (.inl true)) (some (.inl (decide (x.1.1 = (6 : Int)))))) (fun y21 : Bool => cond y21 (jn (((G91 lf (x.1.2.1, ((0 : Int), (w64 (x.2 - (1 : Int))))))).bind fun r22 => cond (!r22) (some (.inl true)) (((G91 lf (x.1.2.2.1, ((0 : Int), (w64 (x.2 - (1 : Int))))))).bind fun r23 => some (.inl (!r23)))) (fun y24 : Bool => cond y24 (some (.inr false)) (some (.inl (x.1.1, (x.1.2.2.2.2, (x.1.2.2.2.1, ((0 : Int), (0 : Int))))))))) (some (.inr false))))))) (fun y25 : (Int × (Int × (ByteArray × (Int × Int)))) => some ((decide (y25.1 = x.1.1)) && ((decide (y25.2.2.2.1 = (0 : Int))) && ((decide (y25.2.2.2.2 = (0 : Int))) && ((y25.2.2.1.data.toList == ([] : List UInt8)) && ((decide (y25.2.1 = (0 : Int))) && true))))))
theorem F92_G (lf : Nat) (x : ((Int × (Int × (Int × (ByteArray × Int)))) × Int)) : F92 Tryz.prog lf x = G92 lf x := (F92_eq lf x.1.1 x.1.2.1 x.1.2.2.1 x.1.2.2.2.1 x.1.2.2.2.2 x.2).trans (by
  unfold G92
  (try simp only [F91_G, F93_G, agree_self, Lib.toList_data]); first | done | rfl)
noncomputable def G29 (lf : Nat) (x : (Yf × Yt)) : Option (Int) :=
  cond (decide ((x.2.length : Int) > (30 : Int))) (some (2 : Int)) (iter lf (fun y8 : Int => cond (decide (y8 < (x.2.length : Int))) (((getI x.2 y8)).bind fun r9 => ((G92 lf ((r9.1, (r9.2.1, (r9.2.2.1, (r9.2.2.2.1, r9.2.2.2.2)))), y8))).bind fun r10 => cond (!r10) (some (.inr (41 : Int))) (jn (((G93 lf r9.1)).bind fun r11 => cond r11 (((G110 lf (x.1, r9.2.2.2.1))).bind fun r12 => some (.inl (decide (r12 < (0 : Int))))) (some (.inl false))) (fun y13 : Bool => cond y13 (some (.inr (40 : Int))) (some (.inl (w64 (y8 + (1 : Int)))))))) (outR (cond (decide ((x.2.length : Int) = (0 : Int))) (some (41 : Int)) (some (0 : Int))))) (0 : Int))
theorem F29_G (lf : Nat) (x : (Yf × Yt)) : F29 Tryz.prog lf x = G29 lf x := (F29_eq lf x.1 x.2).trans (by
  unfold G29
  (try simp only [F92_G, F93_G, F110_G, agree_self, Lib.toList_data]); first | done | rfl)
noncomputable def G112 (lf : Nat) (x : (ByteArray × (Int × Int))) : Option (Bool) :=
  cond (decide (x.2.1 ≥ (-1000000000000 : Int))) (cond (decide (x.2.1 ≤ x.2.2)) (some (decide (x.2.2 ≤ (1000000000000 : Int)))) (some false)) (some false)
theorem F112_G (lf : Nat) (x : (ByteArray × (Int × Int))) : F112 Tryz.prog lf x = G112 lf x := (F112_eq lf x.1 x.2.1 x.2.2).trans (by
  unfold G112
  (try simp only [agree_self, Lib.toList_data]); first | done | rfl)
noncomputable def G113 (lf : Nat) (x : ((ByteArray × (Yf × Yr)) × Int)) : Option (Int) :=
  ((getI x.1.2.2 x.2)).bind fun r20 => jn (((G94 lf r20.1)).bind fun r21 => cond (!r21) (some (.inl true)) (((subI x.1.2.2 (0 : Int) x.2)).bind fun r22 => ((G36 lf (((bts []), (([] : List (ByteArray × (Int × Int))), r22)), r20.1))).bind fun r23 => some (.inl (decide (r23 ≥ (0 : Int)))))) (fun y24 : Bool => cond y24 (some (40 : Int)) (jn (cond (decide (r20.2.1 < (0 : Int))) (some (.inl true)) (cond (decide (r20.2.1 > r20.2.2.1)) (some (.inl true)) (some (.inl (decide (r20.2.2.1 > (100000 : Int))))))) (fun y25 : Bool => cond y25 (some (45 : Int)) (iter lf (fun y26 : Int => cond (decide (y26 < (2 : Int))) (cond (decide (y26 = (0 : Int))) (((G29 lf (x.1.2.1, r20.2.2.2.1))).bind fun r27 => cond (!(decide (r27 = (0 : Int)))) (some (.inr r27)) (some (.inl (w64 (y26 + (1 : Int)))))) (cond (decide (y26 = (1 : Int))) (((G29 lf (x.1.2.1, r20.2.2.2.2.1))).bind fun r28 => cond (!(decide (r28 = (0 : Int)))) (some (.inr r28)) (some (.inl (w64 (y26 + (1 : Int)))))) ((outI)))) (outR (cond (decide ((r20.2.2.2.2.2.length : Int) > (6 : Int))) (some (2 : Int)) (iter lf (fun y29 : Int => cond (decide (y29 < (r20.2.2.2.2.2.length : Int))) (((getI r20.2.2.2.2.2 y29)).bind fun r30 => jn (((subI x.1.2.2 (0 : Int) x.2)).bind fun r31 => ((G36 lf (((bts []), (([] : List (ByteArray × (Int × Int))), r31)), r30))).bind fun r32 => cond (decide (r32 < (0 : Int))) (some (.inl true)) (((subI r20.2.2.2.2.2 (0 : Int) y29)).bind fun r33 => ((G180 lf (r33, r30))).bind fun r34 => some (.inl r34))) (fun y35 : Bool => cond y35 (some (.inr (42 : Int))) (some (.inl (w64 (y29 + (1 : Int))))))) (some (.inr (0 : Int)))) (0 : Int))))) (0 : Int)))))
theorem F113_G (lf : Nat) (x : ((ByteArray × (Yf × Yr)) × Int)) : F113 Tryz.prog lf x = G113 lf x := (F113_eq lf x.1.1 x.1.2.1 x.1.2.2 x.2).trans (by
  unfold G113
  (try simp only [F29_G, F36_G, F94_G, F180_G, agree_self, Lib.toList_data]); first | done | rfl)
noncomputable def G114 (lf : Nat) (x : (List (List Int))) : Option (Int) :=
  iter lf (fun y4 : (Int × Int) => cond (decide (y4.2 < (x.length : Int))) (((getI x y4.2)).bind fun r5 => some (.inl ((if (4001 : Int) < (w64 (y4.1 * (r5.length : Int))) then (4001 : Int) else (w64 (y4.1 * (r5.length : Int)))), (w64 (y4.2 + (1 : Int)))))) (some (.inr y4.1))) ((1 : Int), (0 : Int))
theorem F114_G (lf : Nat) (x : (List (List Int))) : F114 Tryz.prog lf x = G114 lf x := (F114_eq lf x).trans (by
  unfold G114
  (try simp only [agree_self, Lib.toList_data]); first | done | rfl)
noncomputable def G31 (lf : Nat) (x : (ByteArray × (Yf × Yr))) : Option (Int) :=
  ((G94 lf x.1)).bind fun r17 => cond (!r17) (some (40 : Int)) (cond (decide ((x.2.1.length : Int) = (0 : Int))) (some (43 : Int)) (jn (cond (decide ((x.2.1.length : Int) > (6 : Int))) (some (.inl true)) (some (.inl (decide ((x.2.2.length : Int) > (12 : Int)))))) (fun y18 : Bool => cond y18 (some (2 : Int)) (iter lf (fun y19 : Int => cond (decide (y19 < (x.2.1.length : Int))) (((getI x.2.1 y19)).bind fun r20 => jn (((G94 lf r20.1)).bind fun r21 => cond (!r21) (some (.inl true)) (((subI x.2.1 (0 : Int) y19)).bind fun r22 => ((G110 lf (r22, r20.1))).bind fun r23 => some (.inl (decide (r23 ≥ (0 : Int)))))) (fun y24 : Bool => cond y24 (some (.inr (40 : Int))) (((G112 lf (r20.1, (r20.2.1, r20.2.2)))).bind fun r25 => cond (!r25) (some (.inr (44 : Int))) (some (.inl (w64 (y19 + (1 : Int)))))))) (outR (iter lf (fun y26 : Int => cond (decide (y26 < (x.2.2.length : Int))) (((G113 lf ((x.1, (x.2.1, x.2.2)), y26))).bind fun r27 => cond (!(decide (r27 = (0 : Int)))) (some (.inr r27)) (some (.inl (w64 (y26 + (1 : Int)))))) (outR (((G116 lf (x.1, (x.2.1, x.2.2)))).bind fun r28 => ((G115 lf (x.2.1, r28))).bind fun r29 => ((G114 lf r29)).bind fun r30 => cond (decide (r30 > (4000 : Int))) (some (2 : Int)) (some (0 : Int))))) (0 : Int)))) (0 : Int)))))
theorem F31_G (lf : Nat) (x : (ByteArray × (Yf × Yr))) : F31 Tryz.prog lf x = G31 lf x := (F31_eq lf x.1 x.2.1 x.2.2).trans (by
  unfold G31
  (try simp only [F94_G, F110_G, F112_G, F113_G, F114_G, F115_G, F116_G, agree_self, Lib.toList_data]); first | done | rfl)
noncomputable def G62 (lf : Nat) (x : ((List Int) × (List Int))) : Option (Bool) :=
  cond (!(decide ((x.1.length : Int) = (x.2.length : Int)))) (some false) (iter lf (fun y5 : Int => cond (decide (y5 < (x.1.length : Int))) (((getI x.1 y5)).bind fun r6 => ((getI x.2 y5)).bind fun r7 => cond (!(decide (r6 = r7))) (some (.inr false)) (some (.inl (w64 (y5 + (1 : Int)))))) (some (.inr true))) (0 : Int))
theorem F62_G (lf : Nat) (x : ((List Int) × (List Int))) : F62 Tryz.prog lf x = G62 lf x := (F62_eq lf x.1 x.2).trans (by
  unfold G62
  (try simp only [agree_self, Lib.toList_data]); first | done | rfl)
noncomputable def G61 (lf : Nat) (x : ((List (Int × (Int × (Int × (List Int))))) × (List (Int × (Int × (Int × (List Int))))))) : Option (Bool) :=
  cond (!(decide ((x.1.length : Int) = (x.2.length : Int)))) (some false) (iter lf (fun y13 : Int => cond (decide (y13 < (x.1.length : Int))) (jn (((getI x.1 y13)).bind fun r14 => ((getI x.2 y13)).bind fun r15 => cond (!(decide (r14.1 = r15.1))) (some (.inl true)) (((getI x.1 y13)).bind fun r16 => ((getI x.2 y13)).bind fun r17 => cond (!(decide (r16.2.1 = r17.2.1))) (some (.inl true)) (((getI x.1 y13)).bind fun r18 => ((getI x.2 y13)).bind fun r19 => cond (!(decide (r18.2.2.1 = r19.2.2.1))) (some (.inl true)) (((getI x.1 y13)).bind fun r20 => ((getI x.2 y13)).bind fun r21 => ((G62 lf (r20.2.2.2, r21.2.2.2))).bind fun r22 => some (.inl (!r22)))))) (fun y23 : Bool => cond y23 (some (.inr false)) (some (.inl (w64 (y13 + (1 : Int))))))) (some (.inr true))) (0 : Int))
theorem F61_G (lf : Nat) (x : ((List (Int × (Int × (Int × (List Int))))) × (List (Int × (Int × (Int × (List Int))))))) : F61 Tryz.prog lf x = G61 lf x := (F61_eq lf x.1 x.2).trans (by
  unfold G61
  (try simp only [F62_G, agree_self, Lib.toList_data]); first | done | rfl)
noncomputable def G222 (lf : Nat) (x : ((ByteArray × (Int × Int)) × (ByteArray × (Int × Int)))) : Option (Bool) :=
  cond (x.1.1.data.toList == x.2.1.data.toList) (cond (decide (x.2.2.1 ≥ x.1.2.1)) (cond (decide (x.2.2.1 ≤ x.2.2.2)) (some (decide (x.2.2.2 ≤ x.1.2.2))) (some false)) (some false)) (some false)
theorem F222_G (lf : Nat) (x : ((ByteArray × (Int × Int)) × (ByteArray × (Int × Int)))) : F222 Tryz.prog lf x = G222 lf x := (F222_eq lf x.1.1 x.1.2.1 x.1.2.2 x.2.1 x.2.2.1 x.2.2.2).trans (by
  unfold G222
  (try simp only [agree_self, Lib.toList_data]); first | done | rfl)
noncomputable def G173 (lf : Nat) (x : ((ByteArray × (Yf × Yr)) × Yf)) : Option (Bool) :=
  cond (!(decide ((x.1.2.1.length : Int) = (x.2.length : Int)))) (some false) (iter lf (fun y8 : Int => cond (decide (y8 < (x.1.2.1.length : Int))) (((getI x.1.2.1 y8)).bind fun r9 => ((getI x.2 y8)).bind fun r10 => ((G222 lf ((r9.1, (r9.2.1, r9.2.2)), (r10.1, (r10.2.1, r10.2.2))))).bind fun r11 => cond (!r11) (some (.inr false)) (some (.inl (w64 (y8 + (1 : Int)))))) (some (.inr true))) (0 : Int))
theorem F173_G (lf : Nat) (x : ((ByteArray × (Yf × Yr)) × Yf)) : F173 Tryz.prog lf x = G173 lf x := (F173_eq lf x.1.1 x.1.2.1 x.1.2.2 x.2).trans (by
  unfold G173
  (try simp only [F222_G, agree_self, Lib.toList_data]); first | done | rfl)
end Go.K
