/-
  Steps of a walk over an abstract frame: the frame is known by a list of slots, quiet operations are run by the model's own functions with the loads answered ahead, and regions that draw their order are walked in one order. Program-independent. No condition.
-/
import Derived.OrdersHeld
import Derived.Test.YtlmgjjmighajdaaSl
set_option linter.unusedVariables false
namespace Go.Sx
open Go.Sl

/-! ### Running what only reads -/
/-- A run whose loads are answered out of a list; what was asked is told. -/
def runO {α : Type} (P : Program) : Sem α → List Value → Option (α × List (Addr × Value) × List Value)
  | .pure a, os => some (a, [], os)
  | .load _ a k, os => match os with
    | [] => none
    | v :: os => match runO P (k v) os with
      | some (x, rs, os') => some (x, (a, v) :: rs, os')
      | none => none
  | .program k, os => runO P (k P) os
  | .mark _ k, os => runO P k os
  | _, _ => none

theorem runO_sound {α : Type} {P : Program} {w : World} : ∀ (s : Sem α) {os : List Value} {x : α} {rs : List (Addr × Value)} {os' : List Value},
    runO P s os = some (x, rs, os') → (∀ p ∈ rs, w.cell? p.1 = some p.2) → s.run P w = .ok x w := by
  intro s
  induction s with
  | pure a => intro os x rs os' h _; simp only [runO, Option.some.injEq, Prod.mk.injEq] at h; rw [h.1.symm]; rfl
  | load m a k ih =>
    intro os x rs os' h hr
    cases os with
    | nil => simp [runO] at h
    | cons v os =>
      simp only [runO] at h
      cases hk : runO P (k v) os with
      | none => rw [hk] at h; simp at h
      | some t =>
        obtain ⟨x', rs', os''⟩ := t
        rw [hk] at h
        simp only [Option.some.injEq, Prod.mk.injEq] at h
        obtain ⟨rfl, rfl, rfl⟩ := h
        have h1 : w.cell? a = some v := hr (a, v) (by simp)
        show Sem.run P (.load m a k) w = _
        simp only [Sem.run, h1]
        exact ih v hk fun p hp => hr p (by simp [hp])
  | program k ih => intro os x rs os' h hr; exact ih P h hr
  | mark m k ih => intro os x rs os' h hr; exact ih h hr
  | _ => intro os x rs os' h; simp [runO] at h

/-! ### Frames by a list of slots -/
abbrev FL := List (Nat × Value)
def look : FL → Nat → Option Value
  | [], _ => none
  | (k, v) :: r, n => bif Nat.beq k n then some v else look r n
def ev (fl : FL) : Operand → Value
  | .tmp t => (look fl t).getD undef
  | .const v => v
  | .global g => .pointer (some ⟨g, 0, none⟩)
  | .func f => .func (.func f) #[] #[]
def putF (fl : FL) : Option Nat → Value → FL
  | none, _ => fl
  | some d, v => (d, v) :: fl
def keepF (fl : FL) : List Nat → Option FL
  | [] => some []
  | k :: ks => match look fl k, keepF fl ks with
    | some v, some r => some ((k, v) :: r)
    | _, _ => none

def marks (ds : List Nat) : List Deferred := ds.map fun D => { target := .collected D, args := #[] }
structure Fr (a : Act) (N : Nat) (fl : FL) (ds : List Nat := []) : Prop where
  size : a.tmps.size = N
  defers : a.defers = marks ds
  look : ∀ t v, look fl t = some v → a.tmps[t]? = some v

variable {a : Act} {N : Nat} {fl : FL} {ds : List Nat}

theorem Fr.getD (hf : Fr a N fl ds) {t : Nat} {v : Value} (h : Sx.look fl t = some v) : a.tmps.getD t undef = v := by
  have := hf.look t v h
  rw [Array.getD_eq_getD_getElem?, this]
  rfl

theorem look_keep {fl : FL} : ∀ {ks : List Nat} {r : FL}, keepF fl ks = some r → ∀ t v, look r t = some v → look fl t = some v
  | [], r, h, t, v, hl => by simp only [keepF, Option.some.injEq] at h; subst h; simp [look] at hl
  | k :: ks, r, h, t, v, hl => by
    simp only [keepF] at h
    cases h1 : look fl k with
    | none => rw [h1] at h; simp at h
    | some u =>
      cases h2 : keepF fl ks with
      | none => rw [h1, h2] at h; simp at h
      | some r' =>
        rw [h1, h2] at h
        simp only [Option.some.injEq] at h
        subst h
        simp only [look] at hl
        cases hb : Nat.beq k t with
        | true => rw [hb] at hl; simp only [cond_true, Option.some.injEq] at hl; have := Nat.eq_of_beq_eq_true hb; subst this; rw [h1, hl]
        | false => rw [hb] at hl; exact look_keep h2 t v hl

theorem Fr.keep (hf : Fr a N fl ds) {ks : List Nat} {r : FL} (h : keepF fl ks = some r) : Fr a N r ds :=
  ⟨hf.size, hf.defers, fun t v hl => hf.look t v (look_keep h t v hl)⟩

theorem Fr.put (hf : Fr a N fl ds) {d : Option Nat} (hd : (match d with | some d => Nat.blt d N | none => true) = true) (v : Value) : Fr (a.put d v) N (putF fl d v) ds := by
  cases d with
  | none => exact hf
  | some d =>
    have hlt : d < N := by simpa [Nat.blt_eq] using hd
    refine ⟨by simp [Act.put, hf.size], by simp [Act.put, hf.defers], fun t u hl => ?_⟩
    simp only [putF, Sx.look] at hl
    simp only [Act.put]
    cases hb : Nat.beq d t with
    | true =>
      rw [hb] at hl
      have := Nat.eq_of_beq_eq_true hb
      subst this
      simp only [cond_true, Option.some.injEq] at hl
      subst hl
      simp [hf.size, hlt]
    | false =>
      rw [hb] at hl
      have hne : d ≠ t := Nat.ne_of_beq_eq_false hb
      rw [Array.getElem?_setIfInBounds_ne hne]
      exact hf.look t u hl

def knownX (fl : FL) : Operand → Bool
  | .tmp t => (look fl t).isSome
  | _ => true
def known (fl : FL) (o : Oper) : Bool := o.op.operands.toList.all (knownX fl) && (match o.op with | .select .. => false | _ => true)

theorem Fr.eval (hf : Fr a N fl ds) {x : Operand} (h : knownX fl x = true) : a.eval x = ev fl x := by
  cases x with
  | tmp t =>
    simp only [knownX] at h
    cases hl : Sx.look fl t with
    | none => rw [hl] at h; cases h
    | some v => simp only [Act.eval, ev, hl, Option.getD_some]; exact hf.getD hl
  | _ => rfl

theorem known_noSelect {o : Oper} (h : known fl o = true) : ∀ cs b, o.op ≠ .select cs b := by
  intro cs b e
  simp [known, e] at h

theorem Fr.exec (hf : Fr a N fl ds) {o : Oper} (h : known fl o = true) : execOp a.eval o = execOp (ev fl) o := by
  refine execOp_congr o (known_noSelect h) fun x hx => hf.eval ?_
  simp only [known, Bool.and_eq_true, List.all_eq_true] at h
  exact h.1 x (by simpa using hx)

/-- Is the operation wanted? (none: the list does not say) -/
def wantedF (ops : Array Oper) (fl : FL) (o : Oper) : Option Bool :=
  match o.guard with
  | none => some true
  | some (j, b) => match (ops[j]?).bind (·.dst) with
    | none => none
    | some d => match look fl d with
      | none => none
      | some (.bool c) => some (some c == some b)
      | some _ => some false

theorem wantedF_sound (hf : Fr a N fl ds) {ops : Array Oper} {o : Oper} {b : Bool} (h : wantedF ops fl o = some b) : Region.wanted o (yielded ops a.tmps) = b := by
  unfold wantedF at h
  unfold Region.wanted
  cases hg : o.guard with
  | none => rw [hg] at h; simpa using h
  | some g =>
    obtain ⟨j, c⟩ := g
    rw [hg] at h
    simp only at h ⊢
    unfold yielded
    cases hd : (ops[j]?).bind (·.dst) with
    | none => rw [hd] at h; simp at h
    | some d =>
      rw [hd] at h
      simp only at h
      cases hl : Sx.look fl d with
      | none => rw [hl] at h; simp at h
      | some v =>
        rw [hl] at h
        have := hf.look d v hl
        simp only [Option.bind_some, this]
        cases v <;> simp_all

/-! ### Quiet operations -/
/-- What an operation asks of the world and of the numbers. -/
inductive Obl where
  | cell (a : Addr) (v : Value)
  | prop (p : Prop)

inductive HA (w : World) : List Obl → Prop
  | nil : HA w []
  | cell {a : Addr} {v : Value} {l : List Obl} : w.cell? a = some v → HA w l → HA w (.cell a v :: l)
  | prop {p : Prop} {l : List Obl} : p → HA w l → HA w (.prop p :: l)

theorem HA.left {w : World} : ∀ {l m : List Obl}, HA w (l ++ m) → HA w l
  | [], _, _ => .nil
  | .cell _ _ :: _, _, h => by cases h with | cell e h => exact .cell e (HA.left h)
  | .prop _ :: _, _, h => by cases h with | prop e h => exact .prop e (HA.left h)
theorem HA.right {w : World} : ∀ {l m : List Obl}, HA w (l ++ m) → HA w m
  | [], _, h => h
  | .cell _ _ :: _, _, h => by cases h with | cell _ h => exact HA.right h
  | .prop _ :: _, _, h => by cases h with | prop _ h => exact HA.right h
theorem HA.app {w : World} : ∀ {l m : List Obl}, HA w l → HA w m → HA w (l ++ m)
  | [], _, _, k => k
  | .cell _ _ :: _, _, h, k => by cases h with | cell e h => exact .cell e (HA.app h k)
  | .prop _ :: _, _, h, k => by cases h with | prop e h => exact .prop e (HA.app h k)

def cellsObl : List (Addr × Value) → List Obl
  | [] => []
  | (a, v) :: l => .cell a v :: cellsObl l
theorem cellsObl_sound {w : World} : ∀ {rs : List (Addr × Value)}, HA w (cellsObl rs) → ∀ p ∈ rs, w.cell? p.1 = some p.2
  | [], _, p, hp => by cases hp
  | (a, v) :: l, h, p, hp => by
    simp only [cellsObl] at h
    cases h with
    | cell e h =>
      cases hp with
      | head => exact e
      | tail _ hp => exact cellsObl_sound h p hp

/-- Are two structs of plain fields equal? -/
def eqFl (P : Program) (xs ys : Array Value) : List Field → Option Bool
  | [] => some true
  | f :: fs => if f.name ≠ "_" then
      match P.underlying f.type, xs[f.offset]?, ys[f.offset]?, eqFl P xs ys fs with
      | some (.int .i64), some (.int .i64 a), some (.int .i64 b), some r => some ((a == b) && r)
      | some .bool, some (.bool a), some (.bool b), some r => some ((a == b) && r)
      | _, _, _, _ => none
    else none
def eqAgg (P : Program) (t : TypeId) (xs ys : Array Value) : Option Bool :=
  match P.underlying t with
  | some (.struct fs) => bif (!P.stoodInHeld t && !P.eqGuardType P.depth t) then eqFl P xs ys fs.toList else none
  | _ => none

theorem eqFl_sound {P : Program} {w : World} {xs ys : Array Value} : ∀ {fs : List Field} {b : Bool}, eqFl P xs ys fs = some b → (Op.eqFields 9999 xs ys fs).run P w = .ok b w
  | [], b, h => by simp only [eqFl, Option.some.injEq] at h; subst h; rfl
  | f :: fs, b, h => by
    simp only [eqFl] at h
    split at h
    · rename_i hn
      split at h
      · rename_i a c r hu hx hy hr
        simp only [Option.some.injEq] at h
        subst h
        have h1 := run_equalIn_int (P := P) w 9998 f.type .i64 .i64 a c hu
        simp only [Nat.reduceAdd] at h1
        simp only [Op.eqFields, hn, ne_eq, not_false_eq_true, if_true, part, isAgg, Sem.run_bind, run_underlying hu, Result.andThen_ok, Sem.run_pure, hx, hy, h1, Bool.false_eq_true, if_false]
        cases hac : (a == c)
        · simp
        · simp [eqFl_sound hr]
      · rename_i a c r hu hx hy hr
        simp only [Option.some.injEq] at h
        subst h
        have h1 := run_equalIn_bool' (P := P) w 9998 f.type a c hu
        simp only [Nat.reduceAdd] at h1
        simp only [Op.eqFields, hn, ne_eq, not_false_eq_true, if_true, part, isAgg, Sem.run_bind, run_underlying hu, Result.andThen_ok, Sem.run_pure, hx, hy, h1, Bool.false_eq_true, if_false]
        cases hac : (a == c)
        · simp
        · simp [eqFl_sound hr]
      · cases h
    · cases h

theorem eqAgg_sound {P : Program} {w : World} {t : TypeId} {xs ys : Array Value} {b : Bool} (h : eqAgg P t xs ys = some b) :
    P.eqGuardType P.depth t = false ∧ (Op.equalIn 10000 t (.agg xs) (.agg ys)).run P w = .ok b w := by
  unfold eqAgg at h
  split at h
  · rename_i fs hu
    cases hc : (!P.stoodInHeld t && !P.eqGuardType P.depth t) with
    | false => rw [hc] at h; simp at h
    | true =>
      rw [hc] at h
      simp only [cond_true] at h
      simp only [Bool.and_eq_true, Bool.not_eq_true'] at hc
      have hf : P.fieldsOf t = fs := by simp [Program.fieldsOf, hu]
      have h1 := run_equalIn_struct (P := P) w 9999 t xs ys (by rw [hf]; exact hu) hc.1
      refine ⟨hc.2, ?_⟩
      simp only [Nat.reduceAdd] at h1
      rw [h1, hf]
      exact eqFl_sound h
  · cases h

def opG (P : Program) (ρ : Operand → Value) (o : Oper) (os : List Value) : Option (Value × List Obl × List Value) :=
  match runO P (execOp ρ o) os with
  | some (.value v, rs, os') => some (v, cellsObl rs, os')
  | _ => none

/-- Where a slice begins behind a slice expression. -/
def subO (o : Option Addr) (cap lo size : Nat) : Option Addr := if cap = lo then o else o.map (·.add (lo * size))
def bndV (d : Nat) : Option Value → Option Int
  | none => some d
  | some (.int _ i) => some i
  | _ => none

theorem run_subO {P : Program} {w : World} {t elem : TypeId} {inf : TypeInfo} {o : Option Addr} {len cap : Nat} {lo hi : Option Value} {l h : Int}
    (hu : P.underlying t = some (.slice elem)) (hi' : P.info? elem = some inf) (hl : bndV 0 lo = some l) (hh : bndV len hi = some h) (hb : 0 ≤ l ∧ l ≤ h ∧ h ≤ (cap : Int) ∧ len ≤ cap) :
    (Instr.sliceAt t (.slice o len cap) lo hi none).run P w = .ok (.slice (subO o cap l.toNat inf.size) (h.toNat - l.toNat) (cap - l.toNat)) w := by
  obtain ⟨h0, h1, h2, h3⟩ := hb
  have he : P.elem t = elem := by simp [Program.elem, hu]
  have hu' : P.underlying t = some (.slice (P.elem t)) := by rw [he]; exact hu
  have hs : (sizeOf (P.elem t)).run P w = .ok inf.size w := by rw [he]; simp [sizeOf, typeInfo, hi']
  rw [run_sliceAt_slice w t _ lo hi none hu']
  have eh : (h.toNat : Int) = h := Int.toNat_of_nonneg (by omega)
  cases lo with
  | none =>
    simp only [bndV, Option.some.injEq] at hl
    subst hl
    cases hi with
    | none =>
      simp only [bndV, Option.some.injEq] at hh
      subst hh
      rw [run_slice_all w t o len cap hu', hs]
      simp [sliced, subO, Result.andThen]
    | some v =>
      cases v with
      | int k i =>
        simp only [bndV, Option.some.injEq] at hh
        subst hh
        rw [run_slice_h w t o len cap hu' k i (by omega) h2, hs]
        simp [sliced, subO, Result.andThen]
      | _ => simp [bndV] at hh
  | some u =>
    cases u with
    | int k' j =>
      simp only [bndV, Option.some.injEq] at hl
      subst hl
      cases hi with
      | none =>
        simp only [bndV, Option.some.injEq] at hh
        subst hh
        rw [run_slice_l w t o len cap hu' k' j h0 h1, hs]
        simp [sliced, subO, Result.andThen]
      | some v =>
        cases v with
        | int k i =>
          simp only [bndV, Option.some.injEq] at hh
          subst hh
          rw [run_slice_lh w t o len cap hu' k' k j i h0 h1 h2, hs]
          simp [sliced, subO, Result.andThen]
        | _ => simp [bndV] at hh
    | _ => simp [bndV] at hl

/-- An operation that only reads: its value, what it asks, the answers that are left. -/
def opQ (P : Program) (ρ : Operand → Value) (o : Oper) (os : List Value) : Option (Value × List Obl × List Value) :=
  match o.op with
  | .indexAddr t x ix => match ρ ix, P.underlying t, ρ x with
    | .int _ i, some (.array len elem), .pointer (some a) => match P.info? elem with
      | some inf => some (.pointer (some (a.add (i.toNat * inf.size))), [.prop (0 ≤ i ∧ i < len)], os)
      | none => none
    | .int _ i, some (.slice elem), .slice o len _ => match P.info? elem, os with
      | some inf, .pointer (some a) :: os' => some (.pointer (some (a.add (i.toNat * inf.size))), [.prop (o = some a), .prop (0 ≤ i ∧ i < len)], os')
      | _, _ => none
    | _, _, _ => none
  | .slice t x lo hi none => match P.underlying t, ρ x, bndV 0 (lo.map ρ), os with
    | some (.slice elem), .slice o len cap, some l, v :: os' => match P.info? elem, bndV len (hi.map ρ) with
      | some inf, some h => some (v, [.prop (v = .slice (subO o cap l.toNat inf.size) (h.toNat - l.toNat) (cap - l.toNat)), .prop (0 ≤ l ∧ l ≤ h ∧ h ≤ (cap : Int) ∧ len ≤ cap)], os')
      | _, _ => none
    | _, _, _, _ => none
  | .index t x ix => match ρ ix, P.underlying t, ρ x, os with
    | .int _ i, some (.array len elem), .agg cs, v :: os' => match P.info? elem, runO P (isAgg elem) [] with
      | some inf, some (false, [], []) => some (v, [.prop (0 ≤ i ∧ i < len), .prop (cs[i.toNat * inf.size]? = some v)], os')
      | _, _ => none
    | _, _, _, _ => none
  | .binOp .quo _ x y _ => match ρ x, ρ y with
    | .int .i64 m, .int .i64 n => some (.int .i64 (IntKind.i64.wrap (m.tdiv n)), [.prop (n ≠ 0)], os)
    | _, _ => none
  | .binOp .rem _ x y _ => match ρ x, ρ y with
    | .int .i64 m, .int .i64 n => some (.int .i64 (m.tmod n), [.prop (n ≠ 0)], os)
    | _, _ => none
  | .binOp .eql t x y _ => match ρ x, ρ y with
    | .agg xs, .agg ys => match eqAgg P t xs ys with
      | some b => some (.bool b, [], os)
      | none => none
    | _, _ => opG P ρ o os
  | .binOp .neq t x y _ => match ρ x, ρ y with
    | .agg xs, .agg ys => match eqAgg P t xs ys with
      | some b => some (.bool (!b), [], os)
      | none => none
    | _, _ => opG P ρ o os
  | _ => opG P ρ o os

theorem opG_sound {P : Program} {ρ : Operand → Value} {o : Oper} {os : List Value} {v : Value} {obs : List Obl} {os' : List Value} {w : World}
    (h : opG P ρ o os = some (v, obs, os')) (hob : HA w obs) : (execOp ρ o).run P w = .ok (.value v) w := by
  unfold opG at h
  split at h
  · rename_i u rs os'' hr
    simp only [Option.some.injEq, Prod.mk.injEq] at h
    obtain ⟨rfl, rfl, rfl⟩ := h
    exact runO_sound _ hr (cellsObl_sound hob)
  · cases h

theorem opQ_sound {P : Program} {ρ : Operand → Value} {o : Oper} {os : List Value} {v : Value} {obs : List Obl} {os' : List Value} {w : World}
    (h : opQ P ρ o os = some (v, obs, os')) (hob : HA w obs) : (execOp ρ o).run P w = .ok (.value v) w := by
  unfold opQ at h
  split at h
  · rename_i t x ix ho
    split at h
    · rename_i k i len elem a hi hu hx
      split at h
      · rename_i inf hinf
        simp only [Option.some.injEq, Prod.mk.injEq] at h
        obtain ⟨rfl, rfl, rfl⟩ := h
        cases hob with
        | prop hp _ => simp [execOp, ho, Instr.indexAt, asIntOf, hi, hx, run_underlying hu, Instr.sureAddr, sizeOf, typeInfo, hinf, hp]
      · cases h
    · rename_i k i elem o len cap hi hu hx
      split at h
      · rename_i inf a os2 hinf
        simp only [Option.some.injEq, Prod.mk.injEq] at h
        obtain ⟨rfl, rfl, rfl⟩ := h
        cases hob with
        | prop ha hob =>
          cases hob with
          | prop hp _ => subst ha; simp [execOp, ho, Instr.indexAt, asIntOf, hi, hx, run_underlying hu, sizeOf, typeInfo, hinf, hp]
      · cases h
    · cases h
  · rename_i t x lo hi ho
    split at h
    · rename_i elem o len cap l v os2 hu hx hl
      split at h
      · rename_i inf h' hinf hh
        simp only [Option.some.injEq, Prod.mk.injEq] at h
        obtain ⟨rfl, rfl, rfl⟩ := h
        cases hob with
        | prop hv hob =>
          cases hob with
          | prop hp _ =>
            have := run_subO (P := P) (w := w) (o := o) hu hinf hl hh hp
            subst hv
            simp [execOp, ho, hx, this]
      · cases h
    · cases h
  · rename_i t x ix ho
    split at h
    · rename_i k i len elem cs v os2 hi hu hx
      split at h
      · rename_i inf hinf hagg
        simp only [Option.some.injEq, Prod.mk.injEq] at h
        obtain ⟨rfl, rfl, rfl⟩ := h
        cases hob with
        | prop hb hob =>
          cases hob with
          | prop hp _ =>
            have h1 : (isAgg elem).run P w = .ok false w := runO_sound _ hagg (by simp)
            simp [execOp, ho, Instr.index, asIntOf, hi, hx, run_underlying hu, sizeOf, typeInfo, hinf, hb, part, h1, hp]
      · cases h
    · cases h
  · rename_i t x y t' ho
    split at h
    · rename_i m n hm hn
      simp only [Option.some.injEq, Prod.mk.injEq] at h
      obtain ⟨rfl, rfl, rfl⟩ := h
      cases hob with
      | prop hp _ => simp [execOp, ho, hm, hn, binOp, eqGuard, Op.intDiv, hp]
    · cases h
  · rename_i t x y t' ho
    split at h
    · rename_i m n hm hn
      simp only [Option.some.injEq, Prod.mk.injEq] at h
      obtain ⟨rfl, rfl, rfl⟩ := h
      cases hob with
      | prop hp _ => simp [execOp, ho, hm, hn, binOp, eqGuard, Op.intDiv, hp]
    · cases h
  · rename_i t x y t' ho
    split at h
    · rename_i xs ys hx hy
      split at h
      · rename_i b hb
        simp only [Option.some.injEq, Prod.mk.injEq] at h
        obtain ⟨rfl, rfl, rfl⟩ := h
        obtain ⟨hg, he⟩ := eqAgg_sound (w := w) hb
        simp only [execOp, ho, hx, hy, Sem.run_bind, run_eqGuard_agg w .eql t x y xs ys hg, Result.andThen_ok, run_eql_struct, he, Sem.run_pure]
      · cases h
    · exact opG_sound h hob
  · rename_i t x y t' ho
    split at h
    · rename_i xs ys hx hy
      split at h
      · rename_i b hb
        simp only [Option.some.injEq, Prod.mk.injEq] at h
        obtain ⟨rfl, rfl, rfl⟩ := h
        obtain ⟨hg, he⟩ := eqAgg_sound (w := w) hb
        simp only [execOp, ho, hx, hy, Sem.run_bind, run_eqGuard_agg w .neq t x y xs ys hg, Result.andThen_ok, run_neq_struct, he, Sem.run_pure]
      · cases h
    · exact opG_sound h hob
  · exact opG_sound h hob

/-! ### A plan of a region: the operations in one order; 'true': taken first (it only reads) -/
/-- Several quiet operations, those of the indices given. -/
def evI (P : Program) (R : Array Oper) (N : Nat) : List Nat → FL → List Value → Option (FL × List Obl × List Value)
  | [], fl, os => some (fl, [], os)
  | k :: ks, fl, os => match R[k]? with
    | none => none
    | some o => bif (match o.dst with | some d => Nat.blt d N | none => true) then
      match wantedF R fl o with
      | none => none
      | some false => evI P R N ks (putF fl o.dst undef) os
      | some true => bif known fl o then
          match opQ P (ev fl) o os with
          | none => none
          | some (v, obs, os') => match evI P R N ks (putF fl o.dst v) os' with
            | none => none
            | some (fl', obs', os'') => some (fl', obs ++ obs', os'')
        else none
      else none

/-- ... and what is kept. -/
def evK (P : Program) (R : Array Oper) (N : Nat) (ks : List Nat) (fl : FL) (os : List Value) (keep : List Nat) : Option (FL × List Obl) :=
  match evI P R N ks fl os with
  | some (fl', obs, []) => match keepF fl' keep with
    | some r => some (r, obs)
    | none => none
  | _ => none

/-! ### What must come ahead -/
def depL (md : Region.Mode) (o : Oper) : List Nat := (o.after.toList.filter (Region.binds md)).map (·.on)
/-- All that must come ahead. -/
def closL (md : Region.Mode) (ops : Array Oper) : Nat → List Nat → List Nat → List Nat
  | 0, _, done => done
  | _ + 1, [], done => done
  | f + 1, k :: todo, done => if done.contains k then closL md ops f todo done else match ops[k]? with
    | none => closL md ops f todo done
    | some o => closL md ops f (depL md o ++ todo) (k :: done)
def aheadL (md : Region.Mode) (ops : Array Oper) (y : Nat) : List Nat := match ops[y]? with
  | none => []
  | some o => closL md ops (ops.size * ops.size + ops.size) (depL md o) []

def Closed (md : Region.Mode) (ops : Array Oper) (listed : Array Bool) : Prop :=
  ∀ k o, ops[k]? = some o → listed.getD k false = true → ∀ e ∈ o.after, Region.binds md e = true → listed.getD e.on false = true

theorem depL_mem {md : Region.Mode} {o : Oper} {k : Nat} : k ∈ depL md o ↔ ∃ e ∈ o.after, Region.binds md e = true ∧ e.on = k := by
  unfold depL
  simp only [List.mem_map, List.mem_filter, Array.mem_toList_iff]
  exact ⟨fun ⟨e, ⟨h1, h2⟩, h3⟩ => ⟨e, h1, h2, h3⟩, fun ⟨e, h1, h2, h3⟩ => ⟨e, ⟨h1, h2⟩, h3⟩⟩

theorem closL_listed {md : Region.Mode} {R : Array Oper} {listed : Array Bool} (hc : Closed md R listed) : ∀ (f : Nat) (todo done : List Nat), (∀ k ∈ todo, listed.getD k false = true) → (∀ k ∈ done, listed.getD k false = true) →
    ∀ k ∈ closL md R f todo done, listed.getD k false = true
  | 0, _, _, _, hd => hd
  | _ + 1, [], _, _, hd => hd
  | f + 1, k :: todo, done, ht, hd => by
    unfold closL
    split
    · exact closL_listed hc f todo done (fun j hj => ht j (List.mem_cons_of_mem _ hj)) hd
    · cases hk : R[k]? with
      | none => exact closL_listed hc f todo done (fun j hj => ht j (List.mem_cons_of_mem _ hj)) hd
      | some o =>
        have hl := ht k (List.mem_cons_self ..)
        refine closL_listed hc f (depL md o ++ todo) (k :: done) (fun j hj => ?_) (fun j hj => ?_)
        · rcases List.mem_append.1 hj with h1 | h1
          · obtain ⟨e, he, hb, rfl⟩ := depL_mem.1 h1
            exact hc k o hk hl e he hb
          · exact ht j (List.mem_cons_of_mem _ h1)
        · rcases List.mem_cons.1 hj with h1 | h1
          · subst h1; exact hl
          · exact hd j h1

theorem reach_listed {md : Region.Mode} {R : Array Oper} {listed : Array Bool} (hc : Closed md R listed) {i y : Nat} {o : Oper} (ho : R[y]? = some o) (hall : ∀ e ∈ o.after, Region.binds md e = true → listed.getD e.on false = true)
    (h : (aheadL md R y).contains i = true) : listed.getD i false = true := by
  unfold aheadL at h
  rw [ho] at h
  simp only at h
  refine closL_listed hc _ _ _ (fun k hk => ?_) (fun k hk => absurd hk (List.not_mem_nil)) i (List.contains_iff_mem.1 h)
  obtain ⟨e, he, hb, rfl⟩ := depL_mem.1 hk
  exact hall e he hb

theorem Closed.set {md : Region.Mode} {R : Array Oper} {listed : Array Bool} (hc : Closed md R listed) {j : Nat} (hj : j ∈ Region.ready md R listed) : Closed md R (listed.setIfInBounds j true) := by
  intro k o hk hl e he hb
  obtain ⟨_, oj, hoj, hall⟩ := mem_ready.1 hj
  by_cases hkj : k = j
  · subst hkj
    rw [hoj] at hk
    cases hk
    exact getD_set_true (hall e he hb)
  · rw [getD_set_ne false (Ne.symm hkj)] at hl
    exact getD_set_true (hc k o hk hl e he hb)

theorem Closed.none {md : Region.Mode} {R : Array Oper} (n : Nat) : Closed md R (Array.replicate n false) := fun k o hk hl => by
  exfalso
  rw [Array.getD_eq_getD_getElem?, Array.getElem?_replicate] at hl
  split at hl <;> cases hl

/-- All of m wait for i. -/
def lateB (md : Region.Mode) (ops : Array Oper) (m : List Nat) (i : Nat) : Bool := m.all fun j => (aheadL md ops j).contains i

/-- The walk of a plan; m: the operation that waits for all others (if there is none: any number beyond them). -/
def wpPlan (P : Program) (ops : Array Oper) (m : List Nat) (S : World → Prop) (K : Act → World → Prop) : List (Nat × Bool) → Act → World → Prop
  | [], a, w => K a w
  | (i, true) :: rest, a, w => ∃ o v, ops[i]? = some o ∧ ((YieldsIf P ops S o v a ∧ S w ∧ lateB .any ops m i = true) ∨ YieldsIf P ops (fun _ => True) o v a) ∧ wpPlan P ops m S K rest (a.put o.dst v) w
  | (i, false) :: rest, a, w => wpOp P ops (fun _ _ _ => False) i (fun a' w' => (m.contains i = false → S w') ∧ wpPlan P ops m S K rest a' w') a w

theorem wpOp_post {P : Program} {ops : Array Oper} {Q Q' : Exit → Act → World → Prop} (hq : ∀ e a w, Q e a w → Q' e a w) {i : Nat} {K : Act → World → Prop} {a : Act} {w : World} (h : wpOp P ops Q i K a w) : wpOp P ops Q' i K a w := by
  have hl : LetsOut Q → LetsOut Q' := fun ⟨a, w, h⟩ => ⟨a, w, hq _ _ _ h⟩
  unfold wpOp at *
  split
  · rename_i ho; simp only [ho] at h; exact h
  · rename_i o ho
    simp only [ho] at h
    split
    · rename_i hw
      simp only [hw, if_true] at h
      refine h.imp (fun h => ?_) (fun ⟨h1, h2⟩ => ⟨h1, hl h2⟩)
      unfold Oper.wp at *
      generalize (execOp a.eval o).run P w = r at *
      cases r with
      | ok n w' =>
        cases n <;> simp only [Oper.upon] at h ⊢ <;>
          first
            | exact h
            | exact Calls.mono h (fun e w'' he => by cases e <;> first | exact he | exact hq _ _ _ he | exact hl he)
      | halt x w' => cases x <;> simp only [Oper.upon] at h ⊢ <;> exact hq _ _ _ h
    · rename_i hw; simp only [hw] at h; exact h

def allFlag (b : Bool) (pl : List (Nat × Bool)) : Bool := pl.all (fun p => p.2 == b)

/-- Quiet operations in a plan where nothing is taken first. -/
theorem wpPlan_quiet {P : Program} {R : Array Oper} {m : List Nat} {S : World → Prop} {K : Act → World → Prop} {w : World} : ∀ (pl : List (Nat × Bool)) (hSw : ∀ p ∈ pl, m.contains p.1 = false → S w) {a : Act} {fl : FL} {os : List Value} {fl' : FL} {obs : List Obl} {os' : List Value} {rest : List (Nat × Bool)},
    allFlag false pl = true → Fr a N fl ds → evI P R N (pl.map (·.1)) fl os = some (fl', obs, os') → HA w obs →
    (∀ a', Fr a' N fl' ds → wpPlan P R m S K rest a' w) → wpPlan P R m S K (pl ++ rest) a w
  | [], _, a, fl, os, fl', obs, os', rest, _, hf, he, _, k => by
    simp only [List.map_nil, evI, Option.some.injEq, Prod.mk.injEq] at he
    obtain ⟨rfl, _, _⟩ := he
    exact k a hf
  | (i, b) :: pl, hSw, a, fl, os, fl', obs, os', rest, hfl, hf, he, hob, k => by
    simp only [allFlag, List.all_cons, Bool.and_eq_true, beq_iff_eq] at hfl
    obtain ⟨hb, hfl⟩ := hfl
    subst hb
    simp only [List.map_cons, evI] at he
    show wpOp P R _ i (fun a' w' => (m.contains i = false → S w') ∧ wpPlan P R m S K (pl ++ rest) a' w') a w
    unfold wpOp
    cases hR : R[i]? with
    | none => rw [hR] at he; simp at he
    | some o =>
      rw [hR] at he
      simp only at he ⊢
      cases hd : (match o.dst with | some d => Nat.blt d N | none => true) with
      | false => rw [hd] at he; simp at he
      | true =>
        rw [hd] at he
        simp only [cond_true] at he
        cases hw : wantedF R fl o with
        | none => rw [hw] at he; simp at he
        | some c =>
          rw [hw] at he
          rw [wantedF_sound hf hw]
          cases c with
          | false =>
            simp only at he
            exact ⟨hSw _ (List.mem_cons_self ..), wpPlan_quiet pl (fun p hp => hSw p (List.mem_cons_of_mem _ hp)) hfl (hf.put hd undef) he hob k⟩
          | true =>
            simp only at he
            cases hk : known fl o with
            | false => rw [hk] at he; simp at he
            | true =>
              rw [hk] at he
              simp only [cond_true] at he
              cases hq : opQ P (ev fl) o os with
              | none => rw [hq] at he; simp at he
              | some t =>
                obtain ⟨v, obs1, os1⟩ := t
                rw [hq] at he
                simp only at he
                cases hr : evI P R N (pl.map (·.1)) (putF fl o.dst v) os1 with
                | none => rw [hr] at he; simp at he
                | some t' =>
                  obtain ⟨fl2, obs2, os2⟩ := t'
                  rw [hr] at he
                  simp only [Option.some.injEq, Prod.mk.injEq] at he
                  obtain ⟨rfl, rfl, rfl⟩ := he
                  refine .inl ?_
                  unfold Oper.wp
                  rw [hf.exec hk, opQ_sound hq hob.left]
                  exact ⟨hSw _ (List.mem_cons_self ..), wpPlan_quiet pl (fun p hp => hSw p (List.mem_cons_of_mem _ hp)) hfl (hf.put hd v) hr hob.right k⟩

/-- Quiet operations that are taken first. -/
theorem wpPlan_first {P : Program} {R : Array Oper} {m : List Nat} {S : World → Prop} {K : Act → World → Prop} {w : World} (hSw : S w) : ∀ (pl : List (Nat × Bool)) (hlt : (pl.all fun p => lateB .any R m p.1) = true) {a : Act} {fl : FL} {os : List Value} {fl' : FL} {obs : List Obl} {os' : List Value} {rest : List (Nat × Bool)},
    allFlag true pl = true → Fr a N fl ds → evI P R N (pl.map (·.1)) fl os = some (fl', obs, os') → (∀ w', S w' → HA w' obs) →
    (∀ a', Fr a' N fl' ds → wpPlan P R m S K rest a' w) → wpPlan P R m S K (pl ++ rest) a w
  | [], _, a, fl, os, fl', obs, os', rest, _, hf, he, _, k => by
    simp only [List.map_nil, evI, Option.some.injEq, Prod.mk.injEq] at he
    obtain ⟨rfl, _, _⟩ := he
    exact k a hf
  | (i, b) :: pl, hlt, a, fl, os, fl', obs, os', rest, hfl, hf, he, hob, k => by
    simp only [allFlag, List.all_cons, Bool.and_eq_true, beq_iff_eq] at hfl
    obtain ⟨hb, hfl⟩ := hfl
    subst hb
    simp only [List.map_cons, evI] at he
    simp only [List.all_cons, Bool.and_eq_true] at hlt
    obtain ⟨hli, hlt⟩ := hlt
    show ∃ o v, R[i]? = some o ∧ ((YieldsIf P R S o v a ∧ S w ∧ lateB .any R m i = true) ∨ YieldsIf P R (fun _ => True) o v a) ∧ wpPlan P R m S K (pl ++ rest) (a.put o.dst v) w
    cases hR : R[i]? with
    | none => rw [hR] at he; simp at he
    | some o =>
      rw [hR] at he
      simp only at he
      cases hd : (match o.dst with | some d => Nat.blt d N | none => true) with
      | false => rw [hd] at he; simp at he
      | true =>
        rw [hd] at he
        simp only [cond_true] at he
        cases hw : wantedF R fl o with
        | none => rw [hw] at he; simp at he
        | some c =>
          rw [hw] at he
          have hwa := wantedF_sound hf hw
          cases c with
          | false =>
            simp only at he
            exact ⟨o, undef, rfl, .inl ⟨.inr ⟨hwa, rfl⟩, hSw, hli⟩, wpPlan_first hSw pl hlt hfl (hf.put hd undef) he hob k⟩
          | true =>
            simp only at he
            cases hk : known fl o with
            | false => rw [hk] at he; simp at he
            | true =>
              rw [hk] at he
              simp only [cond_true] at he
              cases hq : opQ P (ev fl) o os with
              | none => rw [hq] at he; simp at he
              | some t =>
                obtain ⟨v, obs1, os1⟩ := t
                rw [hq] at he
                simp only at he
                cases hr : evI P R N (pl.map (·.1)) (putF fl o.dst v) os1 with
                | none => rw [hr] at he; simp at he
                | some t' =>
                  obtain ⟨fl2, obs2, os2⟩ := t'
                  rw [hr] at he
                  simp only [Option.some.injEq, Prod.mk.injEq] at he
                  obtain ⟨rfl, rfl, rfl⟩ := he
                  refine ⟨o, v, rfl, .inl ⟨.inl ⟨hwa, fun w' hw' => ?_⟩, hSw, hli⟩, wpPlan_first hSw pl hlt hfl (hf.put hd v) hr (fun w' hw' => (hob w' hw').right) k⟩
                  rw [hf.exec hk]
                  exact opQ_sound hq (hob w' hw').left

/-- ... that look at no memory. -/
theorem wpPlan_firstP {P : Program} {R : Array Oper} {m : List Nat} {S : World → Prop} {K : Act → World → Prop} {w : World} : ∀ (pl : List (Nat × Bool)) {a : Act} {fl : FL} {os : List Value} {fl' : FL} {obs : List Obl} {os' : List Value} {rest : List (Nat × Bool)},
    allFlag true pl = true → Fr a N fl ds → evI P R N (pl.map (·.1)) fl os = some (fl', obs, os') → (∀ w', HA w' obs) →
    (∀ a', Fr a' N fl' ds → wpPlan P R m S K rest a' w) → wpPlan P R m S K (pl ++ rest) a w
  | [], a, fl, os, fl', obs, os', rest, _, hf, he, _, k => by
    simp only [List.map_nil, evI, Option.some.injEq, Prod.mk.injEq] at he
    obtain ⟨rfl, _, _⟩ := he
    exact k a hf
  | (i, b) :: pl, a, fl, os, fl', obs, os', rest, hfl, hf, he, hob, k => by
    simp only [allFlag, List.all_cons, Bool.and_eq_true, beq_iff_eq] at hfl
    obtain ⟨hb, hfl⟩ := hfl
    subst hb
    simp only [List.map_cons, evI] at he
    show ∃ o v, R[i]? = some o ∧ ((YieldsIf P R S o v a ∧ S w ∧ lateB .any R m i = true) ∨ YieldsIf P R (fun _ => True) o v a) ∧ wpPlan P R m S K (pl ++ rest) (a.put o.dst v) w
    cases hR : R[i]? with
    | none => rw [hR] at he; simp at he
    | some o =>
      rw [hR] at he
      simp only at he
      cases hd : (match o.dst with | some d => Nat.blt d N | none => true) with
      | false => rw [hd] at he; simp at he
      | true =>
        rw [hd] at he
        simp only [cond_true] at he
        cases hw : wantedF R fl o with
        | none => rw [hw] at he; simp at he
        | some c =>
          rw [hw] at he
          have hwa := wantedF_sound hf hw
          cases c with
          | false =>
            simp only at he
            exact ⟨o, undef, rfl, .inr (.inr ⟨hwa, rfl⟩), wpPlan_firstP pl hfl (hf.put hd undef) he hob k⟩
          | true =>
            simp only at he
            cases hk : known fl o with
            | false => rw [hk] at he; simp at he
            | true =>
              rw [hk] at he
              simp only [cond_true] at he
              cases hq : opQ P (ev fl) o os with
              | none => rw [hq] at he; simp at he
              | some t =>
                obtain ⟨v, obs1, os1⟩ := t
                rw [hq] at he
                simp only at he
                cases hr : evI P R N (pl.map (·.1)) (putF fl o.dst v) os1 with
                | none => rw [hr] at he; simp at he
                | some t' =>
                  obtain ⟨fl2, obs2, os2⟩ := t'
                  rw [hr] at he
                  simp only [Option.some.injEq, Prod.mk.injEq] at he
                  obtain ⟨rfl, rfl, rfl⟩ := he
                  refine ⟨o, v, rfl, .inr (.inl ⟨hwa, fun w' _ => ?_⟩), wpPlan_firstP pl hfl (hf.put hd v) hr (fun w' => (hob w').right) k⟩
                  rw [hf.exec hk]
                  exact opQ_sound hq (hob w').left

theorem evK_spec {P : Program} {R : Array Oper} {ks : List Nat} {fl : FL} {os : List Value} {keep : List Nat} {fl' : FL} {obs : List Obl}
    (h : evK P R N ks fl os keep = some (fl', obs)) : ∃ fl1, evI P R N ks fl os = some (fl1, obs, []) ∧ keepF fl1 keep = some fl' := by
  unfold evK at h
  split at h
  · rename_i fl1 obs1 he
    split at h
    · rename_i r hk
      simp only [Option.some.injEq, Prod.mk.injEq] at h
      obtain ⟨rfl, rfl⟩ := h
      exact ⟨fl1, he, hk⟩
    · cases h
  · cases h

/-- m quiet operations of a plan (nothing taken first). -/
theorem p_run {P : Program} {R : Array Oper} {m : List Nat} {S : World → Prop} {K : Act → World → Prop} {w : World} {pl : List (Nat × Bool)} (n : Nat) (os : List Value) (keep : List Nat) {fl' : FL} {obs : List Obl}
    (hSw : S w) (hf : Fr a N fl ds) (hfl : allFlag false (pl.take n) = true) (he : evK P R N ((pl.take n).map (·.1)) fl os keep = some (fl', obs)) (hob : HA w obs)
    (k : ∀ a', Fr a' N fl' ds → wpPlan P R m S K (pl.drop n) a' w) : wpPlan P R m S K pl a w := by
  obtain ⟨fl1, h1, h2⟩ := evK_spec he
  have := wpPlan_quiet (rest := pl.drop n) (pl.take n) (fun _ _ _ => hSw) hfl hf h1 hob fun a' hf' => k a' (hf'.keep h2)
  rwa [List.take_append_drop] at this

/-- ... of operations that wait for all that is taken first. -/
theorem p_runL {P : Program} {R : Array Oper} {m : List Nat} {S : World → Prop} {K : Act → World → Prop} {w : World} {pl : List (Nat × Bool)} (n : Nat) (os : List Value) (keep : List Nat) {fl' : FL} {obs : List Obl}
    (hm : ((pl.take n).all fun p => m.contains p.1) = true) (hf : Fr a N fl ds) (hfl : allFlag false (pl.take n) = true) (he : evK P R N ((pl.take n).map (·.1)) fl os keep = some (fl', obs)) (hob : HA w obs)
    (k : ∀ a', Fr a' N fl' ds → wpPlan P R m S K (pl.drop n) a' w) : wpPlan P R m S K pl a w := by
  obtain ⟨fl1, h1, h2⟩ := evK_spec he
  have := wpPlan_quiet (S := S) (m := m) (K := K) (rest := pl.drop n) (pl.take n) (fun p hp h0 => by have := List.all_eq_true.1 hm p hp; rw [this] at h0; cases h0) hfl hf h1 hob fun a' hf' => k a' (hf'.keep h2)
  rwa [List.take_append_drop] at this

/-- m quiet operations of a plan, taken first. -/
theorem p_first {P : Program} {R : Array Oper} {m : List Nat} {S : World → Prop} {K : Act → World → Prop} {w : World} {pl : List (Nat × Bool)} (n : Nat) (os : List Value) (keep : List Nat) {fl' : FL} {obs : List Obl}
    (hSw : S w) (hlt : ((pl.take n).all fun p => lateB .any R m p.1) = true) (hf : Fr a N fl ds) (hfl : allFlag true (pl.take n) = true) (he : evK P R N ((pl.take n).map (·.1)) fl os keep = some (fl', obs)) (hob : ∀ w', S w' → HA w' obs)
    (k : ∀ a', Fr a' N fl' ds → wpPlan P R m S K (pl.drop n) a' w) : wpPlan P R m S K pl a w := by
  obtain ⟨fl1, h1, h2⟩ := evK_spec he
  have := wpPlan_first (rest := pl.drop n) hSw (pl.take n) hlt hfl hf h1 hob fun a' hf' => k a' (hf'.keep h2)
  rwa [List.take_append_drop] at this

/-- m quiet operations of a plan, taken first, that look at no memory. -/
theorem p_firstP {P : Program} {R : Array Oper} {m : List Nat} {S : World → Prop} {K : Act → World → Prop} {w : World} {pl : List (Nat × Bool)} (n : Nat) (os : List Value) (keep : List Nat) {fl' : FL} {obs : List Obl}
    (hf : Fr a N fl ds) (hfl : allFlag true (pl.take n) = true) (he : evK P R N ((pl.take n).map (·.1)) fl os keep = some (fl', obs)) (hob : ∀ w', HA w' obs)
    (k : ∀ a', Fr a' N fl' ds → wpPlan P R m S K (pl.drop n) a' w) : wpPlan P R m S K pl a w := by
  obtain ⟨fl1, h1, h2⟩ := evK_spec he
  have := wpPlan_firstP (S := S) (m := m) (K := K) (rest := pl.drop n) (pl.take n) hfl hf h1 hob fun a' hf' => k a' (hf'.keep h2)
  rwa [List.take_append_drop] at this

/-! ### Regions that draw their order -/
/-- None of m is listed. -/
def noLate (m : List Nat) (listed : Array Bool) : Prop := ∀ k ∈ m, listed.getD k false = false

theorem noLate.unset {m : List Nat} {listed : Array Bool} {i : Nat} (h : noLate m (listed.setIfInBounds i true)) : noLate m listed := fun k hk => by
  cases hb : listed.getD k false with
  | false => rfl
  | true => have := h k hk; rw [getD_set_true hb] at this; cases this
theorem noLate.set {m : List Nat} {listed : Array Bool} {i : Nat} (h : noLate m listed) (hi : i ∉ m) : noLate m (listed.setIfInBounds i true) := fun k hk => by
  rw [getD_set_ne false (by rintro rfl; exact hi hk)]
  exact h k hk
theorem noLate.not_mem {m : List Nat} {listed : Array Bool} {i : Nat} (hi : i < listed.size) (h : noLate m (listed.setIfInBounds i true)) : i ∉ m := fun hm => by
  have := h i hm
  simp [Array.getD_eq_getD_getElem?, hi] at this

theorem unlisted_false {listed : Array Bool} {i : Nat} (h0 : listed.getD i true = false) : listed.getD i false = false := by
  rcases Nat.lt_or_ge i listed.size with h' | h'
  · simp [h'] at h0 ⊢; exact h0
  · simp [Array.getElem?_eq_none h'] at h0
theorem unlisted_lt {listed : Array Bool} {i : Nat} (h0 : listed.getD i true = false) : i < listed.size := by
  rcases Nat.lt_or_ge i listed.size with h' | h'
  · exact h'
  · simp [Array.getElem?_eq_none h'] at h0

def wpAnyK (P : Program) (md : Region.Mode) (ops : Array Oper) (Q : Exit → Act → World → Prop) (m : List Nat) (S : World → Prop) : Nat → Array Bool → Act → World → Prop
  | 0, listed, a, w => Region.ready md ops listed = [] ∧ Q .normal a w
  | fuel + 1, listed, a, w =>
    (Region.ready md ops listed = [] → Q .normal a w) ∧
    ∀ i ∈ Region.ready md ops listed, wpOp P ops Q i (fun a' w' => (noLate m (listed.setIfInBounds i true) → S w') ∧ wpAnyK P md ops Q m S fuel (listed.setIfInBounds i true) a' w') a w

theorem wpAny_of_K {P : Program} {md : Region.Mode} {ops : Array Oper} {Q : Exit → Act → World → Prop} {m : List Nat} {S : World → Prop} :
    ∀ (fuel : Nat) (listed : Array Bool) (a : Act) (w : World), wpAnyK P md ops Q m S fuel listed a w → wpAny P md ops Q fuel listed a w
  | 0, _, _, _, h => h
  | fuel + 1, _, _, _, h => ⟨h.1, fun i hi => wpOp_mono (fun a' w' h' => wpAny_of_K fuel _ a' w' h'.2) (h.2 i hi)⟩

/-- While i is not listed none that waits for it is. -/
theorem lateB_none {md : Region.Mode} {ops : Array Oper} {m : List Nat} {i : Nat} {listed : Array Bool} (hl : lateB md ops m i = true) (hcl : Closed md ops listed) (hsz : listed.size = ops.size) (hi : listed.getD i true = false) : noLate m listed := fun k hk => by
  cases hb : listed.getD k false with
  | false => rfl
  | true =>
    have hre := List.all_eq_true.1 hl k hk
    cases ho : ops[k]? with
    | none => simp [aheadL, ho] at hre
    | some o =>
      have := reach_listed hcl ho (hcl k o ho hb) hre
      rw [unlisted_false hi] at this
      cases this
theorem lateB_ready {md : Region.Mode} {ops : Array Oper} {m : List Nat} {i j : Nat} {listed : Array Bool} (hl : lateB md ops m i = true) (hcl : Closed md ops listed) (hi : listed.getD i true = false) (hj : j ∈ Region.ready md ops listed) : j ∉ m := fun hk => by
  obtain ⟨_, o, ho, hall⟩ := mem_ready.1 hj
  have := reach_listed hcl ho hall (List.all_eq_true.1 hl j hk)
  rw [unlisted_false hi] at this
  cases this

section first
variable {P : Program} {md : Region.Mode} {ops : Array Oper} {Q : Exit → Act → World → Prop} {m : List Nat} {S : World → Prop} {i : Nat} {oi : Oper} {v : Value}

theorem wpAnyK_first (hsink : lateB md ops m i = true) (hi : ops[i]? = some oi) (hsel : ∀ (j : Nat) (o : Oper) cs b, ops[j]? = some o → o.op ≠ .select cs b)
    (hQ : ∀ c a w, Q (.panic c) (a.put oi.dst v) w → Q (.panic c) a w) :
    ∀ (fuel : Nat) (listed : Array Bool) (a : Act) (w : World), Closed md ops listed → listed.size = ops.size →
      (∀ j oj, ops[j]? = some oj → j ≠ i → listed.getD j true = false → (∀ e ∈ oj.after, Region.binds md e = true → e.on ≠ i) → oi.apart ops oj = true) →
      i ∈ Region.ready md ops listed → YieldsIf P ops S oi v a → S w →
      wpAnyK P md ops Q m S fuel (listed.setIfInBounds i true) (a.put oi.dst v) w → wpAnyK P md ops Q m S (fuel + 1) listed a w := by
  intro fuel
  induction fuel with
  | zero =>
    intro listed a w _ _ _ hr hy hS H
    refine ⟨fun h => (by rw [h] at hr; cases hr), fun j hj => ?_⟩
    by_cases hji : j = i
    · subst hji; exact hy.wpOp hi hS ⟨fun _ => hS, H⟩
    · have := ready_mono hj hji
      rw [H.1] at this
      cases this
  | succ fuel ih =>
    intro listed a w hcl hsz hfree hr hy hS H
    refine ⟨fun h => (by rw [h] at hr; cases hr), fun j hj => ?_⟩
    by_cases hji : j = i
    · subst hji; exact hy.wpOp hi hS ⟨fun _ => hS, H⟩
    · have h1 := H.2 j (ready_mono hj hji)
      obtain ⟨hjun, oj, hoj, hall⟩ := mem_ready.1 hj
      have hiun := (mem_ready.1 hr).1
      have hnot : ∀ e ∈ oj.after, Region.binds md e = true → e.on ≠ i := fun e he hb heq => by
        have h1 := hall e he hb
        rw [heq, unlisted_false hiun] at h1
        cases h1
      have hnl : noLate m ((listed.setIfInBounds i true).setIfInBounds j true) :=
        ((lateB_none hsink hcl hsz hiun).set (lateB_ready hsink hcl hiun hr)).set (lateB_ready hsink hcl hiun hj)
      have h2 := wpOp_putIf hoj (hfree j oj hoj hji hjun hnot) (fun cs b => hsel i oi cs b hi) (fun cs b => hsel j oj cs b hoj) hQ hy h1
      have hfree' : ∀ k ok, ops[k]? = some ok → k ≠ i → (listed.setIfInBounds j true).getD k true = false →
          (∀ e ∈ ok.after, Region.binds md e = true → e.on ≠ i) → oi.apart ops ok = true := fun k ok hk hki hun hno => by
        refine hfree k ok hk hki ?_ hno
        by_cases hjk : j = k
        · subst hjk; exact hjun
        · rw [getD_set_ne true hjk] at hun; exact hun
      refine wpOp_mono (fun a' w' h3 => ?_) h2
      have hS' : S w' := h3.2.1 hnl
      refine ⟨fun _ => hS', ih (listed.setIfInBounds j true) a' w' (hcl.set hj) (by simp [hsz]) hfree' (ready_mono hr (Ne.symm hji)) h3.1 hS' ?_⟩
      rw [Array.setIfInBounds_comm _ _ hji]
      exact h3.2.2

theorem wpAnyK_firstP (him : i ∉ m) (hi : ops[i]? = some oi) (hsel : ∀ (j : Nat) (o : Oper) cs b, ops[j]? = some o → o.op ≠ .select cs b)
    (hQ : ∀ c a w, Q (.panic c) (a.put oi.dst v) w → Q (.panic c) a w) :
    ∀ (fuel : Nat) (listed : Array Bool) (a : Act) (w : World),
      (∀ j oj, ops[j]? = some oj → j ≠ i → listed.getD j true = false → (∀ e ∈ oj.after, Region.binds md e = true → e.on ≠ i) → oi.apart ops oj = true) →
      i ∈ Region.ready md ops listed → YieldsIf P ops (fun _ => True) oi v a → (noLate m listed → S w) →
      wpAnyK P md ops Q m S fuel (listed.setIfInBounds i true) (a.put oi.dst v) w → wpAnyK P md ops Q m S (fuel + 1) listed a w := by
  intro fuel
  induction fuel with
  | zero =>
    intro listed a w _ hr hy hS H
    refine ⟨fun h => (by rw [h] at hr; cases hr), fun j hj => ?_⟩
    by_cases hji : j = i
    · subst hji; exact hy.wpOp hi trivial ⟨fun h => hS h.unset, H⟩
    · have := ready_mono hj hji
      rw [H.1] at this
      cases this
  | succ fuel ih =>
    intro listed a w hfree hr hy hS H
    refine ⟨fun h => (by rw [h] at hr; cases hr), fun j hj => ?_⟩
    by_cases hji : j = i
    · subst hji; exact hy.wpOp hi trivial ⟨fun h => hS h.unset, H⟩
    · have h1 := H.2 j (ready_mono hj hji)
      obtain ⟨hjun, oj, hoj, hall⟩ := mem_ready.1 hj
      have hiun := (mem_ready.1 hr).1
      have hnot : ∀ e ∈ oj.after, Region.binds md e = true → e.on ≠ i := fun e he hb heq => by
        have h1 := hall e he hb
        rw [heq, unlisted_false hiun] at h1
        cases h1
      have h2 := wpOp_putIf hoj (hfree j oj hoj hji hjun hnot) (fun cs b => hsel i oi cs b hi) (fun cs b => hsel j oj cs b hoj) hQ hy h1
      have hfree' : ∀ k ok, ops[k]? = some ok → k ≠ i → (listed.setIfInBounds j true).getD k true = false →
          (∀ e ∈ ok.after, Region.binds md e = true → e.on ≠ i) → oi.apart ops ok = true := fun k ok hk hki hun hno => by
        refine hfree k ok hk hki ?_ hno
        by_cases hjk : j = k
        · subst hjk; exact hjun
        · rw [getD_set_ne true hjk] at hun; exact hun
      refine wpOp_mono (fun a' w' h3 => ?_) h2
      have hS' : noLate m (listed.setIfInBounds j true) → S w' := fun h => h3.2.1 (by
        rw [← Array.setIfInBounds_comm _ _ hji]
        exact h.set him)
      refine ⟨hS', ih (listed.setIfInBounds j true) a' w' hfree' (ready_mono hr (Ne.symm hji)) h3.1 hS' ?_⟩
      rw [Array.setIfInBounds_comm _ _ hji]
      exact h3.2.2
end first

/-- A plan fits a region: what is taken first may come up and is touched by nobody that could come ahead of it; all else comes up alone. -/
def normB (md : Region.Mode) (ops : Array Oper) (m : List Nat) : List (Nat × Bool) → Array Bool → Bool
  | [], listed => (Region.ready md ops listed).isEmpty
  | (i, true) :: rest, listed => (Region.ready md ops listed).contains i && Region.free md ops listed i && !m.contains i && normB md ops m rest (listed.setIfInBounds i true)
  | (i, false) :: rest, listed => (match Region.ready md ops listed with | [j] => Nat.beq i j | _ => false) && normB md ops m rest (listed.setIfInBounds i true)

theorem wpAnyK_plan {P : Program} {ops : Array Oper} {K : Act → World → Prop} {m : List Nat} {S : World → Prop} (hs : Region.noSelect ops = true) :
    ∀ (pl : List (Nat × Bool)) (listed : Array Bool) (a : Act) (w : World), Closed .any ops listed → listed.size = ops.size → (noLate m listed → S w) → normB .any ops m pl listed = true → wpPlan P ops m S K pl a w →
      wpAnyK P .any ops (fun e a w => match e with | .normal => K a w | _ => False) m S pl.length listed a w
  | [], listed, a, w, _, _, _, hB, h => ⟨by simpa [normB] using hB, h⟩
  | (i, true) :: rest, listed, a, w, hcl, hsz, h0, hB, h => by
    simp only [normB, Bool.and_eq_true] at hB
    obtain ⟨⟨⟨hr, hf⟩, him⟩, hB'⟩ := hB
    have hr' : i ∈ Region.ready .any ops listed := by simpa using hr
    have him' : i ∉ m := by simpa using him
    obtain ⟨o, v, hi, hy, hrest⟩ := h
    have hrec := wpAnyK_plan hs rest _ _ _ (hcl.set hr') (by simp [hsz]) (fun h => h0 h.unset) hB' hrest
    rcases hy with ⟨hy, hS, hl⟩ | hy
    · exact wpAnyK_first hl hi (Region.noSelect_spec hs) (fun _ _ _ h => h) rest.length listed a w hcl hsz (Region.free_spec hi hf) hr' hy hS hrec
    · exact wpAnyK_firstP him' hi (Region.noSelect_spec hs) (fun _ _ _ h => h) rest.length listed a w (Region.free_spec hi hf) hr' hy h0 hrec
  | (i, false) :: rest, listed, a, w, hcl, hsz, h0, hB, h => by
    simp only [normB, Bool.and_eq_true] at hB
    obtain ⟨hr, hB'⟩ := hB
    have hready : Region.ready .any ops listed = [i] := by
      split at hr
      · rename_i j hj; have := Nat.eq_of_beq_eq_true hr; subst this; exact hj
      · cases hr
    refine ⟨fun h0 => (by rw [hready] at h0; cases h0), fun j hj => ?_⟩
    have hj0 := hj
    rw [hready] at hj
    simp only [List.mem_singleton] at hj
    subst hj
    have h' : wpOp P ops (fun _ _ _ => False) j (fun a' w' => (m.contains j = false → S w') ∧ wpPlan P ops m S K rest a' w') a w := h
    have h2 : wpOp P ops (fun e a w => match e with | .normal => K a w | _ => False) j (fun a' w' => (m.contains j = false → S w') ∧ wpPlan P ops m S K rest a' w') a w :=
      wpOp_post (fun e a w hF => hF.elim) h'
    refine wpOp_mono (fun a' w' h3 => ?_) h2
    have hS' : noLate m (listed.setIfInBounds j true) → S w' := fun hn => h3.1 (by
      have := hn.not_mem (unlisted_lt (mem_ready.1 hj0).1)
      simpa using this)
    exact ⟨hS', wpAnyK_plan hs rest _ _ _ (hcl.set hj0) (by simp [hsz]) hS' hB' h3.2⟩
end Go.Sx
