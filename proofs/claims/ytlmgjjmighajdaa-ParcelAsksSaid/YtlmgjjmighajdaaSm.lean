/-
  Maps with whole numbers as keys: owned, and shared. Program-independent. No condition.
-/
import Derived.Test.YtlmgjjmighajdaaSu
import Derived.Maps.RangeRun
set_option linter.unusedVariables false
set_option linter.unusedSimpArgs false
namespace Go.Sx
open Go.Sl
section
variable {β : Type} {f : β → Value} {h h' : Zone} {L : List Atom} {w : World}

/-! ### Data: a rising list of keys with values -/
def getK : List (Int × β) → Int → Option β
  | [], _ => none
  | p :: D, k => bif p.1 == k then some p.2 else getK D k
def putK : List (Int × β) → Int → β → List (Int × β)
  | [], k, v => [(k, v)]
  | p :: D, k, v => bif decide (k < p.1) then (k, v) :: p :: D else bif k == p.1 then (k, v) :: D else p :: putK D k v
def Rise (D : List (Int × β)) : Prop := D.Pairwise fun p q => p.1 < q.1

theorem putK_mem : ∀ {D : List (Int × β)} {k : Int} {v : β}, Rise D → ∀ j u, (j, u) ∈ putK D k v ↔ (j = k ∧ u = v) ∨ (j ≠ k ∧ (j, u) ∈ D)
  | [], k, v, _, j, u => by simp only [putK, List.mem_singleton, Prod.mk.injEq, List.not_mem_nil, and_false, or_false]
  | p :: D, k, v, hr, j, u => by
    have hp := List.pairwise_cons.1 hr
    unfold putK
    by_cases h1 : k < p.1
    · simp only [h1, decide_true, cond_true, List.mem_cons, Prod.mk.injEq]
      constructor
      · rintro (h | h | h)
        · exact .inl h
        · refine .inr ⟨?_, .inl h⟩
          have : j = p.1 := by rw [← h]
          omega
        · have := hp.1 _ h
          simp only at this
          exact .inr ⟨by omega, .inr h⟩
      · rintro (h | ⟨_, h⟩)
        · exact .inl h
        · exact .inr h
    · simp only [h1, decide_false, cond_false]
      by_cases h2 : k = p.1
      · subst h2
        simp only [beq_self_eq_true, cond_true, List.mem_cons, Prod.mk.injEq]
        constructor
        · rintro (h | h)
          · exact .inl h
          · have := hp.1 _ h
            simp only at this
            exact .inr ⟨by omega, .inr h⟩
        · rintro (h | ⟨h, h' | h'⟩)
          · exact .inl h
          · exact absurd (by rw [← h']) h
          · exact .inr h'
      · have h3 : (k == p.1) = false := by simpa using h2
        simp only [h3, cond_false, List.mem_cons]
        rw [putK_mem hp.2]
        constructor
        · rintro (h | h | ⟨h, h'⟩)
          · refine .inr ⟨?_, .inl h⟩
            have : j = p.1 := by rw [← h]
            omega
          · exact .inl h
          · exact .inr ⟨h, .inr h'⟩
        · rintro (h | ⟨h, h' | h'⟩)
          · exact .inr (.inl h)
          · exact .inl h'
          · exact .inr (.inr ⟨h, h'⟩)
theorem putK_rise : ∀ {D : List (Int × β)} {k : Int} {v : β}, Rise D → Rise (putK D k v)
  | [], k, v, _ => List.pairwise_singleton _ _
  | p :: D, k, v, hr => by
    have hp := List.pairwise_cons.1 hr
    unfold putK
    by_cases h1 : k < p.1
    · simp only [h1, decide_true, cond_true]
      exact List.pairwise_cons.2 ⟨fun q hq => by
        rcases List.mem_cons.1 hq with rfl | hq
        · exact h1
        · have := hp.1 q hq; simp only; omega, hr⟩
    · simp only [h1, decide_false, cond_false]
      by_cases h2 : k = p.1
      · subst h2
        simp only [beq_self_eq_true, cond_true]
        exact List.pairwise_cons.2 ⟨hp.1, hp.2⟩
      · have h3 : (k == p.1) = false := by simpa using h2
        simp only [h3, cond_false]
        refine List.pairwise_cons.2 ⟨fun q hq => ?_, putK_rise hp.2⟩
        obtain ⟨j, u⟩ := q
        rcases (putK_mem hp.2 j u).1 hq with ⟨rfl, _⟩ | ⟨_, hq⟩
        · simp only; omega
        · exact hp.1 _ hq
theorem getK_mem : ∀ {D : List (Int × β)} {k : Int} {v : β}, Rise D → (getK D k = some v ↔ (k, v) ∈ D)
  | [], k, v, _ => by simp [getK]
  | p :: D, k, v, hr => by
    have hp := List.pairwise_cons.1 hr
    unfold getK
    by_cases h1 : p.1 = k
    · subst h1
      simp only [beq_self_eq_true, cond_true, Option.some.injEq, List.mem_cons]
      constructor
      · rintro rfl; exact .inl rfl
      · rintro (h | h)
        · rw [← h]
        · have := hp.1 _ h; simp only at this; omega
    · have h3 : (p.1 == k) = false := by simpa using h1
      simp only [h3, cond_false, List.mem_cons]
      rw [getK_mem hp.2]
      constructor
      · exact .inr
      · rintro (h | h)
        · exact absurd (by rw [← h]) h1
        · exact h
theorem getK_none {D : List (Int × β)} {k : Int} (hr : Rise D) (h : ∀ v, (k, v) ∉ D) : getK D k = none := by
  cases e : getK D k with
  | none => rfl
  | some v => exact absurd ((getK_mem hr).1 e) (h v)
theorem rise_ext : ∀ {D E : List (Int × β)}, Rise D → Rise E → (∀ p, p ∈ D ↔ p ∈ E) → D = E
  | [], [], _, _, _ => rfl
  | [], q :: E, _, _, h => by have := (h q).2 (by simp); cases this
  | p :: D, [], _, _, h => by have := (h p).1 (by simp); cases this
  | p :: D, q :: E, hD, hE, h => by
    have hp := List.pairwise_cons.1 hD
    have hq := List.pairwise_cons.1 hE
    have e : p = q := by
      rcases List.mem_cons.1 ((h p).1 (by simp)) with e | e
      · exact e
      · rcases List.mem_cons.1 ((h q).2 (by simp)) with e' | e'
        · exact e'.symm
        · have h1 := hq.1 _ e; have h2 := hp.1 _ e'; omega
    subst e
    congr 1
    refine rise_ext hp.2 hq.2 fun r => ?_
    have hr := h r
    simp only [List.mem_cons] at hr
    constructor
    · intro hm
      rcases hr.1 (.inr hm) with e | e
      · subst e; have := hp.1 _ hm; omega
      · exact e
    · intro hm
      rcases hr.2 (.inr hm) with e | e
      · subst e; have := hq.1 _ hm; omega
      · exact e

/-! ### A map's entries -/
def ent (f : β → Value) (t : Int × β × Nat) : MapEntry := { key := .int .i64 t.1, val := f t.2.1, born := t.2.2 }
structure MapM (l : List (Int × β × Nat)) (clock : Nat) (D : List (Int × β)) : Prop where
  rise : Rise D
  keys : (l.map (·.1)).Nodup
  borns : (l.map (·.2.2)).Nodup
  old : ∀ t ∈ l, t.2.2 < clock
  mem : ∀ k v, (k, v) ∈ D ↔ ∃ b, (k, v, b) ∈ l
def mobj (f : β → Value) (l : List (Int × β × Nat)) (clock : Nat) : Obj := .map (l.map (ent f)).toArray clock
theorem MapM.nil : MapM ([] : List (Int × β × Nat)) 0 [] := ⟨List.Pairwise.nil, List.nodup_nil, List.nodup_nil, by simp, by simp⟩

/-- A shared map. -/
def MapR (f : β → Value) (h : Zone) (o : Option Nat) (D : List (Int × β)) : Prop :=
  (o = none ∧ D = []) ∨ ∃ r l clock, o = some r ∧ h.blk r = some (mobj f l clock) ∧ MapM l clock D
theorem MapR.mono (k : h.le h') {o : Option Nat} {D : List (Int × β)} (s : MapR f h o D) : MapR f h' o D := by
  rcases s with s | ⟨r, l, clock, e, hb, hm⟩
  · exact .inl s
  · exact .inr ⟨r, l, clock, e, k.blk _ _ hb, hm⟩
theorem MapR.nil' (f : β → Value) (h : Zone) : MapR f h none [] := .inl ⟨rfl, rfl⟩
/-- An owned map. -/
def mapA (f : β → Value) (r : Nat) (D : List (Int × β)) : Atom :=
  ⟨fun _ z => ∃ l clock, z = Hp.one r (mobj f l clock) ∧ MapM l clock D, fun _ _ _ _ e => e⟩
def Ty.map (f : β → Value) : Ty (List (Int × β)) where
  size := 1
  rep h cs D := ∃ o, cs = [.map o] ∧ MapR f h o D
  len := by rintro h cs x ⟨o, rfl, _⟩; rfl
  one := by rintro h cs x ⟨o, rfl, _⟩ v hv; simp only [List.mem_singleton] at hv; subst hv; rfl
  mono := by rintro h h' cs x k ⟨o, e, s⟩; exact ⟨o, e, s.mono k⟩
theorem mapRep {o : Option Nat} {D : List (Int × β)} (s : MapR f h o D) : (Ty.map f).rep h [.map o] D := ⟨o, rfl, s⟩

/-- An owned map becomes shared. -/
theorem _root_.Go.Sl.St.mapShare (s : St h L w) {j : Nat} {r : Nat} {D : List (Int × β)} (hj : L[j]? = some (mapA f r D)) :
    ∃ h', h.le h' ∧ St h' (L.set j emp) w ∧ MapR f h' (some r) D := by
  obtain ⟨h', x, hle, hx, hxb, hs⟩ := s.freeze hj
  obtain ⟨l, clock, rfl, hm⟩ := hx
  exact ⟨h', hle, hs, .inr ⟨r, l, clock, rfl, Hp.one_le.1 hxb, hm⟩⟩

/-! ### Finding a key -/
theorem findNow_ent {k : Int} : ∀ (l : List (Int × β × Nat)) (i : Nat),
    (Instr.findNow (.int .i64) (.int .i64 k) (l.map (ent f)) i = some none ∧ ∀ v b, (k, v, b) ∉ l) ∨
    ∃ j v b, l[j]? = some (k, v, b) ∧ Instr.findNow (.int .i64) (.int .i64 k) (l.map (ent f)) i = some (some (i + j, f v))
  | [], i => .inl ⟨rfl, by simp⟩
  | (k', v', b') :: l, i => by
    by_cases e : k' = k
    · subst e
      exact .inr ⟨0, v', b', rfl, by simp [Instr.findNow, Instr.sameNow, ent]⟩
    · have e' : ¬ k = k' := fun h => e h.symm
      have e2 : (k == k') = false := by simpa using e'
      rcases findNow_ent l (i + 1) with ⟨h1, h2⟩ | ⟨j, v, b, h1, h2⟩
      · refine .inl ⟨by simpa [Instr.findNow, Instr.sameNow, ent, e2] using h1, fun v b hm => ?_⟩
        rcases List.mem_cons.1 hm with h | h
        · simp only [Prod.mk.injEq] at h; exact e' h.1
        · exact h2 v b h
      · refine ⟨j + 1, v, b, h1, ?_⟩ |> .inr
        have : i + (j + 1) = i + 1 + j := by omega
        rw [this]
        simpa [Instr.findNow, Instr.sameNow, ent, e2] using h2
theorem isKey_int (k : Int) : MapKept.IsKey (.int .i64) (.int .i64 k) := by simp [MapKept.IsKey]
theorem toList_mobj (l : List (Int × β × Nat)) : (l.map (ent f)).toArray.toList = l.map (ent f) := rfl

/-- A type of maps with whole numbers as keys. -/
structure MapOK (P : Program) (t : TypeId) (z : Value) : Prop where
  ex : ∃ kt et, P.underlying t = some (.map kt et) ∧ P.underlying kt = some (.int .i64) ∧ ∀ w, (zeroValue et).run P w = .ok z w
theorem MapOK.of {P : Program} {t kt et : TypeId} {z : Value} (h1 : P.underlying t = some (.map kt et)) (h2 : P.underlying kt = some (.int .i64)) (h3 : runO P (zeroValue et) [] = some (z, [], [])) : MapOK P t z :=
  ⟨kt, et, h1, h2, fun w => runO_sound (w := w) _ h3 (by simp)⟩

/-- What a map in a world reads as. -/
def LookR (f : β → Value) (w : World) (o : Option Nat) (D : List (Int × β)) : Prop :=
  (o = none ∧ D = []) ∨ ∃ r l clock, o = some r ∧ w.heap[r]? = some (mobj f l clock) ∧ MapM l clock D
theorem St.blk (s : St h L w) {r : Nat} {o : Obj} (e : h.blk r = some o) : w.heap[r]? = some o := by
  obtain ⟨z, _, _, hb, _⟩ := s.sep
  exact hb _ _ e
theorem MapR.look {o : Option Nat} {D : List (Int × β)} (m : MapR f h o D) (s : St h L w) : LookR f w o D := by
  rcases m with m | ⟨r, l, clock, e, hb, hm⟩
  · exact .inl m
  · exact .inr ⟨r, l, clock, e, St.blk s hb, hm⟩
theorem _root_.Go.Sl.St.mapLook (s : St h L w) {j r : Nat} {D : List (Int × β)} (hj : L[j]? = some (mapA f r D)) : LookR f w (some r) D := by
  obtain ⟨x, ⟨l, clock, rfl, hm⟩, hxw, _, _⟩ := s.focus hj
  exact .inr ⟨r, l, clock, rfl, Hp.one_le.1 hxw, hm⟩
theorem LookR.drew {o : Option Nat} {D : List (Int × β)} (m : LookR f w o D) : LookR f w.drew o D := m

def lkK (D : List (Int × β)) (k : Int) (z : β) : β := (getK D k).getD z
def hasK (D : List (Int × β)) (k : Int) : Bool := (getK D k).isSome
theorem LookR.run {P : Program} {t : TypeId} {o : Option Nat} {D : List (Int × β)} {k : Int} {c : Bool} {z : β} (m : LookR f w o D) (hM : MapOK P t (f z)) :
    (Instr.lookup t (.map o) (.int .i64 k) c).run P w = .ok (bif c then .tuple #[f (lkK D k z), .bool (hasK D k)] else f (lkK D k z)) w := by
  obtain ⟨kt, et, h1, h2, h3⟩ := hM.ex
  rcases m with ⟨rfl, rfl⟩ | ⟨r, l, clock, rfl, hb, hm⟩
  · have g : Instr.findNow (.int .i64) (.int .i64 k) (#[] : Array MapEntry).toList 0 = some none := rfl
    unfold Instr.lookup
    simp only [Sem.run_bind, run_underlying h1, Result.andThen_ok, Sem.run_pure, MapKept.run_checkKey h2 (isKey_int k), MapKept.run_findKey h2 g, h3, lkK, hasK, getK, Option.getD_none, Option.isSome_none]
    cases c <;> rfl
  · unfold Instr.lookup
    rcases findNow_ent (f := f) (k := k) l 0 with ⟨g1, g2⟩ | ⟨j, v, b, g1, g2⟩
    · have hn : getK D k = none := getK_none hm.rise fun v hv => by obtain ⟨b, hb⟩ := (hm.mem k v).1 hv; exact g2 v b hb
      simp only [Sem.run_bind, run_underlying h1, Result.andThen_ok, Sem.run_pure, MapKept.run_getObj_map hb, toList_mobj, MapKept.run_checkKey h2 (isKey_int k), MapKept.run_findKey h2 g1, h3, lkK, hasK, hn, Option.getD_none, Option.isSome_none]
      cases c <;> rfl
    · have hn : getK D k = some v := (getK_mem hm.rise).2 ((hm.mem k v).2 ⟨b, List.mem_of_getElem? g1⟩)
      simp only [Sem.run_bind, run_underlying h1, Result.andThen_ok, Sem.run_pure, MapKept.run_getObj_map hb, toList_mobj, MapKept.run_checkKey h2 (isKey_int k), MapKept.run_findKey h2 g2, lkK, hasK, hn, Option.getD_some, Option.isSome_some]
      cases c <;> rfl

/-! ### A key is written -/
theorem modify_map {γ δ : Type} (g : γ → δ) (p : δ → δ) (q : γ → γ) (e : ∀ x, p (g x) = g (q x)) : ∀ (l : List γ) (j : Nat), (l.map g).modify j p = (l.modify j q).map g
  | [], j => by simp
  | x :: l, 0 => by simp [e]
  | x :: l, j + 1 => by simp [modify_map g p q e l j]
theorem mem_modify {γ : Type} {p : γ → γ} : ∀ {l : List γ} {j : Nat} {x : γ}, l[j]? = some x → ∀ y, y ∈ l.modify j p ↔ y = p x ∨ ∃ i, i ≠ j ∧ l[i]? = some y
  | [], j, x, h, y => by simp at h
  | a :: l, 0, x, h, y => by
    simp only [List.getElem?_cons_zero, Option.some.injEq] at h
    subst h
    simp only [List.modify_zero_cons, List.mem_cons]
    constructor
    · rintro (h | h)
      · exact .inl h
      · obtain ⟨i, hi⟩ := List.getElem?_of_mem h
        exact .inr ⟨i + 1, by omega, by simpa using hi⟩
    · rintro (h | ⟨i, hne, hi⟩)
      · exact .inl h
      · cases i with
        | zero => exact absurd rfl hne
        | succ i => exact .inr (List.mem_of_getElem? (by simpa using hi))
  | a :: l, j + 1, x, h, y => by
    simp only [List.getElem?_cons_succ] at h
    simp only [List.modify_succ_cons, List.mem_cons, mem_modify h y]
    constructor
    · rintro (rfl | h | ⟨i, hne, hi⟩)
      · exact .inr ⟨0, by omega, by simp⟩
      · exact .inl h
      · exact .inr ⟨i + 1, by omega, by simpa using hi⟩
    · rintro (h | ⟨i, hne, hi⟩)
      · exact .inr (.inl h)
      · cases i with
        | zero => simp only [List.getElem?_cons_zero, Option.some.injEq] at hi; exact .inl hi.symm
        | succ i => exact .inr (.inr ⟨i, by omega, by simpa using hi⟩)
theorem key_inj : ∀ {l : List (Int × β × Nat)}, (l.map (·.1)).Nodup → ∀ {i j : Nat} {k : Int} {x y : β × Nat}, l[i]? = some (k, x) → l[j]? = some (k, y) → i = j := by
  intro l hn i j k x y hi hj
  have h1 : (l.map (·.1))[i]? = some k := by rw [List.getElem?_map, hi]; rfl
  have h2 : (l.map (·.1))[j]? = some k := by rw [List.getElem?_map, hj]; rfl
  exact (List.getElem?_inj (List.getElem?_eq_some_iff.1 h1).1 hn).1 (h1.trans h2.symm)
theorem map_modify_same {γ δ : Type} (g : γ → δ) (q : γ → γ) : ∀ (l : List γ) (j : Nat), (∀ x, l[j]? = some x → g (q x) = g x) → (l.modify j q).map g = l.map g
  | [], j, _ => by simp
  | x :: l, 0, e => by simp [e x (by simp)]
  | x :: l, j + 1, e => by simp [map_modify_same g q l j (fun y hy => e y (by simpa using hy))]
theorem MapM.put {l : List (Int × β × Nat)} {clock : Nat} {D : List (Int × β)} (m : MapM l clock D) {j : Nat} {k : Int} {u v : β} {b : Nat} (hj : l[j]? = some (k, u, b)) :
    MapM (l.modify j fun t => (k, v, t.2.2)) clock (putK D k v) := by
  refine ⟨putK_rise m.rise, ?_, ?_, fun t ht => ?_, fun k' v' => ?_⟩
  · rw [map_modify_same]
    · exact m.keys
    · intro x hx; rw [hj] at hx; simp only [Option.some.injEq] at hx; subst hx; rfl
  · rw [map_modify_same]
    · exact m.borns
    · intro x hx; rfl
  · rcases (mem_modify hj t).1 ht with rfl | ⟨i, _, hi⟩
    · exact m.old (k, u, b) (List.mem_of_getElem? hj)
    · exact m.old _ (List.mem_of_getElem? hi)
  · rw [putK_mem m.rise]
    constructor
    · rintro (⟨rfl, rfl⟩ | ⟨hne, hm⟩)
      · exact ⟨b, (mem_modify hj _).2 (.inl rfl)⟩
      · obtain ⟨b', hb'⟩ := (m.mem _ _).1 hm
        obtain ⟨i, hi⟩ := List.getElem?_of_mem hb'
        refine ⟨b', (mem_modify hj _).2 (.inr ⟨i, fun e => ?_, hi⟩)⟩
        subst e; rw [hj] at hi; simp only [Option.some.injEq, Prod.mk.injEq] at hi; exact hne hi.1.symm
    · rintro ⟨b', hb'⟩
      rcases (mem_modify hj _).1 hb' with e | ⟨i, hne, hi⟩
      · simp only [Prod.mk.injEq] at e; exact .inl ⟨e.1, e.2.1⟩
      · refine .inr ⟨fun e => hne ?_, (m.mem _ _).2 ⟨b', List.mem_of_getElem? hi⟩⟩
        subst e
        exact key_inj m.keys hi hj
theorem MapM.push {l : List (Int × β × Nat)} {clock : Nat} {D : List (Int × β)} (m : MapM l clock D) {k : Int} {v : β} (hk : ∀ v b, (k, v, b) ∉ l) :
    MapM (l ++ [(k, v, clock)]) (clock + 1) (putK D k v) := by
  refine ⟨putK_rise m.rise, ?_, ?_, fun t ht => ?_, fun k' v' => ?_⟩
  · rw [List.map_append, List.nodup_append]
    refine ⟨m.keys, by simp, fun a ha b hb => ?_⟩
    obtain ⟨⟨k0, v0, b0⟩, ht, rfl⟩ := List.mem_map.1 ha
    simp only [List.map_cons, List.map_nil, List.mem_singleton] at hb
    subst hb
    intro e
    simp only at e
    subst e
    exact hk _ _ ht
  · rw [List.map_append, List.nodup_append]
    refine ⟨m.borns, by simp, fun a ha b hb => ?_⟩
    obtain ⟨t, ht, rfl⟩ := List.mem_map.1 ha
    simp only [List.map_cons, List.map_nil, List.mem_singleton] at hb
    have := m.old _ ht
    omega
  · rcases List.mem_append.1 ht with ht | ht
    · have := m.old _ ht; omega
    · simp only [List.mem_singleton] at ht; subst ht; simp
  · rw [putK_mem m.rise]
    constructor
    · rintro (⟨rfl, rfl⟩ | ⟨hne, hm⟩)
      · exact ⟨clock, by simp⟩
      · obtain ⟨b', hb'⟩ := (m.mem _ _).1 hm
        exact ⟨b', List.mem_append_left _ hb'⟩
    · rintro ⟨b', hb'⟩
      rcases List.mem_append.1 hb' with hb' | hb'
      · exact .inr ⟨fun e => hk v' b' (e ▸ hb'), (m.mem _ _).2 ⟨b', hb'⟩⟩
      · simp only [List.mem_singleton, Prod.mk.injEq] at hb'; exact .inl ⟨hb'.1, hb'.2.1⟩
theorem run_put {P : Program} {t : TypeId} {z : Value} {r : Nat} {l : List (Int × β × Nat)} {clock : Nat} {D : List (Int × β)} {k : Int} {v : β} (hM : MapOK P t z) (hb : w.heap[r]? = some (mobj f l clock)) (m : MapM l clock D) :
    ∃ l' clock', (Instr.mapUpdate t (.map (some r)) (.int .i64 k) (f v)).run P w = .ok () { w with heap := w.heap.setIfInBounds r (mobj f l' clock') } ∧ MapM l' clock' (putK D k v) := by
  obtain ⟨kt, et, h1, h2, _⟩ := hM.ex
  rcases findNow_ent (f := f) (k := k) l 0 with ⟨g1, g2⟩ | ⟨j, u, b, g1, g2⟩
  · refine ⟨l ++ [(k, v, clock)], clock + 1, ?_, m.push g2⟩
    unfold Instr.mapUpdate
    simp only [Sem.run_bind, run_underlying h1, Result.andThen_ok, MapKept.run_getObj_map hb, toList_mobj, MapKept.run_checkKey h2 (isKey_int k), MapKept.run_findKey h2 g1, MapKept.run_setObj_map _ hb]
    simp [mobj, ent]
  · refine ⟨l.modify j fun t => (k, v, t.2.2), clock, ?_, m.put g1⟩
    have e1 : ((l.map (ent f)).toArray[0 + j]?.map (·.key)).getD (.int .i64 k) = .int .i64 k := by
      rw [Nat.zero_add]
      simp [g1, ent]
    unfold Instr.mapUpdate
    simp only [Sem.run_bind, run_underlying h1, Result.andThen_ok, MapKept.run_getObj_map hb, toList_mobj, MapKept.run_checkKey h2 (isKey_int k), MapKept.run_findKey h2 g2, MapKept.run_setObj_map _ hb, e1, MapKept.run_keyThatStays (isKey_int k)]
    rw [Nat.zero_add, List.modify_toArray, modify_map (ent f) _ (fun t => (k, v, t.2.2)) (fun x => rfl)]
    rfl
/-- An owned object turns into another one. -/
theorem _root_.Go.Sl.St.turn (s : St h L w) {j r : Nat} {A B : Atom} {o o' : Obj} (hj : L[j]? = some A) (hA : ∀ z, A.P h z → z = Hp.one r o) (hB : B.P h (Hp.one r o')) : St h (L.set j B) { w with heap := w.heap.setIfInBounds r o' } := by
  obtain ⟨x, hx, hxw, _, hset⟩ := s.focus hj
  have hx' := hA x hx
  subst hx'
  have h1 : w.heap[r]? = some o := Hp.one_le.1 hxw
  have h2 := MapKept.heap_set (o' := o') h1
  refine hset _ _ _ hB (Hp.one_le.2 h2.1) (fun k _ hne => h2.2 k fun e => ?_) (fun k o'' hk => ?_) rfl rfl rfl
  · subst e; simp [Hp.one] at hne
  · right; unfold Hp.one at hk ⊢; split at hk <;> simp_all
end
section
variable {β : Type} {f : β → Value} {h h' : Zone} {L : List Atom} {w : World}
variable {P : Program} {a : Act} {N : Nat} {fl : FL} {ds : List Nat} {R : Array Oper} {m : List Nat} {S : World → Prop} {K : Act → World → Prop} {pl : List (Nat × Bool)}
/-- What is asked of which map. -/
def lookAt (R : Array Oper) (N : Nat) (pl : List (Nat × Bool)) (fl : FL) : Option (Nat × Option Nat × TypeId × Option Nat × Int × Bool) :=
  match opAt R N pl fl with
  | some (i, o) => match o.op with
    | .lookup t x k c => match ev fl x, ev fl k with
      | .map r, .int .i64 n => some (i, o.dst, t, r, n, c)
      | _, _ => none
    | _ => none
  | none => none
theorem p_lookup {i : Nat} {d : Option Nat} {t : TypeId} {o : Option Nat} {k : Int} {c : Bool} {z : β} {D : List (Int × β)} (hf : Fr a N fl ds) (ho : lookAt R N pl fl = some (i, d, t, o, k, c)) (hM : MapOK P t (f z)) (hD : LookR f w o D)
    (kk : ∀ a', Fr a' N (putF fl d (bif c then .tuple #[f (lkK D k z), .bool (hasK D k)] else f (lkK D k z))) ds → (m.contains i = false → S w) ∧ wpPlan P R m S K pl.tail a' w) : wpPlan P R m S K pl a w := by
  unfold lookAt at ho
  cases h1 : opAt R N pl fl with
  | none => rw [h1] at ho; simp at ho
  | some q =>
    obtain ⟨i', op⟩ := q
    rw [h1] at ho
    simp only at ho
    split at ho
    · rename_i t' x k' c' hop
      split at ho
      · rename_i r n hx hk
        simp only [Option.some.injEq, Prod.mk.injEq] at ho
        obtain ⟨rfl, rfl, rfl, rfl, rfl, rfl⟩ := ho
        refine p_val hf h1 ?_ kk
        have := hD.run (P := P) (t := t') (k := n) (c := c') hM
        simp [execOp, hop, hx, hk, this, Result.andThen]
      · cases ho
    · cases ho
/-- What is written into which map. -/
def putAt (R : Array Oper) (N : Nat) (pl : List (Nat × Bool)) (fl : FL) : Option (Nat × TypeId × Nat × Int × Value) :=
  match opAt R N pl fl with
  | some (i, o) => match o.op, o.dst with
    | .mapUpdate t m k v, none => match ev fl m, ev fl k with
      | .map (some r), .int .i64 n => some (i, t, r, n, ev fl v)
      | _, _ => none
    | .insert t m k v, none => match ev fl m, ev fl k with
      | .map (some r), .int .i64 n => some (i, t, r, n, ev fl v)
      | _, _ => none
    | _, _ => none
  | none => none
theorem putAt_run {i : Nat} {t : TypeId} {r : Nat} {k : Int} {v : Value} {w' : World} (ho : putAt R N pl fl = some (i, t, r, k, v)) (hst : (Instr.mapUpdate t (.map (some r)) (.int .i64 k) v).run P w = .ok () w') :
    ∃ o, opAt R N pl fl = some (i, o) ∧ o.dst = none ∧ (execOp (ev fl) o).run P w = .ok .skip w' := by
  unfold putAt at ho
  cases h1 : opAt R N pl fl with
  | none => rw [h1] at ho; simp at ho
  | some q =>
    obtain ⟨i', o⟩ := q
    rw [h1] at ho
    simp only at ho
    split at ho
    · rename_i t' x k' v' hop hdst
      split at ho
      · rename_i r' n hx hk
        simp only [Option.some.injEq, Prod.mk.injEq] at ho
        obtain ⟨rfl, rfl, rfl, rfl, rfl⟩ := ho
        exact ⟨o, rfl, hdst, by simp [execOp, hop, hx, hk, hst, Result.andThen]⟩
      · cases ho
    · rename_i t' x k' v' hop hdst
      split at ho
      · rename_i r' n hx hk
        simp only [Option.some.injEq, Prod.mk.injEq] at ho
        obtain ⟨rfl, rfl, rfl, rfl, rfl⟩ := ho
        exact ⟨o, rfl, hdst, by simp [execOp, hop, hx, hk, hst, Result.andThen]⟩
      · cases ho
    · cases ho
theorem p_put {i j : Nat} {t : TypeId} {z : Value} {r : Nat} {k : Int} {v : β} {D : List (Int × β)} (hS : St h L w) (hf : Fr a N fl ds) (hj : L[j]? = some (mapA f r D)) (ho : putAt R N pl fl = some (i, t, r, k, f v)) (hM : MapOK P t z)
    (kk : ∀ w' a', St h (L.set j (mapA f r (putK D k v))) w' → Fr a' N fl ds → (m.contains i = false → S w') ∧ wpPlan P R m S K pl.tail a' w') : wpPlan P R m S K pl a w := by
  obtain ⟨x, ⟨l, clock, rfl, hm⟩, hxw, _, _⟩ := hS.focus hj
  obtain ⟨l', clock', hrun, hm'⟩ := run_put (k := k) (v := v) hM (Hp.one_le.1 hxw) hm
  obtain ⟨o, hop, hd, hex⟩ := putAt_run ho hrun
  refine p_skip hf hop hex fun a' hf' => ?_
  rw [hd] at hf'
  refine kk _ a' ?_ hf'
  obtain ⟨x, hx, hxw', _, hset⟩ := hS.focus hj
  have h1 : w.heap[r]? = some (mobj f l clock) := Hp.one_le.1 hxw
  obtain ⟨l2, c2, e2, _⟩ := hx
  subst e2
  have h2 := MapKept.heap_set (o' := mobj f l' clock') h1
  refine hset _ _ (Hp.one r (mobj f l' clock')) ⟨l', clock', rfl, hm'⟩ (Hp.one_le.2 h2.1) (fun k _ hne => h2.2 k fun e => ?_) (fun k o'' hk => ?_) rfl rfl rfl
  · subst e; simp [Hp.one] at hne
  · right; unfold Hp.one at hk ⊢; split at hk <;> simp_all
/-- A map is made. -/
theorem p_makeMap {i : Nat} {d : Option Nat} (f : β → Value) (hS : St h L w) (hf : Fr a N fl ds) (he : ∀ b, newAt P R N pl fl b = some (i, d, .map #[] 0, .map (some b)))
    (k : ∀ b w' a', St h (mapA f b [] :: L) w' → Fr a' N (putF fl d (.map (some b))) ds → (m.contains i = false → S w') ∧ wpPlan P R m S K pl.tail a' w') : wpPlan P R m S K pl a w :=
  p_new (o := fun _ => .map #[] 0) (v := fun b => .map (some b)) hS hf he fun b w' a' hS' hf' => k b w' a' (hS'.conv (i := 0) rfl fun z hz => ⟨[], 0, hz, MapM.nil⟩) hf'

/-! ### Ranges over maps -/
/-- An iterator over a shared map: what is left of it. -/
def iterA (f : β → Value) (b : Nat) (left : List (Int × β)) : Atom :=
  ⟨fun h z => (z = Hp.one b (.mapIter none 0 #[] 0) ∧ left = []) ∨ ∃ m l clock seen c0, ∃ D : List (Int × β), h.blk m = some (mobj f l clock) ∧ MapM l clock D ∧ z = Hp.one b (.mapIter (some m) clock seen c0) ∧ clock ≤ c0 ∧ left = (l.filter fun t => !seen.contains t.2.2).map (fun t => (t.1, t.2.1)),
   fun _ _ _ k e => e.imp (fun x => x) fun ⟨m, l, clock, seen, c0, D, e1, e2⟩ => ⟨m, l, clock, seen, c0, D, k.blk _ _ e1, e2⟩⟩
/-- ... that has just told an entry. -/
def iterE (f : β → Value) (b : Nat) (left : List (Int × β)) (k : Int) (v : β) : Atom :=
  ⟨fun h z => ∃ (m : Nat) (l : List (Int × β × Nat)) (clock : Nat) (seen : Array Nat) (born : Nat), ∃ D : List (Int × β), h.blk m = some (mobj f l clock) ∧ MapM l clock D ∧ z = Hp.one b (.mapIter (some m) clock (seen.push born) clock) ∧ (k, v, born) ∈ l ∧ left = (l.filter fun t => !(seen.push born).contains t.2.2).map (fun t => (t.1, t.2.1)),
   fun _ _ _ k ⟨m, l, clock, seen, born, D, e1, e2⟩ => ⟨m, l, clock, seen, born, D, k.blk _ _ e1, e2⟩⟩
theorem iterE_A {b : Nat} {left : List (Int × β)} {k : Int} {v : β} (z : Hp) (e : (iterE f b left k v).P h z) : (iterA f b left).P h z := by
  obtain ⟨m, l, clock, seen, born, D, e1, e2, e3, _, e4⟩ := e
  exact .inr ⟨m, l, clock, seen.push born, clock, D, e1, e2, e3, Nat.le_refl _, e4⟩

def rangeAt (R : Array Oper) (N : Nat) (pl : List (Nat × Bool)) (fl : FL) : Option (Nat × Option Nat × TypeId × Option Nat) :=
  match opAt R N pl fl with
  | some (i, o) => match o.op with
    | .range t x => match ev fl x with
      | .map r => some (i, o.dst, t, r)
      | _ => none
    | _ => none
  | none => none
theorem filter_none (l : List (Int × β × Nat)) : (l.filter fun t => !(#[] : Array Nat).contains t.2.2) = l := List.filter_eq_self.2 (fun _ _ => by simp)
theorem p_range {i : Nat} {d : Option Nat} {t : TypeId} {o : Option Nat} {z : Value} {D : List (Int × β)} (hS : St h L w) (hf : Fr a N fl ds) (ho : rangeAt R N pl fl = some (i, d, t, o)) (hM : MapOK P t z) (hD : MapR f h o D)
    (kk : ∀ b w' a' left, (∀ p, p ∈ left ↔ p ∈ D) → St h (iterA f b left :: L) w' → Fr a' N (putF fl d (.pointer (some ⟨b, 0, none⟩))) ds → (m.contains i = false → S w') ∧ wpPlan P R m S K pl.tail a' w') : wpPlan P R m S K pl a w := by
  obtain ⟨kt, et, h1, h2, _⟩ := hM.ex
  unfold rangeAt at ho
  cases e1 : opAt R N pl fl with
  | none => rw [e1] at ho; simp at ho
  | some q =>
    obtain ⟨i', op⟩ := q
    rw [e1] at ho
    simp only at ho
    split at ho
    · rename_i t' x hop
      split at ho
      · rename_i r hx
        simp only [Option.some.injEq, Prod.mk.injEq] at ho
        obtain ⟨rfl, rfl, rfl, rfl⟩ := ho
        rcases hD with ⟨rfl, rfl⟩ | ⟨r, l, clock, rfl, hb, hm⟩
        · have hrun := run_range_nilMap (P := P) w t' kt et h1
          refine p_val hf e1 (by simp [execOp, hop, hx, hrun, Result.andThen]) fun a' hf' => kk _ _ a' [] (by simp) (hS.new _ _ (.inl ⟨rfl, rfl⟩)) hf'
        · have hrun := run_range_map (P := P) w t' kt et r _ clock h1 (St.blk hS hb)
          refine p_val hf e1 (by simp [execOp, hop, hx, hrun, Result.andThen]) fun a' hf' => kk _ _ a' (l.map fun t => (t.1, t.2.1)) (fun p => ?_) (hS.new _ _ (.inr ⟨r, l, clock, #[], clock, D, hb, hm, rfl, Nat.le_refl _, congrArg (List.map fun t : Int × β × Nat => (t.1, t.2.1)) (filter_none l).symm⟩)) hf'
          obtain ⟨k, v⟩ := p
          rw [hm.mem, List.mem_map]
          constructor
          · rintro ⟨⟨k', v', b'⟩, ht, e⟩; simp only [Prod.mk.injEq] at e; obtain ⟨rfl, rfl⟩ := e; exact ⟨b', ht⟩
          · rintro ⟨b, hb'⟩; exact ⟨_, hb', rfl⟩
      · cases ho
    · cases ho

def nextAt (R : Array Oper) (N : Nat) (pl : List (Nat × Bool)) (fl : FL) : Option (Nat × Option Nat × Nat) :=
  match opAt R N pl fl with
  | some (i, o) => match o.op with
    | .next x false => match ev fl x with
      | .pointer (some ⟨b, 0, none⟩) => some (i, o.dst, b)
      | _ => none
    | _ => none
  | none => none
theorem p_next {i j b : Nat} {d : Option Nat} {left : List (Int × β)} (hS : St h L w) (hf : Fr a N fl ds) (ho : nextAt R N pl fl = some (i, d, b)) (hj : L[j]? = some (iterA f b left))
    (k0 : left = [] → ∀ a', Fr a' N (putF fl d (.tuple #[.bool false])) ds → (m.contains i = false → S w) ∧ wpPlan P R m S K pl.tail a' w)
    (k1 : ∀ (k : Int) (v : β) left' w' a', (∀ p, p ∈ left ↔ p = (k, v) ∨ p ∈ left') → left'.length < left.length → St h (L.set j (iterE f b left' k v)) w' → Fr a' N (putF fl d (.tuple #[.bool true, .int .i64 k, f v])) ds → (m.contains i = false → S w') ∧ wpPlan P R m S K pl.tail a' w') : wpPlan P R m S K pl a w := by
  unfold nextAt at ho
  cases e1 : opAt R N pl fl with
  | none => rw [e1] at ho; simp at ho
  | some q =>
    obtain ⟨i', op⟩ := q
    rw [e1] at ho
    simp only at ho
    split at ho
    · rename_i x hop
      split at ho
      · rename_i b' hx
        simp only [Option.some.injEq, Prod.mk.injEq] at ho
        obtain ⟨rfl, rfl, rfl⟩ := ho
        obtain ⟨x0, hx0, hxw, hdx, hset⟩ := hS.focus hj
        rcases hx0 with ⟨rfl, rfl⟩ | ⟨m', l, clock, seen, c0, D, hb, hm, rfl, hc, rfl⟩
        · have hr : w.heap[b']? = some (.mapIter none 0 #[] 0) := Hp.one_le.1 hxw
          have hrun : (Instr.next (.pointer (some ⟨b', 0, none⟩)) false op.type).run P w = .ok (.tuple #[.bool false]) w := by
            simp only [Instr.next, getObj, Sem.run_bind, Sem.run, hr, Result.andThen]
            rfl
          exact p_val hf e1 (by simp [execOp, hop, hx, hrun, Result.andThen]) fun a' hf' => k0 rfl a' hf'
        · have hr : w.heap[b']? = some (.mapIter (some m') clock seen c0) := Hp.one_le.1 hxw
          have hb' : w.heap[m']? = some (.map (l.map (ent f)).toArray clock) := St.blk hS hb
          have hne : m' ≠ b' := fun e => by
            subst e
            rcases hdx m' with e | e
            · rw [hb] at e; cases e
            · simp [Hp.one] at e
          have hleft : (leftOf (l.map (ent f)).toArray seen).toList = (l.filter fun t => !seen.contains t.2.2).map (ent f) := by
            unfold leftOf
            rw [Array.toList_filter, toList_mobj, List.filter_map]
            rfl
          rcases run_next_at (P := P) w op.type b' m' clock c0 seen _ clock hr hb' (fun x hx => by
              rw [toList_mobj] at hx
              obtain ⟨t, ht, rfl⟩ := List.mem_map.1 hx
              exact hm.old t ht) hc with ⟨h0, hrun⟩ | ⟨e, he, w1, hal, hrun⟩
          · refine p_val hf e1 (by simp [execOp, hop, hx, hrun, Result.andThen]) fun a' hf' => k0 ?_ a' hf'
            have : (leftOf (l.map (ent f)).toArray seen).toList = [] := List.eq_nil_of_length_eq_zero (by simpa using h0)
            rw [hleft] at this
            simp only [List.map_eq_nil_iff] at this
            rw [this]; rfl
          · rw [hleft] at he
            obtain ⟨⟨k, v, born⟩, ht, rfl⟩ := List.mem_map.1 he
            have htl : (k, v, born) ∈ l := (List.mem_filter.1 ht).1
            have hsn : seen.contains born = false := by simpa using (List.mem_filter.1 ht).2
            have hr1 : w1.heap[b']? = some (.mapIter (some m') clock seen c0) := by rcases hal with rfl | rfl <;> exact hr
            have h2 := MapKept.heap_set (o' := .mapIter (some m') clock (seen.push born) clock) hr1
            have hrun' : (Instr.next (.pointer (some ⟨b', 0, none⟩)) false op.type).run P w = .ok (.tuple #[.bool true, .int .i64 k, f v]) (Go.ChangeMaps.setBlock w1 b' (.mapIter (some m') clock (seen.push born) clock)) := hrun
            refine p_val hf e1 (by simp [execOp, hop, hx, hrun', Result.andThen]; rfl) fun a' hf' => k1 k v ((l.filter fun t => !(seen.push born).contains t.2.2).map fun t => (t.1, t.2.1)) _ a' (fun p => ?_) ?_ ?_ hf'
            · simp only [List.mem_map, List.mem_filter]
              constructor
              · rintro ⟨t, ⟨ht1, ht2⟩, rfl⟩
                by_cases hb2 : t.2.2 = born
                · left
                  have hi := List.getElem?_of_mem ht1
                  have hj2 := List.getElem?_of_mem htl
                  obtain ⟨i1, hi⟩ := hi
                  obtain ⟨j1, hj2⟩ := hj2
                  have g1 : (l.map (·.2.2))[i1]? = some born := by rw [List.getElem?_map, hi]; simp [hb2]
                  have g2 : (l.map (·.2.2))[j1]? = some born := by rw [List.getElem?_map, hj2]; rfl
                  have := (List.getElem?_inj (List.getElem?_eq_some_iff.1 g1).1 hm.borns).1 (g1.trans g2.symm)
                  subst this
                  rw [hi] at hj2
                  simp only [Option.some.injEq] at hj2
                  subst hj2; rfl
                · refine .inr ⟨t, ⟨ht1, ?_⟩, rfl⟩
                  rw [contains_push]
                  simp only [Bool.not_or, Bool.and_eq_true]
                  exact ⟨ht2, by simpa using hb2⟩
              · rintro (rfl | ⟨t, ⟨ht1, ht2⟩, rfl⟩)
                · exact ⟨_, ⟨htl, by simpa using hsn⟩, rfl⟩
                · refine ⟨t, ⟨ht1, ?_⟩, rfl⟩
                  rw [contains_push] at ht2
                  simp only [Bool.not_or, Bool.and_eq_true] at ht2
                  exact ht2.1
            · have h3 := left_shrinks (l.map (ent f)).toArray seen (ent f (k, v, born)) (by rw [hleft]; exact List.mem_map.2 ⟨_, ht, rfl⟩)
              have hleft2 : (leftOf (l.map (ent f)).toArray (seen.push born)).toList = (l.filter fun t => !(seen.push born).contains t.2.2).map (ent f) := by
                unfold leftOf
                rw [Array.toList_filter, toList_mobj, List.filter_map]
                rfl
              have l1 := congrArg List.length hleft
              have l2 := congrArg List.length hleft2
              simp only [Array.length_toList, List.length_map] at l1 l2
              have e3 : (ent f (k, v, born)).born = born := rfl
              rw [e3, l1, l2] at h3
              simpa only [List.length_map] using h3
            · have hz : (iterE f b' ((l.filter fun t => !(seen.push born).contains t.2.2).map fun t => (t.1, t.2.1)) k v).P h (Hp.one b' (.mapIter (some m') clock (seen.push born) clock)) := ⟨m', l, clock, seen, born, D, hb, hm, rfl, htl, rfl⟩
              have hw1 : ∀ k : Nat, w1.heap[k]? = w.heap[k]? := by rcases hal with rfl | rfl <;> exact fun _ => rfl
              refine hset _ _ _ hz (Hp.one_le.2 h2.1) (fun q _ hq => ?_) (fun q o'' hq => ?_) (by rcases hal with rfl | rfl <;> rfl) (by rcases hal with rfl | rfl <;> rfl) (by rcases hal with rfl | rfl <;> rfl)
              · exact (h2.2 q fun e => by subst e; simp [Hp.one] at hq).trans (hw1 q)
              · right; unfold Hp.one at hq ⊢; split at hq <;> simp_all
      · cases ho
    · cases ho
def entryAt (R : Array Oper) (N : Nat) (pl : List (Nat × Bool)) (fl : FL) : Option (Nat × Option Nat × Nat) :=
  match opAt R N pl fl with
  | some (i, o) => match o.op with
    | .entry x => match ev fl x with
      | .pointer (some ⟨b, 0, none⟩) => some (i, o.dst, b)
      | _ => none
    | _ => none
  | none => none
theorem p_entry {i j b : Nat} {d : Option Nat} {left : List (Int × β)} {k : Int} {v : β} (hS : St h L w) (hf : Fr a N fl ds) (ho : entryAt R N pl fl = some (i, d, b)) (hj : L[j]? = some (iterE f b left k v))
    (kk : ∀ a', Fr a' N (putF fl d (.tuple #[.int .i64 k, f v])) ds → (m.contains i = false → S w) ∧ wpPlan P R m S K pl.tail a' w) : wpPlan P R m S K pl a w := by
  unfold entryAt at ho
  cases e1 : opAt R N pl fl with
  | none => rw [e1] at ho; simp at ho
  | some q =>
    obtain ⟨i', op⟩ := q
    rw [e1] at ho
    simp only at ho
    split at ho
    · rename_i x hop
      split at ho
      · rename_i b' hx
        simp only [Option.some.injEq, Prod.mk.injEq] at ho
        obtain ⟨rfl, rfl, rfl⟩ := ho
        obtain ⟨x0, ⟨m', l, clock, seen, born, D, hb, hm, rfl, htl, rfl⟩, hxw, hdx, hset⟩ := hS.focus hj
        have hr : w.heap[b']? = some (.mapIter (some m') clock (seen.push born) clock) := Hp.one_le.1 hxw
        have hb' : w.heap[m']? = some (.map (l.map (ent f)).toArray clock) := St.blk hS hb
        have hrun : (Instr.entry (.pointer (some ⟨b', 0, none⟩))).run P w = .ok (.tuple #[.int .i64 k, f v]) w := run_entry_at (P := P) w b' m' clock seen _ clock (ent f (k, v, born)) hr hb' (by rw [toList_mobj]; exact List.mem_map.2 ⟨_, htl, rfl⟩) (by
          rw [toList_mobj, List.map_map]; exact hm.borns)
        exact p_val hf e1 (by simp [execOp, hop, hx, hrun, Result.andThen]) fun a' hf' => kk a' hf'
      · cases ho
    · cases ho

/-! ### Sets in one -/
def uniK (D : List (Int × Bool)) (l : List (Int × Bool)) : List (Int × Bool) := l.foldl (fun a p => putK a p.1 true) D
theorem uniK_rise : ∀ {l D : List (Int × Bool)}, Rise D → Rise (uniK D l)
  | [], _, h => h
  | _ :: l, _, h => uniK_rise (l := l) (putK_rise h)
theorem uniK_mem : ∀ {l D : List (Int × Bool)}, Rise D → ∀ j u, (j, u) ∈ uniK D l ↔ (u = true ∧ ∃ v, (j, v) ∈ l) ∨ ((∀ v, (j, v) ∉ l) ∧ (j, u) ∈ D)
  | [], D, h, j, u => by simp [uniK]
  | p :: l, D, h, j, u => by
    show (j, u) ∈ uniK (putK D p.1 true) l ↔ _
    rw [uniK_mem (putK_rise h), putK_mem h]
    obtain ⟨k, x⟩ := p
    by_cases e : j = k
    · subst e
      constructor
      · rintro (⟨h1, v, h2⟩ | ⟨h1, ⟨_, h2⟩ | ⟨h2, _⟩⟩)
        · exact .inl ⟨h1, v, List.mem_cons_of_mem _ h2⟩
        · exact .inl ⟨h2, x, by simp⟩
        · exact absurd rfl h2
      · rintro (⟨h1, v, h2⟩ | ⟨h1, h2⟩)
        · by_cases e2 : ∃ v, (j, v) ∈ l
          · exact .inl ⟨h1, e2⟩
          · exact .inr ⟨fun v hv => e2 ⟨v, hv⟩, .inl ⟨rfl, h1⟩⟩
        · exact absurd (by simp) (h1 x)
    · have hk : ∀ v, (j, v) ∈ (k, x) :: l ↔ (j, v) ∈ l := fun v => by simp [e]
      simp only [hk, e, false_and, ne_eq, not_false_eq_true, true_and, false_or]
theorem uniK_step {D left left' : List (Int × Bool)} {k : Int} {v : Bool} (h : Rise D) (e : ∀ p, p ∈ left ↔ p = (k, v) ∨ p ∈ left') : uniK D left = uniK (putK D k true) left' := by
  have e2 : uniK (putK D k true) left' = uniK D ((k, v) :: left') := rfl
  rw [e2]
  refine rise_ext (uniK_rise h) (uniK_rise h) fun p => ?_
  obtain ⟨j, u⟩ := p
  simp only [uniK_mem h, e, List.mem_cons]
theorem uniK_same {D left left' : List (Int × Bool)} (h : Rise D) (e : ∀ p, p ∈ left ↔ p ∈ left') : uniK D left = uniK D left' := by
  refine rise_ext (uniK_rise h) (uniK_rise h) fun p => ?_
  obtain ⟨j, u⟩ := p
  simp only [uniK_mem h, e]
theorem _root_.Go.Sl.St.mapRise (s : St h L w) {j r : Nat} {D : List (Int × β)} (hj : L[j]? = some (mapA f r D)) : Rise D := by
  obtain ⟨x, ⟨l, clock, rfl, hm⟩, _, _, _⟩ := s.focus hj
  exact hm.rise

/-! ### How many, and none -/
def lenAt (R : Array Oper) (N : Nat) (pl : List (Nat × Bool)) (fl : FL) : Option (Nat × Option Nat × TypeId × Option Nat) :=
  match opAt R N pl fl with
  | some (i, o) => match o.op with
    | .call { callee := .builtin .len, args := ⟨[x]⟩, argTypes := ⟨[t]⟩ } => match ev fl x with
      | .map r => some (i, o.dst, t, r)
      | _ => none
    | _ => none
  | none => none
theorem MapM.len {l : List (Int × β × Nat)} {clock : Nat} {D : List (Int × β)} (m : MapM l clock D) : l.length = D.length := by
  have h1 : (l.map fun t => (t.1, t.2.1)).length = D.length := by
    have hn1 : (l.map (·.1)).Nodup := m.keys
    have hn2 : (D.map (·.1)).Nodup := by
      have := m.rise
      unfold Rise at this
      rw [List.Nodup, List.pairwise_map]
      exact this.imp fun h e => by omega
    have e : ∀ k, k ∈ l.map (·.1) ↔ k ∈ D.map (·.1) := fun k => by
      simp only [List.mem_map]
      constructor
      · rintro ⟨⟨k', v, b⟩, ht, rfl⟩; exact ⟨(k', v), (m.mem _ _).2 ⟨b, ht⟩, rfl⟩
      · rintro ⟨⟨k', v⟩, ht, rfl⟩; obtain ⟨b, hb⟩ := (m.mem _ _).1 ht; exact ⟨(k', v, b), hb, rfl⟩
    have := ((List.perm_ext_iff_of_nodup hn1 hn2).2 e).length_eq
    simpa using this
  simpa using h1
theorem p_lenMap {i : Nat} {d : Option Nat} {t : TypeId} {o : Option Nat} {z : Value} {D : List (Int × β)} (hf : Fr a N fl ds) (ho : lenAt R N pl fl = some (i, d, t, o)) (hM : MapOK P t z) (hD : LookR f w o D)
    (kk : ∀ a', Fr a' N (putF fl d (.int .i64 D.length)) ds → (m.contains i = false → S w) ∧ wpPlan P R m S K pl.tail a' w) : wpPlan P R m S K pl a w := by
  obtain ⟨kt, et, h1, h2, _⟩ := hM.ex
  unfold lenAt at ho
  cases e1 : opAt R N pl fl with
  | none => rw [e1] at ho; simp at ho
  | some q =>
    obtain ⟨i', op⟩ := q
    rw [e1] at ho
    simp only at ho
    split at ho
    · rename_i x t' hop
      split at ho
      · rename_i r hx
        simp only [Option.some.injEq, Prod.mk.injEq] at ho
        obtain ⟨rfl, rfl, rfl, rfl⟩ := ho
        refine p_val (v := .int .i64 D.length) hf e1 ?_ kk
        have hrun : (Builtin.len_ #[t'] op.type #[.map r]).run P w = .ok (.int .i64 D.length) w := by
          rcases hD with ⟨rfl, rfl⟩ | ⟨r, l, clock, rfl, hb, hm⟩
          · simp [Builtin.len_, run_underlying h1, Result.andThen, goInt]
          · have hlen := hm.len
            simp [Builtin.len_, run_underlying h1, MapKept.run_getObj_map hb, Result.andThen, goInt, hlen]
        simp only [execOp, hop, resolve, invoke, builtin, Sem.run_bind, Sem.run_pure, Result.andThen_ok, List.map_toArray, List.map_cons, List.map_nil, hx, hrun]
      · cases ho
    · cases ho
def clearAt (R : Array Oper) (N : Nat) (pl : List (Nat × Bool)) (fl : FL) : Option (Nat × Option Nat × TypeId × Nat) :=
  match opAt R N pl fl with
  | some (i, o) => match o.op with
    | .call { callee := .builtin .clear, args := ⟨[x]⟩, argTypes := ⟨[t]⟩ } => match ev fl x with
      | .map (some r) => some (i, o.dst, t, r)
      | _ => none
    | _ => none
  | none => none
theorem p_clear {i j : Nat} {d : Option Nat} {t : TypeId} {z : Value} {r : Nat} {D : List (Int × β)} (hS : St h L w) (hf : Fr a N fl ds) (hj : L[j]? = some (mapA f r D)) (ho : clearAt R N pl fl = some (i, d, t, r)) (hM : MapOK P t z)
    (kk : ∀ w' a', St h (L.set j (mapA f r [])) w' → Fr a' N (putF fl d (.tuple #[])) ds → (m.contains i = false → S w') ∧ wpPlan P R m S K pl.tail a' w') : wpPlan P R m S K pl a w := by
  obtain ⟨kt, et, h1, h2, _⟩ := hM.ex
  unfold clearAt at ho
  cases e1 : opAt R N pl fl with
  | none => rw [e1] at ho; simp at ho
  | some q =>
    obtain ⟨i', op⟩ := q
    rw [e1] at ho
    simp only at ho
    split at ho
    · rename_i x t' hop
      split at ho
      · rename_i r' hx
        simp only [Option.some.injEq, Prod.mk.injEq] at ho
        obtain ⟨rfl, rfl, rfl, rfl⟩ := ho
        obtain ⟨x0, ⟨l, clock, rfl, hm⟩, hxw, _, hset⟩ := hS.focus hj
        have hb : w.heap[r']? = some (mobj f l clock) := Hp.one_le.1 hxw
        have h2 := MapKept.heap_set (o' := mobj f [] clock) hb
        have hrun : (Builtin.clear_ #[t'] op.type #[.map (some r')]).run P w = .ok (.tuple #[]) { w with heap := w.heap.setIfInBounds r' (mobj f [] clock) } := by
          have hg := MapKept.run_getObj_map (P := P) hb
          have hs := MapKept.run_setObj_map (P := P) (mobj f [] clock) hb
          simp [Builtin.clear_, run_underlying h1, hg, Result.andThen]
          simp [mobj] at hs
          rw [hs]
          rfl
        refine p_val (v := .tuple #[]) (w' := { w with heap := w.heap.setIfInBounds r' (mobj f [] clock) }) hf e1 (by simp only [execOp, hop, resolve, invoke, builtin, Sem.run_bind, Sem.run_pure, Result.andThen_ok, List.map_toArray, List.map_cons, List.map_nil, hx, hrun]) fun a' hf' => kk _ a' (hset _ _ (Hp.one r' (mobj f [] clock)) ⟨[], clock, rfl, ⟨List.Pairwise.nil, List.nodup_nil, List.nodup_nil, by simp, by simp⟩⟩ (Hp.one_le.2 h2.1) (fun k _ hne => h2.2 k fun e => by rw [e] at hne; simp [Hp.one] at hne) (fun k o'' hk => by right; unfold Hp.one at hk ⊢; split at hk <;> simp_all) rfl rfl rfl) hf'
      · cases ho
    · cases ho
end
end Go.Sx
