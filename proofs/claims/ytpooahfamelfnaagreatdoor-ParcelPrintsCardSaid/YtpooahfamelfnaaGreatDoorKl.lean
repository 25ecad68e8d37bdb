/-
 A part of the walk and of the plain law of one given statement. No condition.
-/
import Derived.WalkKit
import Derived.Maps.AppendAt
import Derived.OrdersHeld
import Derived.OrdersIn
import Derived.RangeFuncLeaves
import Derived.RangeFuncRecord
import Derived.Laws.OwnMore
import Derived.Laws.MakeOwn
import Derived.MapKept
namespace Go.Sl
abbrev Hp := Nat → Option Obj
def Hp.nil : Hp := fun _ => none
def Hp.one (b : Nat) (o : Obj) : Hp := fun k => if k = b then some o else none
def Hp.add (x y : Hp) : Hp := fun k => match x k with | some o => some o | none => y k
def Hp.le (x y : Hp) : Prop := ∀ b o, x b = some o → y b = some o
def Hp.apart (x y : Hp) : Prop := ∀ b, x b = none ∨ y b = none
theorem Hp.le_refl (x : Hp) : x.le x := fun _ _ h => h
theorem Hp.le_trans {x y z : Hp} (h : x.le y) (k : y.le z) : x.le z := fun b o e => k b o (h b o e)
theorem Hp.nil_le (x : Hp) : Hp.nil.le x := fun _ _ h => by simp [Hp.nil] at h
theorem Hp.le_add_left (x y : Hp) : x.le (x.add y) := fun b o h => by simp [Hp.add, h]
theorem Hp.le_add_right {x y : Hp} (d : x.apart y) : y.le (x.add y) := fun b o h => by
 rcases d b with e | e
 ·simp [Hp.add, e, h]
 ·rw [h] at e; cases e
theorem Hp.add_le {x y z : Hp} (h : x.le z) (k : y.le z) : (x.add y).le z := fun b o e => by
 unfold Hp.add at e
 cases hx : x b with
 | some u => rw [hx] at e; simp only [Option.some.injEq] at e; subst e; exact h _ _ hx
 | none => rw [hx] at e; exact k _ _ e
theorem Hp.apart_comm {x y : Hp} (h : x.apart y) : y.apart x := fun b => (h b).symm
theorem Hp.apart_nil (x : Hp) : x.apart Hp.nil := fun _ => .inr rfl
theorem Hp.apart_add {x y z : Hp} : x.apart (y.add z) ↔ x.apart y ∧ x.apart z := by
 constructor
 ·intro h
  refine ⟨fun b => ?_, fun b => ?_⟩
  ·rcases h b with e | e
   ·exact .inl e
   ·right; unfold Hp.add at e; cases hy : y b with
    | none => rfl
    | some o => rw [hy] at e; cases e
  ·rcases h b with e | e
   ·exact .inl e
   ·right; unfold Hp.add at e; cases hy : y b with
    | none => rw [hy] at e; exact e
    | some o => rw [hy] at e; cases e
 ·rintro ⟨h, k⟩ b
  rcases h b with e | e
  ·exact .inl e
  ·rcases k b with e' | e'
   ·exact .inl e'
   ·right; simp [Hp.add, e, e']
theorem Hp.add_apart {x y z : Hp} : (x.add y).apart z ↔ x.apart z ∧ y.apart z :=
 ⟨fun h => let ⟨a, b⟩ := Hp.apart_add.1 (Hp.apart_comm h); ⟨Hp.apart_comm a, Hp.apart_comm b⟩, fun ⟨a, b⟩ => Hp.apart_comm (Hp.apart_add.2 ⟨Hp.apart_comm a, Hp.apart_comm b⟩)⟩
theorem Hp.add_comm {x y : Hp} (d : x.apart y) : x.add y = y.add x := by
 funext b
 unfold Hp.add
 rcases d b with e | e
 ·rw [e]; cases y b <;> rfl
 ·rw [e]; cases x b <;> rfl
theorem Hp.add_assoc (x y z : Hp) : (x.add y).add z = x.add (y.add z) := by
 funext b
 unfold Hp.add
 cases x b <;> rfl
theorem Hp.nil_add (x : Hp) : Hp.nil.add x = x := rfl
theorem Hp.add_nil (x : Hp) : x.add Hp.nil = x := by funext b; unfold Hp.add Hp.nil; cases x b <;> rfl
theorem Hp.one_at (b : Nat) (o : Obj) : Hp.one b o b = some o := by simp [Hp.one]
theorem Hp.one_le {b : Nat} {o : Obj} {z : Hp} : (Hp.one b o).le z ↔ z b = some o :=
 ⟨fun h => h b o (Hp.one_at b o), fun h k u e => by unfold Hp.one at e; split at e <;> simp_all⟩
theorem Hp.one_apart {b : Nat} {o : Obj} {z : Hp} : (Hp.one b o).apart z ↔ z b = none :=
 ⟨fun h => (h b).resolve_left (by simp [Hp.one]), fun h k => by
  by_cases e : k = b
  ·subst e; exact .inr h
  ·left; simp [Hp.one, e]⟩
structure Zone where
 blk : Hp
 os : Os
 tape : Nat → Question → Nat
 output : Array (Nat × ByteArray)
structure Zone.le (h h' : Zone) : Prop where
 blk : h.blk.le h'.blk
 os : h'.os = h.os
 tape : h'.tape = h.tape
 output : h'.output = h.output
theorem Zone.le_refl (h : Zone) : h.le h := ⟨Hp.le_refl _, rfl, rfl, rfl⟩
theorem Zone.le_trans {a b c : Zone} (h : a.le b) (k : b.le c) : a.le c :=
 ⟨Hp.le_trans h.blk k.blk, k.os.trans h.os, k.tape.trans h.tape, k.output.trans h.output⟩
def Zone.cell? (h : Zone) (a : Addr) : Option Value :=
 match h.blk a.block with
 | some (.cells c _ _) => if a.spot.isSome then none else c[a.off]?
 | _ => none
theorem Zone.le.cell {h h' : Zone} (k : h.le h') {a : Addr} {v : Value} (e : h.cell? a = some v) : h'.cell? a = some v := by
 unfold Zone.cell? at *
 cases hb : h.blk a.block with
 | none => rw [hb] at e; cases e
 | some o => rw [hb] at e; rw [k.blk _ _ hb]; exact e
structure Atom where
 P : Zone → Hp → Prop
 mono : ∀ h h' z, h.le h' → P h z → P h' z
def emp : Atom := ⟨fun _ z => z = Hp.nil, fun _ _ _ _ h => h⟩
instance : Inhabited Atom := ⟨emp⟩
def Sep (h : Zone) : List Atom → Hp → Prop
 | [], z => z = Hp.nil
 | A :: L, z => ∃ x y, A.P h x ∧ Sep h L y ∧ x.apart y ∧ z = x.add y
theorem Sep.mono {h h' : Zone} (k : h.le h') : ∀ {L : List Atom} {z : Hp}, Sep h L z → Sep h' L z
 | [], _, e => e
 | A :: _, _, ⟨x, y, hx, hy, d, e⟩ => ⟨x, y, A.mono _ _ _ k hx, Sep.mono k hy, d, e⟩
theorem Sep.focus {h : Zone} : ∀ {L : List Atom} {z : Hp} {i : Nat} {A : Atom}, Sep h L z → L[i]? = some A →
  ∃ x y, A.P h x ∧ x.apart y ∧ z = x.add y ∧ ∀ (h' : Zone) (B : Atom) (x' : Hp), h.le h' → B.P h' x' → x'.apart y → Sep h' (L.set i B) (x'.add y)
 | A :: L, z, 0, A', ⟨x, y, hx, hy, d, e⟩, hi => by
  simp only [List.getElem?_cons_zero, Option.some.injEq] at hi
  subst hi
  exact ⟨x, y, hx, d, e, fun h' B x' k hB d' => ⟨x', y, hB, hy.mono k, d', rfl⟩⟩
 | A :: L, z, i + 1, A', ⟨x, y, hx, hy, d, e⟩, hi => by
  simp only [List.getElem?_cons_succ] at hi
  obtain ⟨u, v, hu, duv, ey, hset⟩ := Sep.focus hy hi
  subst ey
  have ⟨d1, d2⟩ := Hp.apart_add.1 d
  refine ⟨u, x.add v, hu, Hp.apart_add.2 ⟨Hp.apart_comm d1, duv⟩, ?_, fun h' B x' k hB d' => ?_⟩
  ·rw [e, ← Hp.add_assoc, Hp.add_comm d1, Hp.add_assoc]
  ·have ⟨d3, d4⟩ := Hp.apart_add.1 d'
   refine ⟨x, x'.add v, A.mono _ _ _ k hx, hset h' B x' k hB d4, Hp.apart_add.2 ⟨Hp.apart_comm d3, d2⟩, ?_⟩
   rw [← Hp.add_assoc, Hp.add_comm d3, Hp.add_assoc]
theorem Sep.append {h : Zone} : ∀ {L M : List Atom} {z : Hp}, Sep h (L ++ M) z ↔ ∃ x y, Sep h L x ∧ Sep h M y ∧ x.apart y ∧ z = x.add y
 | [], M, z => ⟨fun h => ⟨Hp.nil, z, rfl, h, Hp.apart_comm (Hp.apart_nil _), rfl⟩, fun ⟨x, y, hx, hy, _, e⟩ => by
   simp only [Sep] at hx; subst hx; rw [e, Hp.nil_add]; exact hy⟩
 | A :: L, M, z => by
  constructor
  ·rintro ⟨x, y, hx, hy, d, e⟩
   obtain ⟨u, v, hu, hv, duv, ey⟩ := (Sep.append (L := L)).1 hy
   subst ey
   have ⟨d1, d2⟩ := Hp.apart_add.1 d
   exact ⟨x.add u, v, ⟨x, u, hx, hu, d1, rfl⟩, hv, Hp.add_apart.2 ⟨d2, duv⟩, by rw [e, Hp.add_assoc]⟩
  ·rintro ⟨_, v, ⟨x, u, hx, hu, d1, rfl⟩, hv, d, e⟩
   have ⟨d2, d3⟩ := Hp.add_apart.1 d
   exact ⟨x, u.add v, hx, (Sep.append (L := L)).2 ⟨u, v, hu, hv, d3, rfl⟩, Hp.apart_add.2 ⟨d1, d2⟩, by rw [e, Hp.add_assoc]⟩
structure St (h : Zone) (L : List Atom) (w : World) : Prop where
 sep : ∃ z, Sep h L z ∧ h.blk.apart z ∧ h.blk.le (fun b => w.heap[b]?) ∧ z.le (fun b => w.heap[b]?)
 os : w.os = h.os
 tape : w.tape = h.tape
 output : w.output = h.output
variable {h : Zone} {L : List Atom} {w : World}
theorem World.cell_eq (w : World) (a : Addr) : w.cell? a = (match w.heap[a.block]? with | some (.cells c _ _) => if a.spot.isSome then none else c[a.off]? | _ => none) := rfl
theorem St.cell (s : St h L w) {a : Addr} {v : Value} (e : h.cell? a = some v) : w.cell? a = some v := by
 obtain ⟨z, _, _, hb, _⟩ := s.sep
 unfold Zone.cell? at e
 rw [World.cell_eq]
 cases hbl : h.blk a.block with
 | none => rw [hbl] at e; cases e
 | some o => rw [hbl] at e; have h1 : w.heap[a.block]? = some o := hb _ _ hbl; rw [h1]; exact e
theorem St.focus (s : St h L w) {i : Nat} {A : Atom} (hi : L[i]? = some A) :
  ∃ x, A.P h x ∧ x.le (fun b => w.heap[b]?) ∧ h.blk.apart x ∧
   ∀ (w' : World) (B : Atom) (x' : Hp), B.P h x' → x'.le (fun b => w'.heap[b]?) → (∀ b, b < w.heap.size → x b = none → w'.heap[b]? = w.heap[b]?) →
    (∀ b o, x' b = some o → w.heap.size ≤ b ∨ (x b).isSome) → w'.os = w.os → w'.tape = w.tape → w'.output = w.output → St h (L.set i B) w' := by
 obtain ⟨z, hz, hd, hb, hzw⟩ := s.sep
 obtain ⟨x, y, hx, dxy, e, hset⟩ := hz.focus hi
 subst e
 have ⟨d1, d2⟩ := Hp.apart_add.1 hd
 refine ⟨x, hx, Hp.le_trans (Hp.le_add_left _ _) hzw, d1, fun w' B x' hB hx' hsame hnew e1 e2 e3 => ?_⟩
 have hy : y.le (fun b => w.heap[b]?) := Hp.le_trans (Hp.le_add_right dxy) hzw
 have old : ∀ {u : Hp}, u.apart x → u.le (fun b => w.heap[b]?) → u.le (fun b => w'.heap[b]?) := fun {u} du hu b o hub => by
  have h1 := hu b o hub
  have hlt : b < w.heap.size := (Array.getElem?_eq_some_iff.1 h1).1
  rcases du b with e | e
  ·rw [e] at hub; cases hub
  ·exact (hsame b hlt e).trans h1
 have away : ∀ {u : Hp}, u.apart x → u.le (fun b => w.heap[b]?) → u.apart x' := fun {u} du hu b => by
  cases hub : u b with
  | none => exact .inl rfl
  | some o =>
   right
   cases hxb : x' b with
   | none => rfl
   | some o' =>
    rcases hnew b o' hxb with hge | hsome
    ·have h1 := hu b o hub
     have hlt : b < w.heap.size := (Array.getElem?_eq_some_iff.1 h1).1
     omega
    ·rcases du b with e | e
     ·rw [e] at hub; cases hub
     ·rw [e] at hsome; cases hsome
 have dx'y : x'.apart y := Hp.apart_comm (away (Hp.apart_comm dxy) hy)
 have dh : h.blk.apart x' := away d1 hb
 exact ⟨⟨x'.add y, hset h B x' (Zone.le_refl h) hB dx'y, Hp.apart_add.2 ⟨dh, d2⟩, old d1 hb, Hp.add_le hx' (old (Hp.apart_comm dxy) hy)⟩,
  e1.trans s.os, e2.trans s.tape, e3.trans s.output⟩
theorem St.of_heap (s : St h L w) {w' : World} (e0 : w'.heap = w.heap) (e1 : w'.os = w.os) (e2 : w'.tape = w.tape) (e3 : w'.output = w.output) : St h L w' := by
 obtain ⟨z, hz, hd, hb, hzw⟩ := s.sep
 exact ⟨⟨z, hz, hd, by rw [e0]; exact hb, by rw [e0]; exact hzw⟩, e1.trans s.os, e2.trans s.tape, e3.trans s.output⟩
theorem St.drew (s : St h L w) : St h L w.drew := s.of_heap rfl rfl rfl rfl
theorem St.new (s : St h L w) (A : Atom) (o : Obj) (hA : A.P h (Hp.one w.heap.size o)) : St h (A :: L) (w.alloc o) := by
 obtain ⟨z, hz, hd, hb, hzw⟩ := s.sep
 have old : ∀ {u : Hp}, u.le (fun b => w.heap[b]?) → u.le (fun b => (w.alloc o).heap[b]?) ∧ u w.heap.size = none := fun {u} hu => by
  refine ⟨fun b v hub => ?_, ?_⟩
  ·have h1 := hu b v hub
   have hlt : b < w.heap.size := (Array.getElem?_eq_some_iff.1 h1).1
   exact (Go.RowKit.Below.heap_alloc w o b hlt).trans h1
  ·cases hub : u w.heap.size with
   | none => rfl
   | some v => have h1 := hu _ v hub; simp at h1
 have hz' := old hzw
 have hb' := old hb
 have dn : (Hp.one w.heap.size o).apart z := Hp.one_apart.2 hz'.2
 refine ⟨⟨(Hp.one w.heap.size o).add z, ⟨_, z, hA, hz, dn, rfl⟩, Hp.apart_add.2 ⟨Hp.apart_comm (Hp.one_apart.2 hb'.2), hd⟩, hb'.1, Hp.add_le (Hp.one_le.2 (heap_alloc_new w o)) hz'.1⟩, s.os, s.tape, s.output⟩
theorem St.dropAt (s : St h L w) {i : Nat} {A : Atom} (hi : L[i]? = some A) : St h (L.set i emp) w := by
 obtain ⟨x, hx, hxw, dx, k⟩ := s.focus hi
 exact k w emp Hp.nil rfl (Hp.nil_le _) (fun _ _ _ => rfl) (fun b o e => by simp [Hp.nil] at e) rfl rfl rfl
theorem Sep.tail {A : Atom} {z : Hp} (hz : Sep h (A :: L) z) : ∃ y, Sep h L y ∧ y.le z := by
 obtain ⟨x, y, _, hy, d, e⟩ := hz
 exact ⟨y, hy, e ▸ Hp.le_add_right d⟩
theorem Hp.apart_of_le {x y z : Hp} (d : x.apart z) (k : y.le z) : x.apart y := fun b => by
 rcases d b with e | e
 ·exact .inl e
 ·right
  cases hy : y b with
  | none => rfl
  | some o => have h1 := k _ _ hy; rw [e] at h1; cases h1
theorem St.tail {A : Atom} (s : St h (A :: L) w) : St h L w := by
 obtain ⟨z, hz, hd, hb, hzw⟩ := s.sep
 obtain ⟨y, hy, hle⟩ := hz.tail
 exact ⟨⟨y, hy, Hp.apart_of_le hd hle, hb, Hp.le_trans hle hzw⟩, s.os, s.tape, s.output⟩
theorem St.drop : ∀ (n : Nat) {L : List Atom}, St h L w → St h (L.drop n) w
 | 0, _, s => by simpa using s
 | _ + 1, [], s => by simpa using s
 | n + 1, _ :: _, s => by simpa using St.drop n s.tail
theorem St.freeze (s : St h L w) {i : Nat} {A : Atom} (hi : L[i]? = some A) :
  ∃ h' x, h.le h' ∧ A.P h' x ∧ x.le h'.blk ∧ St h' (L.set i emp) w := by
 obtain ⟨z, hz, hd, hb, hzw⟩ := s.sep
 obtain ⟨x, y, hx, dxy, e, hset⟩ := hz.focus hi
 subst e
 have ⟨d1, d2⟩ := Hp.apart_add.1 hd
 have hx' : x.le (fun b => w.heap[b]?) := Hp.le_trans (Hp.le_add_left _ _) hzw
 have hy' : y.le (fun b => w.heap[b]?) := Hp.le_trans (Hp.le_add_right dxy) hzw
 let h' : Zone := ⟨h.blk.add x, h.os, h.tape, h.output⟩
 have hle : h.le h' := ⟨Hp.le_add_left _ _, rfl, rfl, rfl⟩
 refine ⟨h', x, hle, A.mono _ _ _ hle hx, Hp.le_add_right d1, ⟨⟨y, ?_, ?_, Hp.add_le hb hx', hy'⟩, s.os, s.tape, s.output⟩⟩
 ·have := hset h' emp Hp.nil hle rfl (Hp.apart_comm (Hp.apart_nil _))
  rwa [Hp.nil_add] at this
 ·exact Hp.add_apart.2 ⟨d2, dxy⟩
theorem Sep.perm {L M : List Atom} (p : L.Perm M) : ∀ {z : Hp}, Sep h L z → Sep h M z := by
 induction p with
 | nil => exact fun e => e
 | cons A _ ih => rintro z ⟨x, y, hx, hy, d, e⟩; exact ⟨x, y, hx, ih hy, d, e⟩
 | swap A B L =>
  rintro z ⟨x, _, hx, ⟨u, v, hu, hv, duv, rfl⟩, d, e⟩
  have ⟨d1, d2⟩ := Hp.apart_add.1 d
  refine ⟨u, x.add v, hu, ⟨x, v, hx, hv, d2, rfl⟩, Hp.apart_add.2 ⟨Hp.apart_comm d1, duv⟩, ?_⟩
  rw [e, ← Hp.add_assoc, Hp.add_comm d1, Hp.add_assoc]
 | trans _ _ ih1 ih2 => exact fun e => ih2 (ih1 e)
theorem St.perm (s : St h L w) {M : List Atom} (p : L.Perm M) : St h M w := by
 obtain ⟨z, hz, hd, hb, hzw⟩ := s.sep
 exact ⟨⟨z, hz.perm p, hd, hb, hzw⟩, s.os, s.tape, s.output⟩
def Zone.all (w : World) : Zone := ⟨fun b => w.heap[b]?, w.os, w.tape, w.output⟩
theorem St.all (w : World) : St (Zone.all w) [] w := ⟨⟨Hp.nil, rfl, Hp.apart_nil _, Hp.le_refl _, Hp.nil_le _⟩, rfl, rfl, rfl⟩
open Go.RowKit in
theorem St.below {w0 : World} {h' : Zone} (k : (Zone.all w0).le h') (s : St h' L w) (hsz : w0.heap.size ≤ w.heap.size) : Below w0.heap.size w0 w := by
 obtain ⟨z, hz, hd, hb, hzw⟩ := s.sep
 refine ⟨s.os.trans k.os, s.tape.trans k.tape, s.output.trans k.output, hsz, fun b hlt => ?_⟩
 have h1 : w0.heap[b]? = some w0.heap[b] := Array.getElem?_eq_getElem hlt
 rw [h1]
 exact hb _ _ (k.blk _ _ h1)
theorem St.size {w0 : World} {h' : Zone} (k : (Zone.all w0).le h') (s : St h' L w) : w0.heap.size ≤ w.heap.size := by
 obtain ⟨z, hz, hd, hb, hzw⟩ := s.sep
 rcases Nat.eq_zero_or_pos w0.heap.size with e | e
 ·omega
 ·have hlt : w0.heap.size - 1 < w0.heap.size := by omega
  have h1 : w0.heap[w0.heap.size - 1]? = some w0.heap[w0.heap.size - 1] := Array.getElem?_eq_getElem hlt
  have h2 := hb _ _ (k.blk _ _ h1)
  have h3 : w0.heap.size - 1 < w.heap.size := (Array.getElem?_eq_some_iff.1 h2).1
  omega
end Go.Sl
set_option linter.unusedVariables false
namespace Go.Sx
open Go.Sl
def runO {α : Type} (P : Program) : Sem α → List Value → Option (α × List (Addr × Value) × List Value)
 | .pure a, os => some (a, [], os)
 | .load _ a k, os => match os with
  | [] => none
  | v :: os => match runO P (k v) os with
   | some (x, rs, os') => some (x, (a, v) :: rs, os')
   | none => none
 | .program k, os => runO P (k P) os
 | .mark _ k, os => runO P k os
 | _, _ => none
theorem runO_sound {α : Type} {P : Program} {w : World} : ∀ (s : Sem α) {os : List Value} {x : α} {rs : List (Addr × Value)} {os' : List Value},
  runO P s os = some (x, rs, os') → (∀ p ∈ rs, w.cell? p.1 = some p.2) → s.run P w = .ok x w := by
 intro s
 induction s with
 | pure a => intro os x rs os' h _; simp only [runO, Option.some.injEq, Prod.mk.injEq] at h; rw [h.1.symm]; rfl
 | load m a k ih =>
  intro os x rs os' h hr
  cases os with
  | nil => simp [runO] at h
  | cons v os =>
   simp only [runO] at h
   cases hk : runO P (k v) os with
   | none => rw [hk] at h; simp at h
   | some t =>
    obtain ⟨x', rs', os''⟩ := t
    rw [hk] at h
    simp only [Option.some.injEq, Prod.mk.injEq] at h
    obtain ⟨rfl, rfl, rfl⟩ := h
    have h1 : w.cell? a = some v := hr (a, v) (by simp)
    show Sem.run P (.load m a k) w = _
    simp only [Sem.run, h1]
    exact ih v hk fun p hp => hr p (by simp [hp])
 | program k ih => intro os x rs os' h hr; exact ih P h hr
 | mark m k ih => intro os x rs os' h hr; exact ih h hr
 | _ => intro os x rs os' h; simp [runO] at h
abbrev FL := List (Nat × Value)
def look : FL → Nat → Option Value
 | [], _ => none
 | (k, v) :: r, n => bif Nat.beq k n then some v else look r n
def ev (fl : FL) : Operand → Value
 | .tmp t => (look fl t).getD undef
 | .const v => v
 | .global g => .pointer (some ⟨g, 0, none⟩)
 | .func f => .func (.func f) #[] #[]
def putF (fl : FL) : Option Nat → Value → FL
 | none, _ => fl
 | some d, v => (d, v) :: fl
def keepF (fl : FL) : List Nat → Option FL
 | [] => some []
 | k :: ks => match look fl k, keepF fl ks with
  | some v, some r => some ((k, v) :: r)
  | _, _ => none
abbrev Px := List PanicEntry → Act → World → Prop
def noP : Px := fun _ _ _ => False
def pex (ε : Px) : Exit → Act → World → Prop := fun e a w => match e with | .panic c => ε c a w | _ => False
def qK (ε : Px) (K : Act → World → Prop) : Exit → Act → World → Prop := fun e a w => match e with | .normal => K a w | .panic c => ε c a w | _ => False
theorem pex_qK {ε : Px} {K : Act → World → Prop} : ∀ e a w, pex ε e a w → qK ε K e a w := fun e a w h => by cases e <;> first | exact h | exact h.elim
def PxOK (ops : Array Oper) (ε : Px) : Prop := ∀ (i : Nat) (o : Oper) (v : Value) (c : List PanicEntry) (a : Act) (w : World), ops[i]? = some o → ε c (a.put o.dst v) w → ε c a w
theorem noP_ok {ops : Array Oper} : PxOK ops noP := fun _ _ _ _ _ _ _ h => h.elim
abbrev mark (D : Nat) : Deferred := { target := .collected D, args := #[] }
structure Fr (a : Act) (N : Nat) (fl : FL) (ds : List Deferred := []) : Prop where
 size : a.tmps.size = N
 defers : a.defers = ds
 look : ∀ t v, look fl t = some v → a.tmps[t]? = some v
variable {a : Act} {N : Nat} {fl : FL} {ds : List Deferred} {ε : Px}
theorem Fr.getD (hf : Fr a N fl ds) {t : Nat} {v : Value} (h : Sx.look fl t = some v) : a.tmps.getD t undef = v := by
 have := hf.look t v h
 rw [Array.getD_eq_getD_getElem?, this]
 rfl
theorem look_keep {fl : FL} : ∀ {ks : List Nat} {r : FL}, keepF fl ks = some r → ∀ t v, look r t = some v → look fl t = some v
 | [], r, h, t, v, hl => by simp only [keepF, Option.some.injEq] at h; subst h; simp [look] at hl
 | k :: ks, r, h, t, v, hl => by
  simp only [keepF] at h
  cases h1 : look fl k with
  | none => rw [h1] at h; simp at h
  | some u =>
   cases h2 : keepF fl ks with
   | none => rw [h1, h2] at h; simp at h
   | some r' =>
    rw [h1, h2] at h
    simp only [Option.some.injEq] at h
    subst h
    simp only [look] at hl
    cases hb : Nat.beq k t with
    | true => rw [hb] at hl; simp only [cond_true, Option.some.injEq] at hl; have := Nat.eq_of_beq_eq_true hb; subst this; rw [h1, hl]
    | false => rw [hb] at hl; exact look_keep h2 t v hl
theorem Fr.keep (hf : Fr a N fl ds) {ks : List Nat} {r : FL} (h : keepF fl ks = some r) : Fr a N r ds :=
 ⟨hf.size, hf.defers, fun t v hl => hf.look t v (look_keep h t v hl)⟩
theorem Fr.put (hf : Fr a N fl ds) {d : Option Nat} (hd : (match d with | some d => Nat.blt d N | none => true) = true) (v : Value) : Fr (a.put d v) N (putF fl d v) ds := by
 cases d with
 | none => exact hf
 | some d =>
  have hlt : d < N := by simpa [Nat.blt_eq] using hd
  refine ⟨by simp [Act.put, hf.size], by simp [Act.put, hf.defers], fun t u hl => ?_⟩
  simp only [putF, Sx.look] at hl
  simp only [Act.put]
  cases hb : Nat.beq d t with
  | true =>
   rw [hb] at hl
   have := Nat.eq_of_beq_eq_true hb
   subst this
   simp only [cond_true, Option.some.injEq] at hl
   subst hl
   simp [hf.size, hlt]
  | false =>
   rw [hb] at hl
   have hne : d ≠ t := Nat.ne_of_beq_eq_false hb
   rw [Array.getElem?_setIfInBounds_ne hne]
   exact hf.look t u hl
def knownX (fl : FL) : Operand → Bool
 | .tmp t => (look fl t).isSome
 | _ => true
def known (fl : FL) (o : Oper) : Bool := o.op.operands.toList.all (knownX fl) && (match o.op with | .select .. => false | _ => true)
theorem Fr.eval (hf : Fr a N fl ds) {x : Operand} (h : knownX fl x = true) : a.eval x = ev fl x := by
 cases x with
 | tmp t =>
  simp only [knownX] at h
  cases hl : Sx.look fl t with
  | none => rw [hl] at h; cases h
  | some v => simp only [Act.eval, ev, hl, Option.getD_some]; exact hf.getD hl
 | _ => rfl
theorem known_noSelect {o : Oper} (h : known fl o = true) : ∀ cs b, o.op ≠ .select cs b := by
 intro cs b e
 simp [known, e] at h
theorem Fr.exec (hf : Fr a N fl ds) {o : Oper} (h : known fl o = true) : execOp a.eval o = execOp (ev fl) o := by
 refine execOp_congr o (known_noSelect h) fun x hx => hf.eval ?_
 simp only [known, Bool.and_eq_true, List.all_eq_true] at h
 exact h.1 x (by simpa using hx)
def wantedF (ops : Array Oper) (fl : FL) (o : Oper) : Option Bool :=
 match o.guard with
 | none => some true
 | some (j, b) => match (ops[j]?).bind (·.dst) with
  | none => none
  | some d => match look fl d with
   | none => none
   | some (.bool c) => some (some c == some b)
   | some _ => some false
theorem wantedF_sound (hf : Fr a N fl ds) {ops : Array Oper} {o : Oper} {b : Bool} (h : wantedF ops fl o = some b) : Region.wanted o (yielded ops a.tmps) = b := by
 unfold wantedF at h
 unfold Region.wanted
 cases hg : o.guard with
 | none => rw [hg] at h; simpa using h
 | some g =>
  obtain ⟨j, c⟩ := g
  rw [hg] at h
  simp only at h ⊢
  unfold yielded
  cases hd : (ops[j]?).bind (·.dst) with
  | none => rw [hd] at h; simp at h
  | some d =>
   rw [hd] at h
   simp only at h
   cases hl : Sx.look fl d with
   | none => rw [hl] at h; simp at h
   | some v =>
    rw [hl] at h
    have := hf.look d v hl
    simp only [Option.bind_some, this]
    cases v <;> simp_all
inductive Obl where
 | cell (a : Addr) (v : Value)
 | prop (p : Prop)
inductive HA (w : World) : List Obl → Prop
 | nil : HA w []
 | cell {a : Addr} {v : Value} {l : List Obl} : w.cell? a = some v → HA w l → HA w (.cell a v :: l)
 | prop {p : Prop} {l : List Obl} : p → HA w l → HA w (.prop p :: l)
theorem HA.left {w : World} : ∀ {l m : List Obl}, HA w (l ++ m) → HA w l
 | [], _, _ => .nil
 | .cell _ _ :: _, _, h => by cases h with | cell e h => exact .cell e (HA.left h)
 | .prop _ :: _, _, h => by cases h with | prop e h => exact .prop e (HA.left h)
theorem HA.right {w : World} : ∀ {l m : List Obl}, HA w (l ++ m) → HA w m
 | [], _, h => h
 | .cell _ _ :: _, _, h => by cases h with | cell _ h => exact HA.right h
 | .prop _ :: _, _, h => by cases h with | prop _ h => exact HA.right h
theorem HA.app {w : World} : ∀ {l m : List Obl}, HA w l → HA w m → HA w (l ++ m)
 | [], _, _, k => k
 | .cell _ _ :: _, _, h, k => by cases h with | cell e h => exact .cell e (HA.app h k)
 | .prop _ :: _, _, h, k => by cases h with | prop e h => exact .prop e (HA.app h k)
def cellsObl : List (Addr × Value) → List Obl
 | [] => []
 | (a, v) :: l => .cell a v :: cellsObl l
theorem cellsObl_sound {w : World} : ∀ {rs : List (Addr × Value)}, HA w (cellsObl rs) → ∀ p ∈ rs, w.cell? p.1 = some p.2
 | [], _, p, hp => by cases hp
 | (a, v) :: l, h, p, hp => by
  simp only [cellsObl] at h
  cases h with
  | cell e h =>
   cases hp with
   | head => exact e
   | tail _ hp => exact cellsObl_sound h p hp
def eqFl (P : Program) (xs ys : Array Value) : List Field → Option Bool
 | [] => some true
 | f :: fs => if f.name ≠ "_" then
   match P.underlying f.type, xs[f.offset]?, ys[f.offset]?, eqFl P xs ys fs with
   | some (.int .i64), some (.int .i64 a), some (.int .i64 b), some r => some ((a == b) && r)
   | some .bool, some (.bool a), some (.bool b), some r => some ((a == b) && r)
   | some .string, some (.string a), some (.string b), some r => some ((a.toList == b.toList) && r)
   | _, _, _, _ => none
  else none
def eqAgg (P : Program) (t : TypeId) (xs ys : Array Value) : Option Bool :=
 match P.underlying t with
 | some (.struct fs) => bif (!P.stoodInHeld t && !P.eqGuardType P.depth t) then eqFl P xs ys fs.toList else none
 | _ => none
theorem eqFl_sound {P : Program} {w : World} {xs ys : Array Value} : ∀ {fs : List Field} {b : Bool}, eqFl P xs ys fs = some b → (Op.eqFields 9999 xs ys fs).run P w = .ok b w
 | [], b, h => by simp only [eqFl, Option.some.injEq] at h; subst h; rfl
 | f :: fs, b, h => by
  simp only [eqFl] at h
  split at h
  ·rename_i hn
   split at h
   ·rename_i a c r hu hx hy hr
    simp only [Option.some.injEq] at h
    subst h
    have h1 := run_equalIn_int (P := P) w 9998 f.type .i64 .i64 a c hu
    simp only [Nat.reduceAdd] at h1
    simp only [Op.eqFields, hn, ne_eq, not_false_eq_true, if_true, part, isAgg, Sem.run_bind, run_underlying hu, Result.andThen_ok, Sem.run_pure, hx, hy, h1, Bool.false_eq_true, if_false]
    cases hac : (a == c)
    ·simp
    ·simp [eqFl_sound hr]
   ·rename_i a c r hu hx hy hr
    simp only [Option.some.injEq] at h
    subst h
    have h1 := run_equalIn_bool' (P := P) w 9998 f.type a c hu
    simp only [Nat.reduceAdd] at h1
    simp only [Op.eqFields, hn, ne_eq, not_false_eq_true, if_true, part, isAgg, Sem.run_bind, run_underlying hu, Result.andThen_ok, Sem.run_pure, hx, hy, h1, Bool.false_eq_true, if_false]
    cases hac : (a == c)
    ·simp
    ·simp [eqFl_sound hr]
   ·rename_i a c r hu hx hy hr
    simp only [Option.some.injEq] at h
    subst h
    have h1 := run_equalIn_string (P := P) w 9998 f.type a c hu
    simp only [Nat.reduceAdd] at h1
    simp only [Op.eqFields, hn, ne_eq, not_false_eq_true, if_true, part, isAgg, Sem.run_bind, run_underlying hu, Result.andThen_ok, Sem.run_pure, hx, hy, h1, Bool.false_eq_true, if_false]
    cases hac : (a.toList == c.toList)
    ·simp
    ·simp [eqFl_sound hr]
   ·cases h
  ·cases h
theorem eqAgg_sound {P : Program} {w : World} {t : TypeId} {xs ys : Array Value} {b : Bool} (h : eqAgg P t xs ys = some b) :
  P.eqGuardType P.depth t = false ∧ (Op.equalIn 10000 t (.agg xs) (.agg ys)).run P w = .ok b w := by
 unfold eqAgg at h
 split at h
 ·rename_i fs hu
  cases hc : (!P.stoodInHeld t && !P.eqGuardType P.depth t) with
  | false => rw [hc] at h; simp at h
  | true =>
   rw [hc] at h
   simp only [cond_true] at h
   simp only [Bool.and_eq_true, Bool.not_eq_true'] at hc
   have hf : P.fieldsOf t = fs := by simp [Program.fieldsOf, hu]
   have h1 := run_equalIn_struct (P := P) w 9999 t xs ys (by rw [hf]; exact hu) hc.1
   refine ⟨hc.2, ?_⟩
   simp only [Nat.reduceAdd] at h1
   rw [h1, hf]
   exact eqFl_sound h
 ·cases h
def opG (P : Program) (ρ : Operand → Value) (o : Oper) (os : List Value) : Option (Value × List Obl × List Value) :=
 match runO P (execOp ρ o) os with
 | some (.value v, rs, os') => some (v, cellsObl rs, os')
 | _ => none
def subO (o : Option Addr) (cap lo size : Nat) : Option Addr := if cap = lo then o else o.map (·.add (lo * size))
def bndV (d : Nat) : Option Value → Option Int
 | none => some d
 | some (.int _ i) => some i
 | _ => none
theorem run_subO {P : Program} {w : World} {t elem : TypeId} {inf : TypeInfo} {o : Option Addr} {len cap : Nat} {lo hi : Option Value} {l h : Int}
  (hu : P.underlying t = some (.slice elem)) (hi' : P.info? elem = some inf) (hl : bndV 0 lo = some l) (hh : bndV len hi = some h) (hb : 0 ≤ l ∧ l ≤ h ∧ h ≤ (cap : Int) ∧ len ≤ cap) :
  (Instr.sliceAt t (.slice o len cap) lo hi none).run P w = .ok (.slice (subO o cap l.toNat inf.size) (h.toNat - l.toNat) (cap - l.toNat)) w := by
 obtain ⟨h0, h1, h2, h3⟩ := hb
 have he : P.elem t = elem := by simp [Program.elem, hu]
 have hu' : P.underlying t = some (.slice (P.elem t)) := by rw [he]; exact hu
 have hs : (sizeOf (P.elem t)).run P w = .ok inf.size w := by rw [he]; simp [sizeOf, typeInfo, hi']
 rw [run_sliceAt_slice w t _ lo hi none hu']
 have eh : (h.toNat : Int) = h := Int.toNat_of_nonneg (by omega)
 cases lo with
 | none =>
  simp only [bndV, Option.some.injEq] at hl
  subst hl
  cases hi with
  | none =>
   simp only [bndV, Option.some.injEq] at hh
   subst hh
   rw [run_slice_all w t o len cap hu', hs]
   simp [sliced, subO, Result.andThen]
  | some v =>
   cases v with
   | int k i =>
    simp only [bndV, Option.some.injEq] at hh
    subst hh
    rw [run_slice_h w t o len cap hu' k i (by omega) h2, hs]
    simp [sliced, subO, Result.andThen]
   | _ => simp [bndV] at hh
 | some u =>
  cases u with
  | int k' j =>
   simp only [bndV, Option.some.injEq] at hl
   subst hl
   cases hi with
   | none =>
    simp only [bndV, Option.some.injEq] at hh
    subst hh
    rw [run_slice_l w t o len cap hu' k' j h0 h1, hs]
    simp [sliced, subO, Result.andThen]
   | some v =>
    cases v with
    | int k i =>
     simp only [bndV, Option.some.injEq] at hh
     subst hh
     rw [run_slice_lh w t o len cap hu' k' k j i h0 h1 h2, hs]
     simp [sliced, subO, Result.andThen]
    | _ => simp [bndV] at hh
  | _ => simp [bndV] at hl
def byteAt (s : ByteArray) (i : Int) : Option Int := if 0 ≤ i then (s[i.toNat]?).map (fun b => ((b.toNat : Nat) : Int)) else none
theorem byteAt_run {P : Program} {w : World} {t : TypeId} {s : ByteArray} {k : IntKind} {i n : Int} (h : P.underlying t = some .string) (e : byteAt s i = some n) : (Instr.index t (.string s) (.int k i)).run P w = .ok (.int .u8 n) w := by
 unfold byteAt at e
 split at e
 ·rename_i h0
  cases hs : s[i.toNat]? with
  | none => rw [hs] at e; cases e
  | some b =>
   rw [hs] at e
   simp only [Option.map_some, Option.some.injEq] at e
   subst e
   simp [Instr.index, asIntOf, run_underlying h, h0, hs]
 ·cases e
theorem run_subS {P : Program} {w : World} {t : TypeId} {s : ByteArray} {lo hi : Option Value} {l h : Int}
  (hu : P.underlying t = some .string) (hl : bndV 0 lo = some l) (hh : bndV s.size hi = some h) (hb : 0 ≤ l ∧ l ≤ h ∧ h ≤ (s.size : Int)) :
  (Instr.sliceAt t (.string s) lo hi none).run P w = .ok (.string (s.extract l.toNat h.toNat)) w := by
 obtain ⟨h0, h1, h2⟩ := hb
 have eh : (h.toNat : Int) = h := Int.toNat_of_nonneg (by omega)
 rw [run_sliceAt_string w t _ lo hi none hu]
 cases lo with
 | none =>
  simp only [bndV, Option.some.injEq] at hl
  subst hl
  cases hi with
  | none =>
   simp only [bndV, Option.some.injEq] at hh
   subst hh
   rw [run_slice_string_all w t s hu]
   simp
  | some v =>
   cases v with
   | int k i =>
    simp only [bndV, Option.some.injEq] at hh
    subst hh
    rw [run_slice_string_h w t s hu k i (by omega) h2]
    simp
   | _ => simp [bndV] at hh
 | some u =>
  cases u with
  | int k' j =>
   simp only [bndV, Option.some.injEq] at hl
   subst hl
   cases hi with
   | none =>
    simp only [bndV, Option.some.injEq] at hh
    subst hh
    rw [run_slice_string_l w t s hu k' j h0 h1]
    simp
   | some v =>
    cases v with
    | int k i =>
     simp only [bndV, Option.some.injEq] at hh
     subst hh
     simp [Instr.slice, run_underlying hu, Instr.sliceBounds, run_sliceBound, h0, h1, h2, eh, (by omega : 0 ≤ i)]
    | _ => simp [bndV] at hh
  | _ => simp [bndV] at hl
def opQ (P : Program) (ρ : Operand → Value) (o : Oper) (os : List Value) : Option (Value × List Obl × List Value) :=
 match o.op with
 | .indexAddr t x ix => match ρ ix, P.underlying t, ρ x with
  | .int _ i, some (.array len elem), .pointer (some a) => match P.info? elem with
   | some inf => some (.pointer (some (a.add (i.toNat * inf.size))), [.prop (0 ≤ i ∧ i < len)], os)
   | none => none
  | .int _ i, some (.slice elem), .slice o len _ => match P.info? elem, os with
   | some inf, .pointer (some a) :: os' => some (.pointer (some (a.add (i.toNat * inf.size))), [.prop (o = some a), .prop (0 ≤ i ∧ i < len)], os')
   | _, _ => none
  | _, _, _ => none
 | .slice t x lo hi none => match P.underlying t, ρ x, bndV 0 (lo.map ρ), os with
  | some (.slice elem), .slice o len cap, some l, v :: os' => match P.info? elem, bndV len (hi.map ρ) with
   | some inf, some h => some (v, [.prop (v = .slice (subO o cap l.toNat inf.size) (h.toNat - l.toNat) (cap - l.toNat)), .prop (0 ≤ l ∧ l ≤ h ∧ h ≤ (cap : Int) ∧ len ≤ cap)], os')
   | _, _ => none
  | some .string, .string s, some l, os' => match bndV s.size (hi.map ρ) with
   | some h => some (.string (s.extract l.toNat h.toNat), [.prop (0 ≤ l ∧ l ≤ h ∧ h ≤ (s.size : Int))], os')
   | none => none
  | _, _, _, _ => none
 | .index t x ix => match ρ ix, P.underlying t, ρ x, os with
  | .int _ i, some (.array len elem), .agg cs, v :: os' => match P.info? elem, runO P (isAgg elem) [] with
   | some inf, some (false, [], []) => some (v, [.prop (0 ≤ i ∧ i < len), .prop (cs[i.toNat * inf.size]? = some v)], os')
   | _, _ => none
  | .int _ i, some .string, .string s, .int .u8 n :: os' => some (.int .u8 n, [.prop (byteAt s i = some n)], os')
  | _, _, _, _ => none
 | .binOp .add _ x y _ => match ρ x, ρ y with
  | .string s, .string t => some (.string (s ++ t), [.prop (s.size + t.size ≤ 9223372036854775807)], os)
  | _, _ => opG P ρ o os
 | .binOp .quo _ x y _ => match ρ x, ρ y with
  | .int .i64 m, .int .i64 n => some (.int .i64 (IntKind.i64.wrap (m.tdiv n)), [.prop (n ≠ 0)], os)
  | _, _ => none
 | .binOp .rem _ x y _ => match ρ x, ρ y with
  | .int .i64 m, .int .i64 n => some (.int .i64 (m.tmod n), [.prop (n ≠ 0)], os)
  | _, _ => none
 | .binOp .eql t x y _ => match ρ x, ρ y with
  | .agg xs, .agg ys => match eqAgg P t xs ys with
   | some b => some (.bool b, [], os)
   | none => none
  | _, _ => opG P ρ o os
 | .binOp .neq t x y _ => match ρ x, ρ y with
  | .agg xs, .agg ys => match eqAgg P t xs ys with
   | some b => some (.bool (!b), [], os)
   | none => none
  | _, _ => opG P ρ o os
 | _ => opG P ρ o os
theorem opG_sound {P : Program} {ρ : Operand → Value} {o : Oper} {os : List Value} {v : Value} {obs : List Obl} {os' : List Value} {w : World}
  (h : opG P ρ o os = some (v, obs, os')) (hob : HA w obs) : (execOp ρ o).run P w = .ok (.value v) w := by
 unfold opG at h
 split at h
 ·rename_i u rs os'' hr
  simp only [Option.some.injEq, Prod.mk.injEq] at h
  obtain ⟨rfl, rfl, rfl⟩ := h
  exact runO_sound _ hr (cellsObl_sound hob)
 ·cases h
theorem opQ_sound {P : Program} {ρ : Operand → Value} {o : Oper} {os : List Value} {v : Value} {obs : List Obl} {os' : List Value} {w : World}
  (h : opQ P ρ o os = some (v, obs, os')) (hob : HA w obs) : (execOp ρ o).run P w = .ok (.value v) w := by
 unfold opQ at h
 split at h
 ·rename_i t x ix ho
  split at h
  ·rename_i k i len elem a hi hu hx
   split at h
   ·rename_i inf hinf
    simp only [Option.some.injEq, Prod.mk.injEq] at h
    obtain ⟨rfl, rfl, rfl⟩ := h
    cases hob with
    | prop hp _ => simp [execOp, ho, Instr.indexAt, asIntOf, hi, hx, run_underlying hu, Instr.sureAddr, sizeOf, typeInfo, hinf, hp]
   ·cases h
  ·rename_i k i elem o len cap hi hu hx
   split at h
   ·rename_i inf a os2 hinf
    simp only [Option.some.injEq, Prod.mk.injEq] at h
    obtain ⟨rfl, rfl, rfl⟩ := h
    cases hob with
    | prop ha hob =>
     cases hob with
     | prop hp _ => subst ha; simp [execOp, ho, Instr.indexAt, asIntOf, hi, hx, run_underlying hu, sizeOf, typeInfo, hinf, hp]
   ·cases h
  ·cases h
 ·rename_i t x lo hi ho
  split at h
  ·rename_i elem o len cap l v os2 hu hx hl
   split at h
   ·rename_i inf h' hinf hh
    simp only [Option.some.injEq, Prod.mk.injEq] at h
    obtain ⟨rfl, rfl, rfl⟩ := h
    cases hob with
    | prop hv hob =>
     cases hob with
     | prop hp _ =>
      have := run_subO (P := P) (w := w) (o := o) hu hinf hl hh hp
      subst hv
      simp [execOp, ho, hx, this]
   ·cases h
  ·rename_i s l os2 hu hx hl
   split at h
   ·rename_i h' hh
    simp only [Option.some.injEq, Prod.mk.injEq] at h
    obtain ⟨rfl, rfl, rfl⟩ := h
    cases hob with
    | prop hp _ =>
     have := run_subS (P := P) (w := w) hu hl hh hp
     simp [execOp, ho, hx, this]
   ·cases h
  ·cases h
 ·rename_i t x ix ho
  split at h
  ·rename_i k i len elem cs v os2 hi hu hx
   split at h
   ·rename_i inf hinf hagg
    simp only [Option.some.injEq, Prod.mk.injEq] at h
    obtain ⟨rfl, rfl, rfl⟩ := h
    cases hob with
    | prop hb hob =>
     cases hob with
     | prop hp _ =>
      have h1 : (isAgg elem).run P w = .ok false w := runO_sound _ hagg (by simp)
      simp [execOp, ho, Instr.index, asIntOf, hi, hx, run_underlying hu, sizeOf, typeInfo, hinf, hb, part, h1, hp]
   ·cases h
  ·rename_i k i s n os2 hi hu hx
   simp only [Option.some.injEq, Prod.mk.injEq] at h
   obtain ⟨rfl, rfl, rfl⟩ := h
   cases hob with
   | prop hb hob =>
    have := byteAt_run (P := P) (w := w) (k := k) hu hb
    simp [execOp, ho, hi, hx, this]
  ·cases h
 ·rename_i t x y t' ho
  split at h
  ·rename_i s u hx hy
   simp only [Option.some.injEq, Prod.mk.injEq] at h
   obtain ⟨rfl, rfl, rfl⟩ := h
   cases hob with
   | prop hp _ =>
    have hp' : (s.size : Int) + (u.size : Int) ≤ 9223372036854775807 := by omega
    simp [execOp, ho, hx, hy, binOp, eqGuard, Op.stringOp, hp']
  ·exact opG_sound h hob
 ·rename_i t x y t' ho
  split at h
  ·rename_i m n hm hn
   simp only [Option.some.injEq, Prod.mk.injEq] at h
   obtain ⟨rfl, rfl, rfl⟩ := h
   cases hob with
   | prop hp _ => simp [execOp, ho, hm, hn, binOp, eqGuard, Op.intDiv, hp]
  ·cases h
 ·rename_i t x y t' ho
  split at h
  ·rename_i m n hm hn
   simp only [Option.some.injEq, Prod.mk.injEq] at h
   obtain ⟨rfl, rfl, rfl⟩ := h
   cases hob with
   | prop hp _ => simp [execOp, ho, hm, hn, binOp, eqGuard, Op.intDiv, hp]
  ·cases h
 ·rename_i t x y t' ho
  split at h
  ·rename_i xs ys hx hy
   split at h
   ·rename_i b hb
    simp only [Option.some.injEq, Prod.mk.injEq] at h
    obtain ⟨rfl, rfl, rfl⟩ := h
    obtain ⟨hg, he⟩ := eqAgg_sound (w := w) hb
    simp only [execOp, ho, hx, hy, Sem.run_bind, run_eqGuard_agg w .eql t x y xs ys hg, Result.andThen_ok, run_eql_struct, he, Sem.run_pure]
   ·cases h
  ·exact opG_sound h hob
 ·rename_i t x y t' ho
  split at h
  ·rename_i xs ys hx hy
   split at h
   ·rename_i b hb
    simp only [Option.some.injEq, Prod.mk.injEq] at h
    obtain ⟨rfl, rfl, rfl⟩ := h
    obtain ⟨hg, he⟩ := eqAgg_sound (w := w) hb
    simp only [execOp, ho, hx, hy, Sem.run_bind, run_eqGuard_agg w .neq t x y xs ys hg, Result.andThen_ok, run_neq_struct, he, Sem.run_pure]
   ·cases h
  ·exact opG_sound h hob
 ·exact opG_sound h hob
def evI (P : Program) (R : Array Oper) (N : Nat) : List Nat → FL → List Value → Option (FL × List Obl × List Value)
 | [], fl, os => some (fl, [], os)
 | k :: ks, fl, os => match R[k]? with
  | none => none
  | some o => bif (match o.dst with | some d => Nat.blt d N | none => true) then
   match wantedF R fl o with
   | none => none
   | some false => evI P R N ks (putF fl o.dst undef) os
   | some true => bif known fl o then
     match opQ P (ev fl) o os with
     | none => none
     | some (v, obs, os') => match evI P R N ks (putF fl o.dst v) os' with
      | none => none
      | some (fl', obs', os'') => some (fl', obs ++ obs', os'')
    else none
   else none
def evK (P : Program) (R : Array Oper) (N : Nat) (ks : List Nat) (fl : FL) (os : List Value) (keep : List Nat) : Option (FL × List Obl) :=
 match evI P R N ks fl os with
 | some (fl', obs, []) => match keepF fl' keep with
  | some r => some (r, obs)
  | none => none
 | _ => none
def depL (md : Region.Mode) (o : Oper) : List Nat := (o.after.toList.filter (Region.binds md)).map (·.on)
def closL (md : Region.Mode) (ops : Array Oper) : Nat → List Nat → List Nat → List Nat
 | 0, _, done => done
 | _ + 1, [], done => done
 | f + 1, k :: todo, done => if done.contains k then closL md ops f todo done else match ops[k]? with
  | none => closL md ops f todo done
  | some o => closL md ops f (depL md o ++ todo) (k :: done)
def aheadL (md : Region.Mode) (ops : Array Oper) (y : Nat) : List Nat := match ops[y]? with
 | none => []
 | some o => closL md ops (ops.size * ops.size + ops.size) (depL md o) []
def Closed (md : Region.Mode) (ops : Array Oper) (listed : Array Bool) : Prop :=
 ∀ k o, ops[k]? = some o → listed.getD k false = true → ∀ e ∈ o.after, Region.binds md e = true → listed.getD e.on false = true
theorem depL_mem {md : Region.Mode} {o : Oper} {k : Nat} : k ∈ depL md o ↔ ∃ e ∈ o.after, Region.binds md e = true ∧ e.on = k := by
 unfold depL
 simp only [List.mem_map, List.mem_filter, Array.mem_toList_iff]
 exact ⟨fun ⟨e, ⟨h1, h2⟩, h3⟩ => ⟨e, h1, h2, h3⟩, fun ⟨e, h1, h2, h3⟩ => ⟨e, ⟨h1, h2⟩, h3⟩⟩
theorem closL_listed {md : Region.Mode} {R : Array Oper} {listed : Array Bool} (hc : Closed md R listed) : ∀ (f : Nat) (todo done : List Nat), (∀ k ∈ todo, listed.getD k false = true) → (∀ k ∈ done, listed.getD k false = true) →
  ∀ k ∈ closL md R f todo done, listed.getD k false = true
 | 0, _, _, _, hd => hd
 | _ + 1, [], _, _, hd => hd
 | f + 1, k :: todo, done, ht, hd => by
  unfold closL
  split
  ·exact closL_listed hc f todo done (fun j hj => ht j (List.mem_cons_of_mem _ hj)) hd
  ·cases hk : R[k]? with
   | none => exact closL_listed hc f todo done (fun j hj => ht j (List.mem_cons_of_mem _ hj)) hd
   | some o =>
    have hl := ht k (List.mem_cons_self ..)
    refine closL_listed hc f (depL md o ++ todo) (k :: done) (fun j hj => ?_) (fun j hj => ?_)
    ·rcases List.mem_append.1 hj with h1 | h1
     ·obtain ⟨e, he, hb, rfl⟩ := depL_mem.1 h1
      exact hc k o hk hl e he hb
     ·exact ht j (List.mem_cons_of_mem _ h1)
    ·rcases List.mem_cons.1 hj with h1 | h1
     ·subst h1; exact hl
     ·exact hd j h1
theorem reach_listed {md : Region.Mode} {R : Array Oper} {listed : Array Bool} (hc : Closed md R listed) {i y : Nat} {o : Oper} (ho : R[y]? = some o) (hall : ∀ e ∈ o.after, Region.binds md e = true → listed.getD e.on false = true)
  (h : (aheadL md R y).contains i = true) : listed.getD i false = true := by
 unfold aheadL at h
 rw [ho] at h
 simp only at h
 refine closL_listed hc _ _ _ (fun k hk => ?_) (fun k hk => absurd hk (List.not_mem_nil)) i (List.contains_iff_mem.1 h)
 obtain ⟨e, he, hb, rfl⟩ := depL_mem.1 hk
 exact hall e he hb
theorem Closed.set {md : Region.Mode} {R : Array Oper} {listed : Array Bool} (hc : Closed md R listed) {j : Nat} (hj : j ∈ Region.ready md R listed) : Closed md R (listed.setIfInBounds j true) := by
 intro k o hk hl e he hb
 obtain ⟨_, oj, hoj, hall⟩ := mem_ready.1 hj
 by_cases hkj : k = j
 ·subst hkj
  rw [hoj] at hk
  cases hk
  exact getD_set_true (hall e he hb)
 ·rw [getD_set_ne false (Ne.symm hkj)] at hl
  exact getD_set_true (hc k o hk hl e he hb)
theorem Closed.none {md : Region.Mode} {R : Array Oper} (n : Nat) : Closed md R (Array.replicate n false) := fun k o hk hl => by
 exfalso
 rw [Array.getD_eq_getD_getElem?, Array.getElem?_replicate] at hl
 split at hl <;> cases hl
def lateB (md : Region.Mode) (ops : Array Oper) (m : List Nat) (i : Nat) : Bool := m.all fun j => (aheadL md ops j).contains i
def wpPlan (ε : Px) (P : Program) (ops : Array Oper) (m : List Nat) (S : World → Prop) (K : Act → World → Prop) : List (Nat × Bool) → Act → World → Prop
 | [], a, w => K a w
 | (i, true) :: rest, a, w => ∃ o v, ops[i]? = some o ∧ ((YieldsIf P ops S o v a ∧ S w ∧ lateB .any ops m i = true) ∨ YieldsIf P ops (fun _ => True) o v a) ∧ wpPlan ε P ops m S K rest (a.put o.dst v) w
 | (i, false) :: rest, a, w => wpOp P ops (pex ε) i (fun a' w' => (m.contains i = false → S w') ∧ wpPlan ε P ops m S K rest a' w') a w
theorem wpOp_post {P : Program} {ops : Array Oper} {Q Q' : Exit → Act → World → Prop} (hq : ∀ e a w, Q e a w → Q' e a w) {i : Nat} {K : Act → World → Prop} {a : Act} {w : World} (h : wpOp P ops Q i K a w) : wpOp P ops Q' i K a w := by
 have hl : LetsOut Q → LetsOut Q' := fun ⟨a, w, h⟩ => ⟨a, w, hq _ _ _ h⟩
 unfold wpOp at *
 split
 ·rename_i ho; simp only [ho] at h; exact h
 ·rename_i o ho
  simp only [ho] at h
  split
  ·rename_i hw
   simp only [hw, if_true] at h
   refine h.imp (fun h => ?_) (fun ⟨h1, h2⟩ => ⟨h1, hl h2⟩)
   unfold Oper.wp at *
   generalize (execOp a.eval o).run P w = r at *
   cases r with
   | ok n w' =>
    cases n <;> simp only [Oper.upon] at h ⊢ <;>
     first
      | exact h
      | exact Calls.mono h (fun e w'' he => by cases e <;> first | exact he | exact hq _ _ _ he | exact hl he)
   | halt x w' => cases x <;> simp only [Oper.upon] at h ⊢ <;> exact hq _ _ _ h
  ·rename_i hw; simp only [hw] at h; exact h
def allFlag (b : Bool) (pl : List (Nat × Bool)) : Bool := pl.all (fun p => p.2 == b)
theorem wpPlan_quiet {P : Program} {R : Array Oper} {m : List Nat} {S : World → Prop} {K : Act → World → Prop} {w : World} : ∀ (pl : List (Nat × Bool)) (hSw : ∀ p ∈ pl, m.contains p.1 = false → S w) {a : Act} {fl : FL} {os : List Value} {fl' : FL} {obs : List Obl} {os' : List Value} {rest : List (Nat × Bool)},
  allFlag false pl = true → Fr a N fl ds → evI P R N (pl.map (·.1)) fl os = some (fl', obs, os') → HA w obs →
  (∀ a', Fr a' N fl' ds → wpPlan ε P R m S K rest a' w) → wpPlan ε P R m S K (pl ++ rest) a w
 | [], _, a, fl, os, fl', obs, os', rest, _, hf, he, _, k => by
  simp only [List.map_nil, evI, Option.some.injEq, Prod.mk.injEq] at he
  obtain ⟨rfl, _, _⟩ := he
  exact k a hf
 | (i, b) :: pl, hSw, a, fl, os, fl', obs, os', rest, hfl, hf, he, hob, k => by
  simp only [allFlag, List.all_cons, Bool.and_eq_true, beq_iff_eq] at hfl
  obtain ⟨hb, hfl⟩ := hfl
  subst hb
  simp only [List.map_cons, evI] at he
  show wpOp P R _ i (fun a' w' => (m.contains i = false → S w') ∧ wpPlan ε P R m S K (pl ++ rest) a' w') a w
  unfold wpOp
  cases hR : R[i]? with
  | none => rw [hR] at he; simp at he
  | some o =>
   rw [hR] at he
   simp only at he ⊢
   cases hd : (match o.dst with | some d => Nat.blt d N | none => true) with
   | false => rw [hd] at he; simp at he
   | true =>
    rw [hd] at he
    simp only [cond_true] at he
    cases hw : wantedF R fl o with
    | none => rw [hw] at he; simp at he
    | some c =>
     rw [hw] at he
     rw [wantedF_sound hf hw]
     cases c with
     | false =>
      simp only at he
      exact ⟨hSw _ (List.mem_cons_self ..), wpPlan_quiet pl (fun p hp => hSw p (List.mem_cons_of_mem _ hp)) hfl (hf.put hd undef) he hob k⟩
     | true =>
      simp only at he
      cases hk : known fl o with
      | false => rw [hk] at he; simp at he
      | true =>
       rw [hk] at he
       simp only [cond_true] at he
       cases hq : opQ P (ev fl) o os with
       | none => rw [hq] at he; simp at he
       | some t =>
        obtain ⟨v, obs1, os1⟩ := t
        rw [hq] at he
        simp only at he
        cases hr : evI P R N (pl.map (·.1)) (putF fl o.dst v) os1 with
        | none => rw [hr] at he; simp at he
        | some t' =>
         obtain ⟨fl2, obs2, os2⟩ := t'
         rw [hr] at he
         simp only [Option.some.injEq, Prod.mk.injEq] at he
         obtain ⟨rfl, rfl, rfl⟩ := he
         refine .inl ?_
         unfold Oper.wp
         rw [hf.exec hk, opQ_sound hq hob.left]
         exact ⟨hSw _ (List.mem_cons_self ..), wpPlan_quiet pl (fun p hp => hSw p (List.mem_cons_of_mem _ hp)) hfl (hf.put hd v) hr hob.right k⟩
theorem wpPlan_firstP {P : Program} {R : Array Oper} {m : List Nat} {S : World → Prop} {K : Act → World → Prop} {w : World} : ∀ (pl : List (Nat × Bool)) {a : Act} {fl : FL} {os : List Value} {fl' : FL} {obs : List Obl} {os' : List Value} {rest : List (Nat × Bool)},
  allFlag true pl = true → Fr a N fl ds → evI P R N (pl.map (·.1)) fl os = some (fl', obs, os') → (∀ w', HA w' obs) →
  (∀ a', Fr a' N fl' ds → wpPlan ε P R m S K rest a' w) → wpPlan ε P R m S K (pl ++ rest) a w
 | [], a, fl, os, fl', obs, os', rest, _, hf, he, _, k => by
  simp only [List.map_nil, evI, Option.some.injEq, Prod.mk.injEq] at he
  obtain ⟨rfl, _, _⟩ := he
  exact k a hf
 | (i, b) :: pl, a, fl, os, fl', obs, os', rest, hfl, hf, he, hob, k => by
  simp only [allFlag, List.all_cons, Bool.and_eq_true, beq_iff_eq] at hfl
  obtain ⟨hb, hfl⟩ := hfl
  subst hb
  simp only [List.map_cons, evI] at he
  show ∃ o v, R[i]? = some o ∧ ((YieldsIf P R S o v a ∧ S w ∧ lateB .any R m i = true) ∨ YieldsIf P R (fun _ => True) o v a) ∧ wpPlan ε P R m S K (pl ++ rest) (a.put o.dst v) w
  cases hR : R[i]? with
  | none => rw [hR] at he; simp at he
  | some o =>
   rw [hR] at he
   simp only at he
   cases hd : (match o.dst with | some d => Nat.blt d N | none => true) with
   | false => rw [hd] at he; simp at he
   | true =>
    rw [hd] at he
    simp only [cond_true] at he
    cases hw : wantedF R fl o with
    | none => rw [hw] at he; simp at he
    | some c =>
     rw [hw] at he
     have hwa := wantedF_sound hf hw
     cases c with
     | false =>
      simp only at he
      exact ⟨o, undef, rfl, .inr (.inr ⟨hwa, rfl⟩), wpPlan_firstP pl hfl (hf.put hd undef) he hob k⟩
     | true =>
      simp only at he
      cases hk : known fl o with
      | false => rw [hk] at he; simp at he
      | true =>
       rw [hk] at he
       simp only [cond_true] at he
       cases hq : opQ P (ev fl) o os with
       | none => rw [hq] at he; simp at he
       | some t =>
        obtain ⟨v, obs1, os1⟩ := t
        rw [hq] at he
        simp only at he
        cases hr : evI P R N (pl.map (·.1)) (putF fl o.dst v) os1 with
        | none => rw [hr] at he; simp at he
        | some t' =>
         obtain ⟨fl2, obs2, os2⟩ := t'
         rw [hr] at he
         simp only [Option.some.injEq, Prod.mk.injEq] at he
         obtain ⟨rfl, rfl, rfl⟩ := he
         refine ⟨o, v, rfl, .inr (.inl ⟨hwa, fun w' _ => ?_⟩), wpPlan_firstP pl hfl (hf.put hd v) hr (fun w' => (hob w').right) k⟩
         rw [hf.exec hk]
         exact opQ_sound hq (hob w').left
theorem evK_spec {P : Program} {R : Array Oper} {ks : List Nat} {fl : FL} {os : List Value} {keep : List Nat} {fl' : FL} {obs : List Obl}
  (h : evK P R N ks fl os keep = some (fl', obs)) : ∃ fl1, evI P R N ks fl os = some (fl1, obs, []) ∧ keepF fl1 keep = some fl' := by
 unfold evK at h
 split at h
 ·rename_i fl1 obs1 he
  split at h
  ·rename_i r hk
   simp only [Option.some.injEq, Prod.mk.injEq] at h
   obtain ⟨rfl, rfl⟩ := h
   exact ⟨fl1, he, hk⟩
  ·cases h
 ·cases h
theorem p_runL {P : Program} {R : Array Oper} {m : List Nat} {S : World → Prop} {K : Act → World → Prop} {w : World} {pl : List (Nat × Bool)} (n : Nat) (os : List Value) (keep : List Nat) {fl' : FL} {obs : List Obl}
  (hm : ((pl.take n).all fun p => m.contains p.1) = true) (hf : Fr a N fl ds) (hfl : allFlag false (pl.take n) = true) (he : evK P R N ((pl.take n).map (·.1)) fl os keep = some (fl', obs)) (hob : HA w obs)
  (k : ∀ a', Fr a' N fl' ds → wpPlan ε P R m S K (pl.drop n) a' w) : wpPlan ε P R m S K pl a w := by
 obtain ⟨fl1, h1, h2⟩ := evK_spec he
 have := wpPlan_quiet (S := S) (m := m) (K := K) (rest := pl.drop n) (pl.take n) (fun p hp h0 => by have := List.all_eq_true.1 hm p hp; rw [this] at h0; cases h0) hfl hf h1 hob fun a' hf' => k a' (hf'.keep h2)
 rwa [List.take_append_drop] at this
theorem p_firstP {P : Program} {R : Array Oper} {m : List Nat} {S : World → Prop} {K : Act → World → Prop} {w : World} {pl : List (Nat × Bool)} (n : Nat) (os : List Value) (keep : List Nat) {fl' : FL} {obs : List Obl}
  (hf : Fr a N fl ds) (hfl : allFlag true (pl.take n) = true) (he : evK P R N ((pl.take n).map (·.1)) fl os keep = some (fl', obs)) (hob : ∀ w', HA w' obs)
  (k : ∀ a', Fr a' N fl' ds → wpPlan ε P R m S K (pl.drop n) a' w) : wpPlan ε P R m S K pl a w := by
 obtain ⟨fl1, h1, h2⟩ := evK_spec he
 have := wpPlan_firstP (S := S) (m := m) (K := K) (rest := pl.drop n) (pl.take n) hfl hf h1 hob fun a' hf' => k a' (hf'.keep h2)
 rwa [List.take_append_drop] at this
def noLate (m : List Nat) (listed : Array Bool) : Prop := ∀ k ∈ m, listed.getD k false = false
theorem noLate.unset {m : List Nat} {listed : Array Bool} {i : Nat} (h : noLate m (listed.setIfInBounds i true)) : noLate m listed := fun k hk => by
 cases hb : listed.getD k false with
 | false => rfl
 | true => have := h k hk; rw [getD_set_true hb] at this; cases this
theorem noLate.set {m : List Nat} {listed : Array Bool} {i : Nat} (h : noLate m listed) (hi : i ∉ m) : noLate m (listed.setIfInBounds i true) := fun k hk => by
 rw [getD_set_ne false (by rintro rfl; exact hi hk)]
 exact h k hk
theorem noLate.not_mem {m : List Nat} {listed : Array Bool} {i : Nat} (hi : i < listed.size) (h : noLate m (listed.setIfInBounds i true)) : i ∉ m := fun hm => by
 have := h i hm
 simp [Array.getD_eq_getD_getElem?, hi] at this
theorem unlisted_false {listed : Array Bool} {i : Nat} (h0 : listed.getD i true = false) : listed.getD i false = false := by
 rcases Nat.lt_or_ge i listed.size with h' | h'
 ·simp [h'] at h0 ⊢; exact h0
 ·simp [Array.getElem?_eq_none h'] at h0
theorem unlisted_lt {listed : Array Bool} {i : Nat} (h0 : listed.getD i true = false) : i < listed.size := by
 rcases Nat.lt_or_ge i listed.size with h' | h'
 ·exact h'
 ·simp [Array.getElem?_eq_none h'] at h0
def wpAnyK (P : Program) (md : Region.Mode) (ops : Array Oper) (Q : Exit → Act → World → Prop) (m : List Nat) (S : World → Prop) : Nat → Array Bool → Act → World → Prop
 | 0, listed, a, w => Region.ready md ops listed = [] ∧ Q .normal a w
 | fuel + 1, listed, a, w =>
  (Region.ready md ops listed = [] → Q .normal a w) ∧
  ∀ i ∈ Region.ready md ops listed, wpOp P ops Q i (fun a' w' => (noLate m (listed.setIfInBounds i true) → S w') ∧ wpAnyK P md ops Q m S fuel (listed.setIfInBounds i true) a' w') a w
theorem lateB_none {md : Region.Mode} {ops : Array Oper} {m : List Nat} {i : Nat} {listed : Array Bool} (hl : lateB md ops m i = true) (hcl : Closed md ops listed) (hsz : listed.size = ops.size) (hi : listed.getD i true = false) : noLate m listed := fun k hk => by
 cases hb : listed.getD k false with
 | false => rfl
 | true =>
  have hre := List.all_eq_true.1 hl k hk
  cases ho : ops[k]? with
  | none => simp [aheadL, ho] at hre
  | some o =>
   have := reach_listed hcl ho (hcl k o ho hb) hre
   rw [unlisted_false hi] at this
   cases this
theorem lateB_ready {md : Region.Mode} {ops : Array Oper} {m : List Nat} {i j : Nat} {listed : Array Bool} (hl : lateB md ops m i = true) (hcl : Closed md ops listed) (hi : listed.getD i true = false) (hj : j ∈ Region.ready md ops listed) : j ∉ m := fun hk => by
 obtain ⟨_, o, ho, hall⟩ := mem_ready.1 hj
 have := reach_listed hcl ho hall (List.all_eq_true.1 hl j hk)
 rw [unlisted_false hi] at this
 cases this
section first
variable {P : Program} {md : Region.Mode} {ops : Array Oper} {Q : Exit → Act → World → Prop} {m : List Nat} {S : World → Prop} {i : Nat} {oi : Oper} {v : Value}
theorem wpAnyK_first (hsink : lateB md ops m i = true) (hi : ops[i]? = some oi) (hsel : ∀ (j : Nat) (o : Oper) cs b, ops[j]? = some o → o.op ≠ .select cs b)
  (hQ : ∀ c a w, Q (.panic c) (a.put oi.dst v) w → Q (.panic c) a w) :
  ∀ (fuel : Nat) (listed : Array Bool) (a : Act) (w : World), Closed md ops listed → listed.size = ops.size →
   (∀ j oj, ops[j]? = some oj → j ≠ i → listed.getD j true = false → (∀ e ∈ oj.after, Region.binds md e = true → e.on ≠ i) → oi.apart ops oj = true) →
   i ∈ Region.ready md ops listed → YieldsIf P ops S oi v a → S w →
   wpAnyK P md ops Q m S fuel (listed.setIfInBounds i true) (a.put oi.dst v) w → wpAnyK P md ops Q m S (fuel + 1) listed a w := by
 intro fuel
 induction fuel with
 | zero =>
  intro listed a w _ _ _ hr hy hS H
  refine ⟨fun h => (by rw [h] at hr; cases hr), fun j hj => ?_⟩
  by_cases hji : j = i
  ·subst hji; exact hy.wpOp hi hS ⟨fun _ => hS, H⟩
  ·have := ready_mono hj hji
   rw [H.1] at this
   cases this
 | succ fuel ih =>
  intro listed a w hcl hsz hfree hr hy hS H
  refine ⟨fun h => (by rw [h] at hr; cases hr), fun j hj => ?_⟩
  by_cases hji : j = i
  ·subst hji; exact hy.wpOp hi hS ⟨fun _ => hS, H⟩
  ·have h1 := H.2 j (ready_mono hj hji)
   obtain ⟨hjun, oj, hoj, hall⟩ := mem_ready.1 hj
   have hiun := (mem_ready.1 hr).1
   have hnot : ∀ e ∈ oj.after, Region.binds md e = true → e.on ≠ i := fun e he hb heq => by
    have h1 := hall e he hb
    rw [heq, unlisted_false hiun] at h1
    cases h1
   have hnl : noLate m ((listed.setIfInBounds i true).setIfInBounds j true) :=
    ((lateB_none hsink hcl hsz hiun).set (lateB_ready hsink hcl hiun hr)).set (lateB_ready hsink hcl hiun hj)
   have h2 := wpOp_putIf hoj (hfree j oj hoj hji hjun hnot) (fun cs b => hsel i oi cs b hi) (fun cs b => hsel j oj cs b hoj) hQ hy h1
   have hfree' : ∀ k ok, ops[k]? = some ok → k ≠ i → (listed.setIfInBounds j true).getD k true = false →
     (∀ e ∈ ok.after, Region.binds md e = true → e.on ≠ i) → oi.apart ops ok = true := fun k ok hk hki hun hno => by
    refine hfree k ok hk hki ?_ hno
    by_cases hjk : j = k
    ·subst hjk; exact hjun
    ·rw [getD_set_ne true hjk] at hun; exact hun
   refine wpOp_mono (fun a' w' h3 => ?_) h2
   have hS' : S w' := h3.2.1 hnl
   refine ⟨fun _ => hS', ih (listed.setIfInBounds j true) a' w' (hcl.set hj) (by simp [hsz]) hfree' (ready_mono hr (Ne.symm hji)) h3.1 hS' ?_⟩
   rw [Array.setIfInBounds_comm _ _ hji]
   exact h3.2.2
theorem wpAnyK_firstP (him : i ∉ m) (hi : ops[i]? = some oi) (hsel : ∀ (j : Nat) (o : Oper) cs b, ops[j]? = some o → o.op ≠ .select cs b)
  (hQ : ∀ c a w, Q (.panic c) (a.put oi.dst v) w → Q (.panic c) a w) :
  ∀ (fuel : Nat) (listed : Array Bool) (a : Act) (w : World),
   (∀ j oj, ops[j]? = some oj → j ≠ i → listed.getD j true = false → (∀ e ∈ oj.after, Region.binds md e = true → e.on ≠ i) → oi.apart ops oj = true) →
   i ∈ Region.ready md ops listed → YieldsIf P ops (fun _ => True) oi v a → (noLate m listed → S w) →
   wpAnyK P md ops Q m S fuel (listed.setIfInBounds i true) (a.put oi.dst v) w → wpAnyK P md ops Q m S (fuel + 1) listed a w := by
 intro fuel
 induction fuel with
 | zero =>
  intro listed a w _ hr hy hS H
  refine ⟨fun h => (by rw [h] at hr; cases hr), fun j hj => ?_⟩
  by_cases hji : j = i
  ·subst hji; exact hy.wpOp hi trivial ⟨fun h => hS h.unset, H⟩
  ·have := ready_mono hj hji
   rw [H.1] at this
   cases this
 | succ fuel ih =>
  intro listed a w hfree hr hy hS H
  refine ⟨fun h => (by rw [h] at hr; cases hr), fun j hj => ?_⟩
  by_cases hji : j = i
  ·subst hji; exact hy.wpOp hi trivial ⟨fun h => hS h.unset, H⟩
  ·have h1 := H.2 j (ready_mono hj hji)
   obtain ⟨hjun, oj, hoj, hall⟩ := mem_ready.1 hj
   have hiun := (mem_ready.1 hr).1
   have hnot : ∀ e ∈ oj.after, Region.binds md e = true → e.on ≠ i := fun e he hb heq => by
    have h1 := hall e he hb
    rw [heq, unlisted_false hiun] at h1
    cases h1
   have h2 := wpOp_putIf hoj (hfree j oj hoj hji hjun hnot) (fun cs b => hsel i oi cs b hi) (fun cs b => hsel j oj cs b hoj) hQ hy h1
   have hfree' : ∀ k ok, ops[k]? = some ok → k ≠ i → (listed.setIfInBounds j true).getD k true = false →
     (∀ e ∈ ok.after, Region.binds md e = true → e.on ≠ i) → oi.apart ops ok = true := fun k ok hk hki hun hno => by
    refine hfree k ok hk hki ?_ hno
    by_cases hjk : j = k
    ·subst hjk; exact hjun
    ·rw [getD_set_ne true hjk] at hun; exact hun
   refine wpOp_mono (fun a' w' h3 => ?_) h2
   have hS' : noLate m (listed.setIfInBounds j true) → S w' := fun h => h3.2.1 (by
    rw [← Array.setIfInBounds_comm _ _ hji]
    exact h.set him)
   refine ⟨hS', ih (listed.setIfInBounds j true) a' w' hfree' (ready_mono hr (Ne.symm hji)) h3.1 hS' ?_⟩
   rw [Array.setIfInBounds_comm _ _ hji]
   exact h3.2.2
end first
def normB (md : Region.Mode) (ops : Array Oper) (m : List Nat) : List (Nat × Bool) → Array Bool → Bool
 | [], listed => (Region.ready md ops listed).isEmpty
 | (i, true) :: rest, listed => (Region.ready md ops listed).contains i && Region.free md ops listed i && !m.contains i && normB md ops m rest (listed.setIfInBounds i true)
 | (i, false) :: rest, listed => (match Region.ready md ops listed with | [j] => Nat.beq i j | _ => false) && normB md ops m rest (listed.setIfInBounds i true)
theorem wpAnyK_plan {P : Program} {ops : Array Oper} {K : Act → World → Prop} {m : List Nat} {S : World → Prop} (hs : Region.noSelect ops = true) (hε : PxOK ops ε) :
  ∀ (pl : List (Nat × Bool)) (listed : Array Bool) (a : Act) (w : World), Closed .any ops listed → listed.size = ops.size → (noLate m listed → S w) → normB .any ops m pl listed = true → wpPlan ε P ops m S K pl a w →
   wpAnyK P .any ops (qK ε K) m S pl.length listed a w
 | [], listed, a, w, _, _, _, hB, h => ⟨by simpa [normB] using hB, h⟩
 | (i, true) :: rest, listed, a, w, hcl, hsz, h0, hB, h => by
  simp only [normB, Bool.and_eq_true] at hB
  obtain ⟨⟨⟨hr, hf⟩, him⟩, hB'⟩ := hB
  have hr' : i ∈ Region.ready .any ops listed := by simpa using hr
  have him' : i ∉ m := by simpa using him
  obtain ⟨o, v, hi, hy, hrest⟩ := h
  have hrec := wpAnyK_plan hs hε rest _ _ _ (hcl.set hr') (by simp [hsz]) (fun h => h0 h.unset) hB' hrest
  rcases hy with ⟨hy, hS, hl⟩ | hy
  ·exact wpAnyK_first hl hi (Region.noSelect_spec hs) (fun c a w h => hε i o v c a w hi h) rest.length listed a w hcl hsz (Region.free_spec hi hf) hr' hy hS hrec
  ·exact wpAnyK_firstP him' hi (Region.noSelect_spec hs) (fun c a w h => hε i o v c a w hi h) rest.length listed a w (Region.free_spec hi hf) hr' hy h0 hrec
 | (i, false) :: rest, listed, a, w, hcl, hsz, h0, hB, h => by
  simp only [normB, Bool.and_eq_true] at hB
  obtain ⟨hr, hB'⟩ := hB
  have hready : Region.ready .any ops listed = [i] := by
   split at hr
   ·rename_i j hj; have := Nat.eq_of_beq_eq_true hr; subst this; exact hj
   ·cases hr
  refine ⟨fun h0 => (by rw [hready] at h0; cases h0), fun j hj => ?_⟩
  have hj0 := hj
  rw [hready] at hj
  simp only [List.mem_singleton] at hj
  subst hj
  have h' : wpOp P ops (pex ε) j (fun a' w' => (m.contains j = false → S w') ∧ wpPlan ε P ops m S K rest a' w') a w := h
  have h2 : wpOp P ops (qK ε K) j (fun a' w' => (m.contains j = false → S w') ∧ wpPlan ε P ops m S K rest a' w') a w :=
   wpOp_post pex_qK h'
  refine wpOp_mono (fun a' w' h3 => ?_) h2
  have hS' : noLate m (listed.setIfInBounds j true) → S w' := fun hn => h3.1 (by
   have := hn.not_mem (unlisted_lt (mem_ready.1 hj0).1)
   simpa using this)
  exact ⟨hS', wpAnyK_plan hs hε rest _ _ _ (hcl.set hj0) (by simp [hsz]) hS' hB' h3.2⟩
end Go.Sx
namespace Go.Sx
open Go.Sl
variable {P : Program} {a : Act} {N : Nat} {fl : FL} {ds : List Deferred} {ε : Px} {w : World} {R : Array Oper} {m : List Nat} {S : World → Prop} {K : Act → World → Prop} {pl : List (Nat × Bool)} {h : Zone} {L : List Atom}
abbrev WF (ro : Option Nat) : Fence := { Fence.wide with round := ro }
theorem WF_depth {ro : Option Nat} {n : Nat} : (WF ro).depth.isSome = true → 1 ≤ n := fun e => absurd (show false = true from e) (by decide)
theorem stepsIn_WF {ro : Option Nat} {m m' : Machine} : StepsIn (Machine.fenced P (WF ro)) P m m' ↔ Steps P m m' := stepsIn_wide (P := P)
theorem callsIn_WF {ro : Option Nat} {n : Nat} {f : FuncId} {args : Array Value} {w : World} {R : Ending → World → Prop} : CallsIn (WF ro) n P f args w R ↔ Calls P f args w R :=
 callsIn_wide (n := n)
theorem rowsIn_WF {ro : Option Nat} {n : Nat} {row : String} {args : Array Value} {w : World} {R : Value → World → Prop} (h : Rows P row args w R) : RowsIn (WF ro) n P row args w R :=
 fun c cs _ => let ⟨v, w', r, s⟩ := h c cs; ⟨v, w', r, stepsIn_WF.2 s⟩
def _root_.Go.Code.cw (ro : Option Nat) (P : Program) (c : Code) (Q : Exit → Act → World → Prop) (a : Act) (w : World) : Prop := c.wpIn (WF ro) 0 P Q a w
def noDefer (ops : Array Oper) : Bool := ops.all fun o => match o.op with | .defer _ => false | _ => true
theorem noDefer_spec {ops : Array Oper} (h : noDefer ops = true) {i : Nat} {o : Oper} (hi : ops[i]? = some o) : ∀ c, o.op ≠ .defer c := by
 intro c e
 have hlt := (Array.getElem?_eq_some_iff.1 hi).1
 have := Array.all_eq_true.1 h i hlt
 rw [(Array.getElem?_eq_some_iff.1 hi).2, e] at this
 cases this
theorem wpOpIn_of {ro : Option Nat} {ops : Array Oper} {i : Nat} {K : Act → World → Prop} {a : Act} {w : World} {Q : Exit → Act → World → Prop} (hd : noDefer ops = true) {Q0 : Exit → Act → World → Prop} (hp : ∀ c w, Q0 (.panic c) a w → Q (.panic c) a w) (hg : ∀ a w, ¬ Q0 .outgrown a w)
  (h : wpOp P ops Q0 i K a w) : wpOpIn (WF ro) 0 P ops Q i K a w := by
 unfold wpOp at h
 unfold wpOpIn
 cases ho : ops[i]? with
 | none => rw [ho] at h; exact h
 | some o =>
  rw [ho] at h
  simp only at h ⊢
  cases hw : Region.wanted o (yielded ops a.tmps) with
  | false => rw [hw] at h; simp only [Bool.false_eq_true, if_false] at h ⊢; exact ⟨fun _ _ => trivial, h⟩
  | true =>
   rw [hw] at h
   simp only [if_true] at h ⊢
   have h1 : o.wp P a w K Q0 := h.resolve_right (fun ⟨_, _, _, hF⟩ => hg _ _ hF)
   unfold Oper.wp at h1
   refine ⟨fun _ _ => trivial, ?_⟩
   rw [Oper.semAt_eq _ _ _ (noDefer_spec hd ho)]
   generalize (execOp a.eval o).run P w = r at *
   cases r with
   | ok x w' =>
    cases x <;> simp only [Oper.upon, Oper.uponIn] at h1 ⊢ <;>
     first
      | exact h1
      | exact h1.elim
      | exact ⟨WF_depth, callsIn_WF.2 (Calls.mono h1 fun e w'' he => by cases e <;> first | exact he | exact hp _ _ he | exact (let ⟨_, _, hF⟩ := he; (hg _ _ hF).elim))⟩
      | exact ⟨WF_depth, rowsIn_WF h1⟩
   | halt x w' => cases x <;> simp only [Oper.upon, Oper.uponIn] at h1 ⊢ <;> first | exact hp _ _ h1 | exact h1.elim
theorem wpAnyIn_of_K {ro : Option Nat} {md : Region.Mode} {ops : Array Oper} {K : Act → World → Prop} {Q : Exit → Act → World → Prop} {m : List Nat} {S : World → Prop} (hd : noDefer ops = true) (hQ : ∀ a w, K a w → Q .normal a w) (hP : ∀ c a w, ε c a w → Q (.panic c) a w) :
  ∀ (fuel : Nat) (listed : Array Bool) (a : Act) (w : World), wpAnyK P md ops (qK ε K) m S fuel listed a w → wpAnyIn (WF ro) 0 P md ops Q fuel listed a w
 | 0, _, _, _, h => ⟨h.1, hQ _ _ h.2⟩
 | fuel + 1, _, _, _, h => ⟨fun e => hQ _ _ (h.1 e), fun i hi => wpOpIn_of (Q0 := qK ε K) hd (fun c w' q => hP c _ w' q) (fun _ _ q => q) (wpOp_mono (fun a' w' h' => wpAnyIn_of_K hd hQ hP fuel _ a' w' h'.2) (h.2 i hi))⟩
def cl : Code → Code | .seq x _ => x | .cond _ x _ => x | .block _ x => x | .loop x => x | .scope x => x | _ => .skip
def cr : Code → Code | .seq _ y => y | .cond _ _ y => y | _ => .skip
def cops : Code → Array Oper | .region _ ops _ => ops | _ => #[]
def isSeq : Code → Bool | .seq _ _ => true | _ => false
def isReg (d : Bool) : Code → Bool | .region _ _ b => b == d | _ => false
def isLoop : Code → Bool | .loop _ => true | _ => false
def isScope : Code → Bool | .scope _ => true | _ => false
def blockId : Code → Option Nat | .block id _ => some id | _ => none
def exitId : Code → Option Nat | .exit id => some id | _ => none
def isRet : Code → Bool | .ret => true | _ => false
def isSkip : Code → Bool | .skip => true | .label _ => true | _ => false
def condX : Code → Option Operand | .cond c _ _ => some c | _ => none
variable {ro : Option Nat} {c : Code} {Q : Exit → Act → World → Prop}
theorem w_seq (hc : isSeq c = true) (k : (cl c).cw ro P (Exit.then (fun a w => (cr c).cw ro P Q a w) Q) a w) : c.cw ro P Q a w := by
 cases c <;> simp [isSeq] at hc
 exact wpIn_seq k
theorem n_then {K : Act → World → Prop} (k : K a w) : Exit.then K Q .normal a w := k
theorem x_then {K : Act → World → Prop} {id : Nat} (k : Q (.exit id) a w) : Exit.then K Q (.exit id) a w := k
theorem r_then {K : Act → World → Prop} (k : Q .ret a w) : Exit.then K Q .ret a w := k
theorem w_block {id : Nat} (hc : blockId c = some id) (k : (cl c).cw ro P (Exit.inBlock id Q) a w) : c.cw ro P Q a w := by
 cases c <;> simp [blockId] at hc
 subst hc
 exact wpIn_block k
theorem n_block {id : Nat} (k : Q .normal a w) : Exit.inBlock id Q .normal a w := k
theorem r_block {id : Nat} (k : Q .ret a w) : Exit.inBlock id Q .ret a w := k
theorem x_block {id : Nat} (k : Q .normal a w) : Exit.inBlock id Q (.exit id) a w := by simpa [Exit.inBlock] using k
theorem x_pass {id i : Nat} (hne : Nat.beq i id = false) (k : Q (.exit i) a w) : Exit.inBlock id Q (.exit i) a w := by
 simpa [Exit.inBlock, Nat.ne_of_beq_eq_false hne] using k
theorem w_exit {id : Nat} (hc : exitId c = some id) (k : Q (.exit id) a w) : c.cw ro P Q a w := by
 cases c <;> simp [exitId] at hc
 subst hc
 exact wpIn_exit k
theorem w_ret (hc : isRet c = true) (k : Q .ret a w) : c.cw ro P Q a w := by
 cases c <;> simp [isRet] at hc
 exact wpIn_ret k
theorem w_skip (hc : isSkip c = true) (k : Q .normal a w) : c.cw ro P Q a w := by
 cases c <;> simp [isSkip] at hc
 ·exact wpIn_skip k
 ·exact wpIn_label k
section
variable {b : Frame} {k : List Item} {cs : List Frame}
theorem stepR_scope' {c : Code} : step P (lone (b.atR a (.code (.scope c) :: k)) cs w) = .next (lone (b.atR a (.code c :: .inScope c :: k)) cs w) := step_lone_go (by simp [stepG, stepG.exec, Frame.atR])
theorem stepR_inScope' {c : Code} : step P (lone (b.atR a (.inScope c :: k)) cs w) = .next (lone (b.atR a k) cs w) := step_lone_go (by simp [stepG, stepG.exec, Frame.atR])
end
theorem wpIn_scope_straight {F : Fence} {n : Nat} {c : Code} (h : c.wpIn F n P (Exit.noGoto Q) a w) : (Code.scope c).wpIn F n P Q a w := by
 intro b k cs hro hb hr
 have h0 : (lone (b.atR a (.code (.scope c) :: k)) cs w).fenced P F := fenced_calm hb hr rfl
 obtain ⟨e, a₁, w₁, hq, harr⟩ := h b (.inScope c :: k) cs hro hb hr
 cases e with
 | normal => exact ⟨.normal, a₁, w₁, hq, .head h0 stepR_scope' (StepsIn.trans harr (.one (fenced_calm hb hr rfl) stepR_inScope'))⟩
 | exit id =>
  refine ⟨.exit id, a₁, w₁, hq, fun k' hk => .head h0 stepR_scope' (harr.1 k' (by simp [exitTo, hk])), fun hr' hk => ?_⟩
  obtain ⟨k₁, h1, h2⟩ := harr.2 hr' (by simp [exitTo, hk])
  exact ⟨k₁, h1, .head h0 stepR_scope' h2⟩
 | goto l => exact hq.elim
 | ret => exact ⟨_, a₁, w₁, hq, .of_steps (.one h0 stepR_scope') harr⟩
 | panic ch => exact ⟨_, a₁, w₁, hq, .of_steps (.one h0 stepR_scope') harr⟩
 | outgrown => exact ⟨_, a₁, w₁, hq, .of_steps (.one h0 stepR_scope') harr⟩
theorem w_scope (hc : isScope c = true) (k : (cl c).cw ro P (Exit.noGoto Q) a w) : c.cw ro P Q a w := by
 cases c <;> simp [isScope] at hc
 exact wpIn_scope_straight k
theorem w_mid (hc : isSeq c = true) (M : Act → World → Prop) (k1 : (cl c).cw ro P (Exit.then M Q) a w) (k2 : ∀ a w, M a w → (cr c).cw ro P Q a w) : c.cw ro P Q a w := by
 refine w_seq hc (wpIn_mono k1 ?_)
 intro e a w q
 cases e <;> first | exact k2 _ _ q | exact q
def condV (c : Code) (fl : FL) : Option Value := match condX c with | some (.tmp t) => look fl t | _ => none
theorem w_if {b : Bool} (hf : Fr a N fl ds) (hc : condV c fl = some (.bool b)) (kt : b = true → (cl c).cw ro P Q a w) (ke : b = false → (cr c).cw ro P Q a w) : c.cw ro P Q a w := by
 cases c with
 | cond x th el =>
  cases x with
  | tmp t =>
   simp only [condV, condX] at hc
   refine wpIn_cond_split (t := b) ?_ kt ke
   simp only [Act.eval]
   exact hf.getD hc
  | _ => simp [condV, condX] at hc
 | _ => simp [condV, condX] at hc
theorem w_if_true (hf : Fr a N fl ds) (hc : condV c fl = some (.bool true)) (k : (cl c).cw ro P Q a w) : c.cw ro P Q a w := w_if hf hc (fun _ => k) (fun e => by cases e)
theorem w_if_false (hf : Fr a N fl ds) (hc : condV c fl = some (.bool false)) (k : (cr c).cw ro P Q a w) : c.cw ro P Q a w := w_if hf hc (fun e => by cases e) (fun _ => k)
theorem w_loop (hc : isLoop c = true) (T : Nat → Act → World → Prop) (n : Nat) (h0 : T n a w)
  (k : ∀ n a w, T n a w → (cl c).cw ro P (Exit.then (fun a' w' => ∃ j, j < n ∧ T j a' w') Q) a w) : c.cw ro P Q a w := by
 cases c <;> simp [isLoop] at hc
 rename_i body
 intro b ks cs hro hb hr
 have key : ∀ n a w, T n a w →
   ∃ e a' w', Q e a' w' ∧ ArrivesIn (Machine.fenced P (WF ro)) P (lone (b.atR a (.code body :: .inLoop body :: ks)) cs w) b ks cs e a' w' := by
  intro n
  induction n using Nat.strongRecOn with
  | _ n ih =>
   intro a w hT
   obtain ⟨e, a₁, w₁, hq, harr⟩ := k n a w hT b (.inLoop body :: ks) cs hro hb hr
   cases e with
   | normal =>
    obtain ⟨j, hlt, hT₁⟩ := hq
    obtain ⟨e₂, a₂, w₂, hq₂, harr₂⟩ := ih j hlt a₁ w₁ hT₁
    exact ⟨e₂, a₂, w₂, hq₂, .of_steps (StepsIn.trans harr (.one (fenced_calm hb hr rfl) stepR_inLoop)) harr₂⟩
   | exit id => exact ⟨_, a₁, w₁, hq, .pass (x := .inLoop body) rfl (fun _ _ => .inl (by simp)) harr⟩
   | goto l => exact ⟨_, a₁, w₁, hq, .pass (x := .inLoop body) rfl (fun _ _ => .inl (by simp)) harr⟩
   | ret => exact ⟨_, a₁, w₁, hq, .pass (x := .inLoop body) rfl (fun _ _ => .inl (by simp)) harr⟩
   | panic ch => exact ⟨_, a₁, w₁, hq, .pass (x := .inLoop body) rfl (fun _ _ => .inl (by simp)) harr⟩
   | outgrown => exact ⟨_, a₁, w₁, hq, .pass (x := .inLoop body) rfl (fun _ _ => .inl (by simp)) harr⟩
 obtain ⟨e, a', w', hq, harr⟩ := key n a w h0
 exact ⟨e, a', w', hq, .of_steps (.one (fenced_calm hb hr rfl) stepR_loop) harr⟩
def planSeq (c : Code) : List (Nat × Bool) := (List.range (cops c).size).map fun i => (i, false)
theorem wpOpsIn_of_plan {Q : Exit → Act → World → Prop} (hd : noDefer R = true) (hP : ∀ c a w, ε c a w → Q (.panic c) a w) : ∀ (l : List Nat) (a : Act) (w : World), wpPlan ε P R m S K (l.map fun i => (i, false)) a w → (∀ a w, K a w → Q .normal a w) → wpOpsIn (WF ro) 0 P R Q l a w
 | [], a, w, k, hQ => hQ a w k
 | i :: l, a, w, k, hQ => by
  rw [wpOpsIn_cons]
  have k' : wpOp P R (pex ε) i (fun a' w' => (m.contains i = false → S w') ∧ wpPlan ε P R m S K (l.map fun i => (i, false)) a' w') a w := k
  exact wpOpIn_mono (fun a' w' h3 => wpOpsIn_of_plan hd hP l a' w' h3.2 hQ) (wpOpIn_of (Q0 := pex ε) hd (fun c w q => hP c _ w q) (fun _ _ q => q) k')
theorem w_reg (hc : (isReg false c && noDefer (cops c)) = true) (k : wpPlan noP P (cops c) [] (fun _ => True) (fun a w => Q .normal a w) (planSeq c) a w) : c.cw ro P Q a w := by
 simp only [Bool.and_eq_true] at hc
 obtain ⟨hc, hd⟩ := hc
 cases c <;> simp [isReg] at hc
 subst hc
 exact wpIn_region (wpOpsIn_of_plan (ε := noP) hd (fun _ _ _ h => h.elim) _ _ _ k fun _ _ h => h)
def drawOK (c : Code) (pl : List (Nat × Bool)) (m : List Nat) : Bool :=
 (isReg true c && noDefer (cops c)) && (Region.noSelect (cops c) && (Nat.beq pl.length (cops c).size && normB .any (cops c) m pl (Array.replicate (cops c).size false)))
theorem w_regD (hm : P.follows .mixedOrders = true) (pl : List (Nat × Bool)) (m : List Nat) (S : World → Prop) (hB : drawOK c pl m = true) (hS0 : S w.drew)
  (k : wpPlan noP P (cops c) m S (fun a w => Q .normal a w) pl a w.drew) : c.cw ro P Q a w := by
 simp only [drawOK, Bool.and_eq_true] at hB
 obtain ⟨⟨hc, hd⟩, hs, hl, hn⟩ := hB
 cases c <;> simp [isReg] at hc
 rename_i id ops b
 subst hc
 have hl' : pl.length = ops.size := Nat.eq_of_beq_eq_true hl
 have k1 := wpAnyK_plan (ε := noP) hs noP_ok pl _ a w.drew (Closed.none _) (by simp) (fun _ => hS0) hn k
 have k2 := wpAnyIn_of_K (ε := noP) (ro := ro) (Q := Q) hd (fun _ _ h => h) (fun _ _ _ h => h.elim) _ _ _ _ k1
 rw [hl'] at k2
 exact wpIn_region_any hm k2
abbrev anyK (P : Program) (ops : Array Oper) (K : Act → World → Prop) (m : List Nat) (S : World → Prop) (fuel : Nat) (listed : Array Bool) (a : Act) (w : World) : Prop :=
 wpAnyK P .any ops (qK noP K) m S fuel listed a w
def drawB (c : Code) : Bool := (isReg true c && noDefer (cops c)) && Region.noSelect (cops c)
theorem w_regB (hm : P.follows .mixedOrders = true) (m : List Nat) (S : World → Prop) (hB : drawB c = true)
  (k : anyK P (cops c) (fun a w => Q .normal a w) m S (cops c).size (Array.replicate (cops c).size false) a w.drew) : c.cw ro P Q a w := by
 simp only [drawB, Bool.and_eq_true] at hB
 obtain ⟨⟨hc, hd⟩, hs⟩ := hB
 cases c <;> simp [isReg] at hc
 rename_i id ops b
 subst hc
 exact wpIn_region_any hm (wpAnyIn_of_K (ε := noP) (ro := ro) (Q := Q) hd (fun _ _ h => h) (fun _ _ _ h => h.elim) _ _ _ _ k)
def setL (pl : List (Nat × Bool)) (listed : Array Bool) : Array Bool := pl.foldl (fun l p => l.setIfInBounds p.1 true) listed
def segB (ops : Array Oper) (m : List Nat) : List (Nat × Bool) → Array Bool → Bool
 | [], _ => true
 | (i, true) :: rest, listed => (Region.ready .any ops listed).contains i && Region.free .any ops listed i && !m.contains i && segB ops m rest (listed.setIfInBounds i true)
 | (i, false) :: rest, listed => (match Region.ready .any ops listed with | [j] => Nat.beq i j | _ => false) && segB ops m rest (listed.setIfInBounds i true)
structure At (ops : Array Oper) (m : List Nat) (S : World → Prop) (listed : Array Bool) (w : World) : Prop where
 cl : Closed .any ops listed
 sz : listed.size = ops.size
 s : noLate m listed → S w
theorem At.start {ops : Array Oper} {m : List Nat} {S : World → Prop} {w : World} (h : S w) : At ops m S (Array.replicate ops.size false) w := ⟨Closed.none _, by simp, fun _ => h⟩
theorem k_seg {ops : Array Oper} {m : List Nat} {S : World → Prop} (hs : Region.noSelect ops = true) (n : Nat) : ∀ (pl : List (Nat × Bool)) {listed : Array Bool} {a : Act} {w : World}, At ops m S listed w → segB ops m pl listed = true →
  wpPlan noP P ops m S (fun a w => At ops m S (setL pl listed) w → anyK P ops K m S n (setL pl listed) a w) pl a w → anyK P ops K m S (pl.length + n) listed a w
 | [], listed, a, w, hA, _, h => by
  have e0 : ([] : List (Nat × Bool)).length + n = n := by simp
  rw [e0]
  exact h hA
 | (i, true) :: rest, listed, a, w, hA, hB, h => by
  simp only [segB, Bool.and_eq_true] at hB
  obtain ⟨⟨⟨hr, hf⟩, him⟩, hB'⟩ := hB
  have hr' : i ∈ Region.ready .any ops listed := by simpa using hr
  have him' : i ∉ m := by simpa using him
  obtain ⟨o, v, hi, hy, hrest⟩ := h
  have hrec := k_seg hs n rest (listed := listed.setIfInBounds i true) ⟨hA.cl.set hr', by simp [hA.sz], fun h => hA.s h.unset⟩ hB' hrest
  have e0 : ((i, true) :: rest).length + n = (rest.length + n) + 1 := by simp only [List.length_cons]; omega
  rw [e0]
  rcases hy with ⟨hy, hS, hl⟩ | hy
  ·exact wpAnyK_first hl hi (Region.noSelect_spec hs) (fun c a w h => noP_ok i o v c a w hi h) _ listed a w hA.cl hA.sz (Region.free_spec hi hf) hr' hy hS hrec
  ·exact wpAnyK_firstP him' hi (Region.noSelect_spec hs) (fun c a w h => noP_ok i o v c a w hi h) _ listed a w (Region.free_spec hi hf) hr' hy hA.s hrec
 | (i, false) :: rest, listed, a, w, hA, hB, h => by
  simp only [segB, Bool.and_eq_true] at hB
  obtain ⟨hr, hB'⟩ := hB
  have hready : Region.ready .any ops listed = [i] := by
   split at hr
   ·rename_i j hj; have := Nat.eq_of_beq_eq_true hr; subst this; exact hj
   ·cases hr
  have e0 : ((i, false) :: rest).length + n = (rest.length + n) + 1 := by simp only [List.length_cons]; omega
  rw [e0]
  refine ⟨fun h0 => (by rw [hready] at h0; cases h0), fun j hj => ?_⟩
  have hj0 := hj
  rw [hready] at hj
  simp only [List.mem_singleton] at hj
  subst hj
  have h' : wpOp P ops (pex noP) j (fun a' w' => (m.contains j = false → S w') ∧ wpPlan noP P ops m S (fun a w => At ops m S (setL ((j, false) :: rest) listed) w → anyK P ops K m S n (setL ((j, false) :: rest) listed) a w) rest a' w') a w := h
  refine wpOp_mono (fun a' w' h3 => ?_) (wpOp_post pex_qK h')
  have hS' : noLate m (listed.setIfInBounds j true) → S w' := fun hn => h3.1 (by
   have := hn.not_mem (unlisted_lt (mem_ready.1 hj0).1)
   simpa using this)
  exact ⟨hS', k_seg hs n rest ⟨hA.cl.set hj0, by simp [hA.sz], hS'⟩ hB' h3.2⟩
theorem k_any {ops : Array Oper} {m : List Nat} {S : World → Prop} {n : Nat} {listed : Array Bool} {a : Act} {w : World} (is : List Nat) (hA : At ops m S listed w) (hr : Region.ready .any ops listed = is) (hne : is.isEmpty = false)
  (k : ∀ i ∈ is, wpPlan noP P ops m S (fun a w => At ops m S (listed.setIfInBounds i true) w → anyK P ops K m S n (listed.setIfInBounds i true) a w) [(i, false)] a w) : anyK P ops K m S (n + 1) listed a w := by
 refine ⟨fun h0 => (by rw [hr] at h0; subst h0; cases hne), fun j hj => ?_⟩
 have hj0 := hj
 rw [hr] at hj
 have h' : wpOp P ops (pex noP) j (fun a' w' => (m.contains j = false → S w') ∧ (At ops m S (listed.setIfInBounds j true) w' → anyK P ops K m S n (listed.setIfInBounds j true) a' w')) a w := k j hj
 refine wpOp_mono (fun a' w' h3 => ?_) (wpOp_post pex_qK h')
 have hS' : noLate m (listed.setIfInBounds j true) → S w' := fun hn => h3.1 (by
  have := hn.not_mem (unlisted_lt (mem_ready.1 hj0).1)
  simpa using this)
 exact ⟨hS', h3.2 ⟨hA.cl.set hj0, by simp [hA.sz], hS'⟩⟩
theorem k_seg' {ops : Array Oper} {m : List Nat} {S : World → Prop} {t : Nat} {listed : Array Bool} {a : Act} {w : World} (n : Nat) (pl : List (Nat × Bool)) (hs : Region.noSelect ops = true) (ht : Nat.beq t (pl.length + n) = true) (hA : At ops m S listed w) (hB : segB ops m pl listed = true)
  (k : wpPlan noP P ops m S (fun a w => At ops m S (setL pl listed) w → anyK P ops K m S n (setL pl listed) a w) pl a w) : anyK P ops K m S t listed a w := by
 rw [Nat.eq_of_beq_eq_true ht]; exact k_seg hs n pl hA hB k
theorem k_any' {ops : Array Oper} {m : List Nat} {S : World → Prop} {t : Nat} {listed : Array Bool} {a : Act} {w : World} (n : Nat) (is : List Nat) (ht : Nat.beq t (n + 1) = true) (hA : At ops m S listed w) (hr : Region.ready .any ops listed = is) (hne : is.isEmpty = false)
  (k : ∀ i ∈ is, wpPlan noP P ops m S (fun a w => At ops m S (listed.setIfInBounds i true) w → anyK P ops K m S n (listed.setIfInBounds i true) a w) [(i, false)] a w) : anyK P ops K m S t listed a w := by
 rw [Nat.eq_of_beq_eq_true ht]; exact k_any is hA hr hne k
theorem k_done' {ops : Array Oper} {m : List Nat} {S : World → Prop} {t : Nat} {listed : Array Bool} {a : Act} {w : World} (ht : Nat.beq t 0 = true) (hr : (Region.ready .any ops listed).isEmpty = true) (k : K a w) : anyK P ops K m S t listed a w := by
 rw [Nat.eq_of_beq_eq_true ht]; exact ⟨by simpa using hr, k⟩
theorem all_nil {p : Nat → Prop} : ∀ i ∈ ([] : List Nat), p i := fun _ h => by cases h
theorem all_cons {p : Nat → Prop} {j : Nat} {is : List Nat} (h1 : p j) (h2 : ∀ i ∈ is, p i) : ∀ i ∈ j :: is, p i := fun i h => by
 rcases List.mem_cons.1 h with h | h
 ·subst h; exact h1
 ·exact h2 i h
theorem p_done (hp : pl.isEmpty = true) (k : K a w) : wpPlan ε P R m S K pl a w := by
 cases pl with
 | nil => exact k
 | cons _ _ => cases hp
def opAt (R : Array Oper) (N : Nat) (pl : List (Nat × Bool)) (fl : FL) : Option (Nat × Oper) :=
 match pl with
 | (i, false) :: _ => match R[i]? with
  | some o => match wantedF R fl o with
   | some true => bif (known fl o && (match o.dst with | some d => Nat.blt d N | none => true)) then some (i, o) else none
   | _ => none
  | none => none
 | _ => none
theorem opAt_spec {i : Nat} {o : Oper} (h : opAt R N pl fl = some (i, o)) :
  ∃ rest, pl = (i, false) :: rest ∧ R[i]? = some o ∧ wantedF R fl o = some true ∧ known fl o = true ∧ (match o.dst with | some d => Nat.blt d N | none => true) = true := by
 unfold opAt at h
 split at h
 ·rename_i j rest
  cases hR : R[j]? with
  | none => rw [hR] at h; simp at h
  | some o' =>
   rw [hR] at h
   simp only at h
   split at h
   ·rename_i hw
    cases hk : (known fl o' && (match o'.dst with | some d => Nat.blt d N | none => true)) with
    | false => rw [hk] at h; simp at h
    | true =>
     rw [hk] at h
     simp only [cond_true, Option.some.injEq, Prod.mk.injEq] at h
     obtain ⟨rfl, rfl⟩ := h
     simp only [Bool.and_eq_true] at hk
     exact ⟨rest, rfl, hR, hw, hk.1, hk.2⟩
   ·cases h
 ·cases h
theorem p_val {i : Nat} {o : Oper} {v : Value} {w' : World} (hf : Fr a N fl ds) (ho : opAt R N pl fl = some (i, o)) (hrun : (execOp (ev fl) o).run P w = .ok (.value v) w')
  (k : ∀ a', Fr a' N (putF fl o.dst v) ds → (m.contains i = false → S w') ∧ wpPlan ε P R m S K pl.tail a' w') : wpPlan ε P R m S K pl a w := by
 obtain ⟨rest, rfl, hR, hw, hk, hd⟩ := opAt_spec ho
 show wpOp P R (pex ε) i (fun a' w' => (m.contains i = false → S w') ∧ wpPlan ε P R m S K rest a' w') a w
 unfold wpOp
 simp only [hR, wantedF_sound hf hw, if_true]
 refine .inl ?_
 unfold Oper.wp
 rw [hf.exec hk, hrun]
 exact k _ (hf.put hd v)
theorem p_skip {i : Nat} {o : Oper} {w' : World} (hf : Fr a N fl ds) (ho : opAt R N pl fl = some (i, o)) (hrun : (execOp (ev fl) o).run P w = .ok .skip w')
  (k : ∀ a', Fr a' N (putF fl o.dst undef) ds → (m.contains i = false → S w') ∧ wpPlan ε P R m S K pl.tail a' w') : wpPlan ε P R m S K pl a w := by
 obtain ⟨rest, rfl, hR, hw, hk, hd⟩ := opAt_spec ho
 show wpOp P R (pex ε) i (fun a' w' => (m.contains i = false → S w') ∧ wpPlan ε P R m S K rest a' w') a w
 unfold wpOp
 simp only [hR, wantedF_sound hf hw, if_true]
 refine .inl ?_
 unfold Oper.wp
 rw [hf.exec hk, hrun]
 exact k _ (hf.put hd undef)
theorem p_enter {i : Nat} {o : Oper} {f : FuncId} {args : Array Value} (hf : Fr a N fl ds) (ho : opAt R N pl fl = some (i, o)) (hrun : (execOp (ev fl) o).run P w = .ok (.enter f args) w)
  {Φ : Value → World → Prop} (hc : Calls P f args w fun e w' => ∃ v, e = .returned v ∧ Φ v w')
  (k : ∀ v w' a', Φ v w' → Fr a' N (putF fl o.dst v) ds → (m.contains i = false → S w') ∧ wpPlan ε P R m S K pl.tail a' w') : wpPlan ε P R m S K pl a w := by
 obtain ⟨rest, rfl, hR, hw, hk, hd⟩ := opAt_spec ho
 show wpOp P R (pex ε) i (fun a' w' => (m.contains i = false → S w') ∧ wpPlan ε P R m S K rest a' w') a w
 unfold wpOp
 simp only [hR, wantedF_sound hf hw, if_true]
 refine .inl ?_
 unfold Oper.wp
 rw [hf.exec hk, hrun]
 refine Calls.mono hc ?_
 rintro e w' ⟨v, rfl, hΦ⟩
 exact k v w' _ hΦ (hf.put hd v)
def callAt (P : Program) (R : Array Oper) (N : Nat) (pl : List (Nat × Bool)) (fl : FL) : Option (Nat × Option Nat × FuncId × Array Value) :=
 match opAt R N pl fl with
 | some (i, o) => match runO P (execOp (ev fl) o) [] with
  | some (.enter f args, [], []) => some (i, o.dst, f, args)
  | _ => none
 | none => none
theorem p_call {i : Nat} {d : Option Nat} {f : FuncId} {args : Array Value} (hf : Fr a N fl ds) (ho : callAt P R N pl fl = some (i, d, f, args))
  {Φ : Value → World → Prop} (hc : Calls P f args w fun e w' => ∃ v, e = .returned v ∧ Φ v w')
  (k : ∀ v w' a', Φ v w' → Fr a' N (putF fl d v) ds → (m.contains i = false → S w') ∧ wpPlan ε P R m S K pl.tail a' w') : wpPlan ε P R m S K pl a w := by
 unfold callAt at ho
 cases h1 : opAt R N pl fl with
 | none => rw [h1] at ho; simp at ho
 | some t =>
  obtain ⟨i', o⟩ := t
  rw [h1] at ho
  simp only at ho
  split at ho
  ·rename_i f' args' hr
   simp only [Option.some.injEq, Prod.mk.injEq] at ho
   obtain ⟨rfl, rfl, rfl, rfl⟩ := ho
   exact p_enter hf h1 (runO_sound _ hr (by simp)) hc k
  ·cases ho
def runA {α : Type} (P : Program) (r : Nat) : Sem α → Option (Obj × α)
 | .new o k => match runO P (k r) [] with
  | some (x, [], []) => some (o, x)
  | _ => none
 | .program k => runA P r (k P)
 | .mark _ k => runA P r k
 | _ => none
theorem runA_sound {α : Type} {w : World} : ∀ (s : Sem α) {o : Obj} {x : α}, runA P w.heap.size s = some (o, x) → s.run P w = .ok x (w.alloc o) := by
 intro s
 induction s with
 | new o k ih =>
  intro o' x h
  simp only [runA] at h
  split at h
  ·rename_i y hy
   simp only [Option.some.injEq, Prod.mk.injEq] at h
   obtain ⟨rfl, rfl⟩ := h
   exact runO_sound (w := w.alloc o) _ hy (by simp)
  ·cases h
 | program k ih => intro o x h; exact ih P h
 | mark m k ih => intro o x h; exact ih h
 | _ => intro o x h; simp [runA] at h
def newAt (P : Program) (R : Array Oper) (N : Nat) (pl : List (Nat × Bool)) (fl : FL) (r : Nat) : Option (Nat × Option Nat × Obj × Value) :=
 match opAt R N pl fl with
 | some (i, o) => match runA P r (execOp (ev fl) o) with
  | some (ob, .value v) => some (i, o.dst, ob, v)
  | _ => none
 | none => none
def pts (b : Nat) (o : Obj) : Atom := ⟨fun _ z => z = Hp.one b o, fun _ _ _ _ h => h⟩
def box (b : Nat) (cs : List Value) (T : TypeId) : Atom := pts b (.cells cs.toArray T (0, 0))
theorem p_new {i : Nat} {d : Option Nat} {o : Nat → Obj} {v : Nat → Value} (hS : St h L w) (hf : Fr a N fl ds) (he : ∀ b, newAt P R N pl fl b = some (i, d, o b, v b))
  (k : ∀ b w' a', St h (pts b (o b) :: L) w' → Fr a' N (putF fl d (v b)) ds → (m.contains i = false → S w') ∧ wpPlan ε P R m S K pl.tail a' w') : wpPlan ε P R m S K pl a w := by
 have he' := he w.heap.size
 unfold newAt at he'
 cases h1 : opAt R N pl fl with
 | none => rw [h1] at he'; simp at he'
 | some t =>
  obtain ⟨i', op⟩ := t
  rw [h1] at he'
  simp only at he'
  split at he'
  ·rename_i ob v' hr
   simp only [Option.some.injEq, Prod.mk.injEq] at he'
   obtain ⟨rfl, rfl, rfl, rfl⟩ := he'
   exact p_val hf h1 (runA_sound _ hr) fun a' hf' => k _ _ a' (hS.new _ _ rfl) hf'
  ·cases he'
theorem p_box {i : Nat} {d : Option Nat} {cs : List Value} {T : TypeId} {v : Nat → Value} (hS : St h L w) (hf : Fr a N fl ds) (he : ∀ b, newAt P R N pl fl b = some (i, d, .cells cs.toArray T (0, 0), v b))
  (k : ∀ b w' a', St h (box b cs T :: L) w' → Fr a' N (putF fl d (v b)) ds → (m.contains i = false → S w') ∧ wpPlan ε P R m S K pl.tail a' w') : wpPlan ε P R m S K pl a w :=
 p_new (o := fun _ => .cells cs.toArray T (0, 0)) hS hf he k
theorem _root_.Go.Sl.St.box (s : St h L w) {i : Nat} {b : Nat} {cs : List Value} {T : TypeId} (hi : L[i]? = some (box b cs T)) {j : Nat} {v : Value} (hj : cs[j]? = some v) : w.cell? ⟨b, j, none⟩ = some v := by
 obtain ⟨x, hx, hxw, _, _⟩ := s.focus hi
 have hx' : x = Hp.one b (.cells cs.toArray T (0, 0)) := hx
 subst hx'
 have h1 : w.heap[b]? = some (.cells cs.toArray T (0, 0)) := Hp.one_le.1 hxw
 simp [World.cell?, h1, hj]
def storeAt (P : Program) (R : Array Oper) (N : Nat) (pl : List (Nat × Bool)) (fl : FL) : Option (Nat × Addr × List Value) :=
 match opAt R N pl fl with
 | some (i, o) => match o.op, o.dst with
  | .store t ad x, none => match ev fl ad, P.info? t with
   | .pointer (some A), some inf => bif Nat.beq (ev fl x).cells.size inf.size then some (i, A, (ev fl x).cells.toList) else none
   | _, _ => none
  | _, _ => none
 | none => none
def oneCells : List Value → Bool
 | [] => true
 | v :: vs => v.oneCell' && oneCells vs
theorem oneCells_spec : ∀ {vs : List Value}, oneCells vs = true → ∀ v ∈ vs, v.oneCell' = true
 | [], _, v, hv => by cases hv
 | u :: vs, h, v, hv => by
  simp only [oneCells, Bool.and_eq_true] at h
  cases hv with
  | head => exact h.1
  | tail _ hv => exact oneCells_spec h.2 v hv
def splice (cs : List Value) (off : Nat) (vs : List Value) : List Value := cs.take off ++ vs ++ cs.drop (off + vs.length)
theorem storeAt_run {i : Nat} {A : Addr} {vs : List Value} {w' : World} (ho : storeAt P R N pl fl = some (i, A, vs)) (hst : (storeCells A vs 0).run P w = .ok () w') :
  ∃ o, opAt R N pl fl = some (i, o) ∧ o.dst = none ∧ (execOp (ev fl) o).run P w = .ok .skip w' := by
 unfold storeAt at ho
 cases h1 : opAt R N pl fl with
 | none => rw [h1] at ho; simp at ho
 | some t =>
  obtain ⟨i', o⟩ := t
  rw [h1] at ho
  simp only at ho
  split at ho
  ·rename_i t ad x hop hdst
   split at ho
   ·rename_i A' inf hA hinf
    cases hb : Nat.beq (ev fl x).cells.size inf.size with
    | false => rw [hb] at ho; simp at ho
    | true =>
     rw [hb] at ho
     simp only [cond_true, Option.some.injEq, Prod.mk.injEq] at ho
     obtain ⟨rfl, rfl, rfl⟩ := ho
     refine ⟨o, rfl, hdst, ?_⟩
     have hsz : (ev fl x).cells.size = inf.size := Nat.eq_of_beq_eq_true hb
     simp [execOp, hop, Instr.storeAt, hA, Instr.sureAddr, storeVar, sizeOf, typeInfo, hinf, hsz, hst]
   ·cases ho
  ·cases ho
theorem p_store {i j : Nat} {b off : Nat} {vs cs : List Value} {T : TypeId} (hS : St h L w) (hf : Fr a N fl ds) (hj : L[j]? = some (box b cs T)) (ho : storeAt P R N pl fl = some (i, ⟨b, off, none⟩, vs))
  (hfit : off + vs.length ≤ cs.length) (hone : oneCells vs = true)
  (k : ∀ w' a', St h (L.set j (box b (splice cs off vs) T)) w' → Fr a' N fl ds → (m.contains i = false → S w') ∧ wpPlan ε P R m S K pl.tail a' w') : wpPlan ε P R m S K pl a w := by
 obtain ⟨x, hx, hxw, _, hset⟩ := hS.focus hj
 have hx' : x = Hp.one b (.cells cs.toArray T (0, 0)) := hx
 subst hx'
 have h1 : w.heap[b]? = some (.cells cs.toArray T (0, 0)) := Hp.one_le.1 hxw
 have hrun := run_storeCells_at (P := P) b off T vs 0 cs.toArray w h1 (by simpa using hfit) (oneCells_spec hone)
 simp only [Nat.add_zero] at hrun
 obtain ⟨o, hop, hd, hex⟩ := storeAt_run ho hrun
 refine p_skip hf hop hex fun a' hf' => ?_
 rw [hd] at hf'
 refine k _ a' (hset _ _ (Hp.one b (.cells (splice cs off vs).toArray T (0, 0))) rfl (Hp.one_le.2 ?_) ?_ ?_ rfl rfl rfl) hf'
 ·exact setRow_heap w b _ _ T (0, 0) h1
 ·intro k hk hne
  refine setRow_other w b k _ fun e => ?_
  subst e
  simp [Hp.one] at hne
 ·intro k o' hk
  right
  unfold Hp.one at hk ⊢
  split at hk <;> simp_all
theorem p_store_eq {i j : Nat} {b off : Nat} {vs cs cs' : List Value} {T : TypeId} (hS : St h L w) (hf : Fr a N fl ds) (hj : L[j]? = some (box b cs T)) (ho : storeAt P R N pl fl = some (i, ⟨b, off, none⟩, vs))
  (hfit : (Nat.ble (off + vs.length) cs.length && oneCells vs) = true) (hcs : splice cs off vs = cs')
  (k : ∀ w' a', St h (L.set j (box b cs' T)) w' → Fr a' N fl ds → (m.contains i = false → S w') ∧ wpPlan ε P R m S K pl.tail a' w') : wpPlan ε P R m S K pl a w := by
 simp only [Bool.and_eq_true] at hfit
 subst hcs
 exact p_store hS hf hj ho (Nat.le_of_ble_eq_true hfit.1) hfit.2 k
def resO (P : Program) (fl : FL) : List ResultVar → List Value → Option (List Value × List Obl)
 | [], [] => some ([], [])
 | .tmp t :: rs, os => match look fl t, resO P fl rs os with
  | some v, some (vs, obs) => some (v :: vs, obs)
  | _, _ => none
 | .cell t ty :: rs, os => match look fl t with
  | some (.pointer (some A)) => match runO P (loadVar ty A) os with
   | some (v, ls, os') => match resO P fl rs os' with
    | some (vs, obs) => some (v :: vs, cellsObl ls ++ obs)
    | none => none
   | none => none
  | _ => none
 | _, _ => none
def resV : List Value → Value
 | [v] => v
 | vs => .tuple vs.toArray
def resOne (tmps : Array Value) (r : ResultVar) : Sem Value :=
 match r with
 | .tmp t => pure (tmps.getD t undef)
 | .cell a t => do loadVar t (← asAddr (tmps.getD a undef))
theorem resO_sound (hf : Fr a N fl ds) : ∀ {rs : List ResultVar} {os vs : List Value} {obs : List Obl}, resO P fl rs os = some (vs, obs) → HA w obs →
  (rs.mapM (resOne a.tmps)).run P w = .ok vs w
 | [], os, vs, obs, h, _ => by
  cases os with
  | nil => simp only [resO, Option.some.injEq, Prod.mk.injEq] at h; obtain ⟨rfl, _⟩ := h; rfl
  | cons _ _ => simp [resO] at h
 | .tmp t :: rs, os, vs, obs, h, hob => by
  simp only [resO] at h
  split at h
  ·rename_i v vs' obs' hl hr
   simp only [Option.some.injEq, Prod.mk.injEq] at h
   obtain ⟨rfl, rfl⟩ := h
   have h1 : (resOne a.tmps (.tmp t)).run P w = .ok v w := by simp only [resOne, Sem.run_pure, hf.getD hl]
   rw [List.mapM_cons, Sem.run_bind, h1, Result.andThen_ok, Sem.run_bind, resO_sound hf hr hob]
   rfl
  ·cases h
 | .cell t ty :: rs, os, vs, obs, h, hob => by
  simp only [resO] at h
  split at h
  ·rename_i A hl
   split at h
   ·rename_i v ls os' hv
    split at h
    ·rename_i vs' obs' hr
     simp only [Option.some.injEq, Prod.mk.injEq] at h
     obtain ⟨rfl, rfl⟩ := h
     have h0 := runO_sound (w := w) _ hv (cellsObl_sound hob.left)
     have h1 : (resOne a.tmps (.cell t ty)).run P w = .ok v w := by
      simp only [resOne, Sem.run_bind, hf.getD hl, asAddr, Sem.run_pure, Result.andThen_ok, h0]
     rw [List.mapM_cons, Sem.run_bind, h1, Result.andThen_ok, Sem.run_bind, resO_sound hf hr hob.right]
     rfl
    ·cases h
   ·cases h
  ·cases h
def resAt (P : Program) (fn : Func) (fl : FL) (os : List Value) : Option (Value × List Obl) :=
 match resO P fl fn.results.toList os with
 | some (vs, obs) => some (resV vs, obs)
 | none => none
theorem resV_eq (vs : Array Value) : resV vs.toList = (if h : vs.size = 1 then vs[0] else .tuple vs) := by
 obtain ⟨l⟩ := vs
 match l with
 | [] => rfl
 | [v] => rfl
 | _ :: _ :: _ => simp [resV]
abbrev outM (P : Program) (fn : Func) (R' : Ending → World → Prop) (tmps : Array Value) (ds : List Deferred) (w : World) : Prop := LeavesInM (WF none) 0 P fn tmps R' ds .returning w
abbrev postM (P : Program) (fn : Func) (R' : Ending → World → Prop) : Exit → Act → World → Prop := bodyPostM (WF none) 0 P fn R'
theorem p_end {fn : Func} {R' : Ending → World → Prop} {os : List Value} {v : Value} {obs : List Obl} (hf : Fr a N fl ds) (he : resAt P fn fl os = some (v, obs)) (hob : HA w obs) (k : R' (.returned v) w) :
  outM P fn R' a.tmps [] w := by
 refine ⟨v, ?_, k⟩
 unfold resAt at he
 split at he
 ·rename_i vs obs' hr
  simp only [Option.some.injEq, Prod.mk.injEq] at he
  obtain ⟨rfl, rfl⟩ := he
  have h1 := resO_sound hf hr hob
  have h2 : (fn.results.mapM (resOne a.tmps)).run P w = .ok vs.toArray w := by
   rw [Array.mapM_eq_mapM_toList, map_eq_pure_bind, Sem.run_bind, h1]
   rfl
  have h3 : results fn a.tmps = (do let vs ← fn.results.mapM (resOne a.tmps); pure (if h : vs.size = 1 then vs[0] else .tuple vs)) := rfl
  rw [h3, Sem.run_bind, h2, Result.andThen_ok, Sem.run_pure, ← resV_eq]
 ·cases he
theorem p_retM {fn : Func} {R' : Ending → World → Prop} (hf : Fr a N fl ds) (k : outM P fn R' a.tmps ds w) : postM P fn R' .ret a w := by
 show LeavesInM (WF none) 0 P fn a.tmps R' a.defers .returning w
 rw [hf.defers]; exact k
theorem p_fallM {fn : Func} {R' : Ending → World → Prop} (hf : Fr a N fl ds) (k : outM P fn R' a.tmps ds w) : postM P fn R' .normal a w := by
 show LeavesInM (WF none) 0 P fn a.tmps R' a.defers .returning w
 rw [hf.defers]; exact k
theorem p_ret {fn : Func} {R' : Ending → World → Prop} {os : List Value} {v : Value} {obs : List Obl} (hf : Fr a N fl) (he : resAt P fn fl os = some (v, obs)) (hob : HA w obs) (k : R' (.returned v) w) : postM P fn R' .ret a w := p_retM hf (p_end hf he hob k)
theorem p_fall {fn : Func} {R' : Ending → World → Prop} {os : List Value} {v : Value} {obs : List Obl} (hf : Fr a N fl) (he : resAt P fn fl os = some (v, obs)) (hob : HA w obs) (k : R' (.returned v) w) : postM P fn R' .normal a w := p_fallM hf (p_end hf he hob k)
def argFL (args : Array Value) : FL := args.toList.zipIdx.map fun (v, i) => (i, v)
def bodyOf (fn : Func) : Code := fn.body.getD .skip
theorem look_zipIdx : ∀ (l : List Value) (n t : Nat) (v : Value), look ((l.zipIdx n).map fun (v, i) => (i, v)) t = some v → n ≤ t ∧ l[t - n]? = some v
 | [], n, t, v, h => by simp [look] at h
 | x :: l, n, t, v, h => by
  simp only [List.zipIdx_cons, List.map_cons, look] at h
  cases hb : Nat.beq n t with
  | true => rw [hb] at h; have := Nat.eq_of_beq_eq_true hb; subst this; simp only [cond_true] at h; simp [h]
  | false =>
   rw [hb] at h
   obtain ⟨h1, h2⟩ := look_zipIdx l (n + 1) t v h
   have hne : n ≠ t := Nat.ne_of_beq_eq_false hb
   refine ⟨by omega, ?_⟩
   rw [show t - n = (t - (n + 1)) + 1 by omega]
   simpa using h2
theorem calls_intro {f : FuncId} {fn : Func} {args : Array Value} {R' : Ending → World → Prop} {N : Nat} (hfn : P.funcs[f]? = some fn) (hN : (fn.body.isSome && (Nat.beq (args.size + (fn.ntmps - args.size)) N)) = true)
  (k : ∀ a, Fr a N (argFL args) → (bodyOf fn).cw none P (postM P fn R') a w) : Calls P f args w R' := by
 simp only [Bool.and_eq_true] at hN
 obtain ⟨hb, hN⟩ := hN
 obtain ⟨c, hc⟩ := Option.isSome_iff_exists.1 hb
 refine (callsIn_WF (ro := none) (n := 0)).1 (callsIn_of_wp_marks hfn hc trivial ?_)
 have := k { tmps := args ++ Array.replicate (fn.ntmps - args.size) undef, defers := [] } ⟨by simp [Nat.eq_of_beq_eq_true hN], rfl, fun t v hl => ?_⟩
 ·have h2 : bodyOf fn = c := by simp [bodyOf, hc]
  rw [h2] at this
  exact this
 ·obtain ⟨_, h2⟩ := look_zipIdx args.toList 0 t v hl
  have hlt : t < args.size := by
   have := (List.getElem?_eq_some_iff.1 h2).1
   simpa using this
  simp only [Nat.sub_zero, Array.getElem?_toList] at h2
  simp only [Array.getElem?_append, hlt, if_true]
  exact h2
end Go.Sx
namespace Go.Sx
open Go.Sl
structure Ty (α : Type) where
 size : Nat
 rep : Zone → List Value → α → Prop
 len : ∀ {h cs x}, rep h cs x → cs.length = size
 one : ∀ {h cs x}, rep h cs x → ∀ v ∈ cs, v.oneCell' = true
 mono : ∀ {h h' cs x}, h.le h' → rep h cs x → rep h' cs x
def Rows {α : Type} (T : Ty α) (h : Zone) : List Value → List α → Prop
 | cs, [] => cs = []
 | cs, x :: xs => ∃ c d, cs = c ++ d ∧ T.rep h c x ∧ Rows T h d xs
variable {α : Type} {T : Ty α} {h h' : Zone} {L : List Atom} {w : World}
theorem Rows.mono (k : h.le h') : ∀ {xs : List α} {cs : List Value}, Rows T h cs xs → Rows T h' cs xs
 | [], _, e => e
 | _ :: _, _, ⟨c, d, e, hc, hd⟩ => ⟨c, d, e, T.mono k hc, Rows.mono k hd⟩
theorem Rows.len : ∀ {xs : List α} {cs : List Value}, Rows T h cs xs → cs.length = xs.length * T.size
 | [], _, e => by simp only [Rows] at e; subst e; simp
 | x :: xs, _, ⟨c, d, e, hc, hd⟩ => by
  subst e
  rw [List.length_append, T.len hc, Rows.len hd, List.length_cons, Nat.add_mul, Nat.one_mul, Nat.add_comm]
theorem Rows.one : ∀ {xs : List α} {cs : List Value}, Rows T h cs xs → ∀ v ∈ cs, v.oneCell' = true
 | [], _, e, v, hv => by simp only [Rows] at e; subst e; cases hv
 | x :: xs, _, ⟨c, d, e, hc, hd⟩, v, hv => by
  subst e
  rcases List.mem_append.1 hv with hv | hv
  ·exact T.one hc v hv
  ·exact Rows.one hd v hv
theorem Rows.append : ∀ {xs ys : List α} {cs ds : List Value}, Rows T h cs xs → Rows T h ds ys → Rows T h (cs ++ ds) (xs ++ ys)
 | [], _, _, _, e, k => by simp only [Rows] at e; subst e; exact k
 | x :: xs, ys, _, ds, ⟨c, d, e, hc, hd⟩, k => by subst e; exact ⟨c, d ++ ds, List.append_assoc _ _ _, hc, Rows.append hd k⟩
theorem Rows.single {c : List Value} {x : α} (hc : T.rep h c x) : Rows T h c [x] := ⟨c, [], by simp, hc, rfl⟩
theorem Rows.cons {c d : List Value} {x : α} {xs : List α} (hc : T.rep h c x) (hd : Rows T h d xs) : Rows T h (c ++ d) (x :: xs) := ⟨c, d, rfl, hc, hd⟩
theorem Rows.get : ∀ {xs : List α} {cs : List Value} {i : Nat} {x : α}, Rows T h cs xs → xs[i]? = some x →
  ∃ c, T.rep h c x ∧ ∀ j v, c[j]? = some v → cs[i * T.size + j]? = some v
 | x :: xs, _, 0, y, ⟨c, d, e, hc, hd⟩, hi => by
  simp only [List.getElem?_cons_zero, Option.some.injEq] at hi
  subst hi; subst e
  refine ⟨c, hc, fun j v hj => ?_⟩
  have hlt : j < c.length := (List.getElem?_eq_some_iff.1 hj).1
  rw [Nat.zero_mul, Nat.zero_add, List.getElem?_append_left hlt]
  exact hj
 | x :: xs, _, i + 1, y, ⟨c, d, e, hc, hd⟩, hi => by
  simp only [List.getElem?_cons_succ] at hi
  obtain ⟨c', hc', hg⟩ := Rows.get hd hi
  subst e
  refine ⟨c', hc', fun j v hj => ?_⟩
  have hl := T.len hc
  rw [List.getElem?_append_right (by rw [hl, Nat.add_mul]; omega), hl]
  have : (i + 1) * T.size + j - T.size = i * T.size + j := by rw [Nat.add_mul]; omega
  rw [this]
  exact hg j v hj
theorem Rows.take : ∀ {xs : List α} {cs : List Value} (n : Nat), Rows T h cs xs → n ≤ xs.length → Rows T h (cs.take (n * T.size)) (xs.take n)
 | xs, cs, 0, _, _ => by simp [Rows]
 | [], _, n + 1, _, hn => by simp at hn
 | x :: xs, _, n + 1, ⟨c, d, e, hc, hd⟩, hn => by
  subst e
  refine ⟨c, d.take (n * T.size), ?_, hc, Rows.take n hd (by simpa using hn)⟩
  have hl := T.len hc
  rw [List.take_append, hl, Nat.add_mul, Nat.one_mul, List.take_of_length_le (by omega)]
  congr 2
  omega
theorem Rows.drop : ∀ {xs : List α} {cs : List Value} (n : Nat), Rows T h cs xs → n ≤ xs.length → Rows T h (cs.drop (n * T.size)) (xs.drop n)
 | xs, cs, 0, k, _ => by simpa using k
 | [], _, n + 1, _, hn => by simp at hn
 | x :: xs, _, n + 1, ⟨c, d, e, hc, hd⟩, hn => by
  subst e
  have hl := T.len hc
  have h1 := Rows.drop n hd (by simpa using hn)
  rw [List.drop_append, hl, Nat.add_mul, Nat.one_mul, List.drop_of_length_le (by omega), List.nil_append, List.drop_succ_cons]
  have : n * T.size + T.size - T.size = n * T.size := by omega
  rw [this]
  exact h1
theorem Rows.set {xs : List α} {cs : List Value} {i : Nat} {x : α} (k : Rows T h cs xs) (hi : i < xs.length) {off : Nat} {vs : List Value}
  (hx : ∀ c, T.rep h c xs[i] → T.rep h (splice c off vs) x) (hoff : off + vs.length ≤ T.size) : Rows T h (splice cs (i * T.size + off) vs) (xs.set i x) := by
 have e : cs = cs.take (i * T.size) ++ (cs.drop (i * T.size)).take T.size ++ cs.drop ((i + 1) * T.size) := by
  rw [List.append_assoc, Nat.add_mul, Nat.one_mul, ← List.drop_drop, List.take_append_drop, List.take_append_drop]
 have h1 := k.take i (by omega)
 have h3 := k.drop (i + 1) (by omega)
 have h2 : T.rep h ((cs.drop (i * T.size)).take T.size) xs[i] := by
  have h4 := k.drop i (by omega)
  rw [List.drop_eq_getElem_cons hi] at h4
  obtain ⟨c, d, e, hc, _⟩ := h4
  rw [e, ← T.len hc, List.take_left]
  exact hc
 have hlen := k.len
 have l1 : (cs.take (i * T.size)).length = i * T.size := by
  rw [List.length_take, hlen]
  exact Nat.min_eq_left (Nat.mul_le_mul_right _ (by omega))
 have l2 := T.len h2
 have h2' := hx _ h2
 have : splice cs (i * T.size + off) vs = cs.take (i * T.size) ++ splice ((cs.drop (i * T.size)).take T.size) off vs ++ cs.drop ((i + 1) * T.size) := by
  unfold splice
  conv => lhs; rw [e]
  generalize cs.take (i * T.size) = A at *
  generalize (cs.drop (i * T.size)).take T.size = B at *
  generalize cs.drop ((i + 1) * T.size) = D at *
  have t1 : (A ++ B ++ D).take (i * T.size + off) = A ++ B.take off := by
   rw [List.append_assoc, List.take_append, l1, List.take_of_length_le (by omega), List.take_append]
   have e0 : i * T.size + off - i * T.size = off := by omega
   rw [e0, l2]
   have e1 : off - T.size = 0 := by omega
   rw [e1, List.take_zero, List.append_nil]
  have t2 : (A ++ B ++ D).drop (i * T.size + off + vs.length) = B.drop (off + vs.length) ++ D := by
   rw [List.append_assoc, List.drop_append, l1, List.drop_of_length_le (by omega), List.nil_append, List.drop_append, l2]
   have e0 : i * T.size + off + vs.length - i * T.size = off + vs.length := by omega
   rw [e0]
   have e1 : off + vs.length - T.size = 0 := by omega
   rw [e1, List.drop_zero]
  rw [t1, t2]
  simp only [List.append_assoc]
 rw [this, List.set_eq_take_append_cons_drop, if_pos hi]
 rw [List.append_assoc]
 exact h1.append (Rows.cons h2' h3)
theorem add_add (a : Addr) (m n : Nat) : (a.add m).add n = a.add (m + n) := by
 unfold Addr.add
 by_cases hm : m = 0
 ·subst hm; simp
 ·by_cases hn : n = 0
  ·subst hn; simp [hm]
  ·have : m + n ≠ 0 := by omega
   simp [hm, hn, Nat.add_assoc]
theorem add_zero' (a : Addr) : a.add 0 = a := by simp [Addr.add]
structure SliceR {α : Type} (T : Ty α) (h : Zone) (o : Option Addr) (cap : Nat) (xs : List α) : Prop where
 hcap : xs.length ≤ cap
 hmax : cap ≤ maxLen
 hnil : o = none → xs = [] ∧ cap = 0
 hat : ∀ a, o = some a → ∀ i x, xs[i]? = some x → ∃ c, T.rep h c x ∧ ∀ j v, c[j]? = some v → h.cell? ((a.add (i * T.size)).add j) = some v
theorem SliceR.mono (k : h.le h') {o : Option Addr} {cap : Nat} {xs : List α} (s : SliceR T h o cap xs) : SliceR T h' o cap xs :=
 ⟨s.hcap, s.hmax, s.hnil, fun a e i x hx => let ⟨c, hc, hj⟩ := s.hat a e i x hx; ⟨c, T.mono k hc, fun j v e => k.cell (hj j v e)⟩⟩
def getI {α : Type} (xs : List α) (i : Int) : Option α := if 0 ≤ i then xs[i.toNat]? else none
theorem getI_spec {xs : List α} {i : Int} {x : α} (e : getI xs i = some x) : (0 ≤ i ∧ i < xs.length) ∧ xs[i.toNat]? = some x := by
 unfold getI at e
 split at e
 ·rename_i h0
  have := (List.getElem?_eq_some_iff.1 e).1
  exact ⟨⟨h0, by omega⟩, e⟩
 ·cases e
theorem SliceR.getI {o : Option Addr} {cap : Nat} {xs : List α} {i : Int} {x : α} (s : SliceR T h o cap xs) (e : Sx.getI xs i = some x) :
  ∃ a, o = some a ∧ (0 ≤ i ∧ i < xs.length) ∧ ∃ c, T.rep h c x ∧ ∀ j v, c[j]? = some v → h.cell? ((a.add (i.toNat * T.size)).add j) = some v := by
 obtain ⟨hb, hx⟩ := getI_spec e
 cases o with
 | none =>
  obtain ⟨rfl, _⟩ := s.hnil rfl
  simp at hx
 | some a => exact ⟨a, rfl, hb, s.hat a rfl _ _ hx⟩
theorem SliceR.nil' (T : Ty α) (h : Zone) : SliceR T h none 0 [] := ⟨by simp, by simp, fun _ => ⟨rfl, rfl⟩, fun a e => by cases e⟩
def subI {α : Type} (xs : List α) (lo hi : Int) : Option (List α) := if 0 ≤ lo ∧ lo ≤ hi ∧ hi ≤ xs.length then some ((xs.take hi.toNat).drop lo.toNat) else none
theorem subI_spec {xs ys : List α} {lo hi : Int} (e : subI xs lo hi = some ys) : (0 ≤ lo ∧ lo ≤ hi ∧ hi ≤ xs.length) ∧ ys = (xs.take hi.toNat).drop lo.toNat := by
 unfold subI at e
 split at e
 ·rename_i hc; simp only [Option.some.injEq] at e; exact ⟨hc, e.symm⟩
 ·cases e
theorem subI_len {xs ys : List α} {lo hi : Int} (e : subI xs lo hi = some ys) : ys.length = hi.toNat - lo.toNat := by
 obtain ⟨hc, rfl⟩ := subI_spec e
 simp only [List.length_drop, List.length_take]
 omega
theorem SliceR.sub {o : Option Addr} {cap : Nat} {xs ys : List α} {lo hi : Int} (s : SliceR T h o cap xs) (e : subI xs lo hi = some ys) : SliceR T h (subO o cap lo.toNat T.size) (cap - lo.toNat) ys := by
 obtain ⟨⟨h0, h1, h2⟩, hy⟩ := subI_spec e
 have hl := subI_len e
 have hcap := s.hcap
 refine ⟨by omega, by have := s.hmax; omega, fun hn => ?_, fun a ha i x hx => ?_⟩
 ·unfold subO at hn
  have ho : o = none := by
   split at hn
   ·exact hn
   ·simpa using hn
  obtain ⟨rfl, rfl⟩ := s.hnil ho
  simp at h2
  have : ys.length = 0 := by rw [hl]; omega
  exact ⟨List.eq_nil_of_length_eq_zero this, by omega⟩
 ·have hx' : xs[lo.toNat + i]? = some x := by
   rw [hy, List.getElem?_drop, List.getElem?_take] at hx
   split at hx
   ·exact hx
   ·cases hx
  have hlt : lo.toNat + i < xs.length := (List.getElem?_eq_some_iff.1 hx').1
  have hne : cap ≠ lo.toNat := by omega
  unfold subO at ha
  rw [if_neg hne] at ha
  cases o with
  | none => cases ha
  | some b =>
   simp only [Option.map_some, Option.some.injEq] at ha
   subst ha
   obtain ⟨c, hc, hj⟩ := s.hat b rfl _ _ hx'
   refine ⟨c, hc, fun j v e => ?_⟩
   have := hj j v e
   rw [Nat.add_mul, ← add_add] at this
   exact this
theorem subO_zero (o : Option Addr) (cap size : Nat) : subO o cap 0 size = o := by
 unfold subO
 split
 ·rfl
 ·cases o <;> simp [add_zero']
def Ty.int : Ty Int := ⟨1, fun _ cs n => cs = [.int .i64 n], fun e => by subst e; rfl, fun e v hv => by subst e; simp at hv; subst hv; rfl, fun _ e => e⟩
def Ty.bool : Ty Bool := ⟨1, fun _ cs b => cs = [.bool b], fun e => by subst e; rfl, fun e v hv => by subst e; simp at hv; subst hv; rfl, fun _ e => e⟩
def Ty.str : Ty ByteArray := ⟨1, fun _ cs s => cs = [.string s], fun e => by subst e; rfl, fun e v hv => by subst e; simp at hv; subst hv; rfl, fun _ e => e⟩
def Ty.flat (n : Nat) (f : α → List Value) (hn : ∀ x, (f x).length = n) (h1 : ∀ x, oneCells (f x) = true) : Ty α :=
 ⟨n, fun _ cs x => cs = f x, fun e => by subst e; exact hn _, fun e v hv => by subst e; exact oneCells_spec (h1 _) v hv, fun _ e => e⟩
def Ty.slice (T : Ty α) : Ty (List α) :=
 ⟨1, fun h cs xs => ∃ o cap, cs = [.slice o xs.length cap] ∧ SliceR T h o cap xs, fun ⟨_, _, e, _⟩ => by subst e; rfl,
  fun ⟨_, _, e, _⟩ v hv => by subst e; simp at hv; subst hv; rfl, fun k ⟨o, cap, e, s⟩ => ⟨o, cap, e, s.mono k⟩⟩
def Ty.arr (n : Nat) (T : Ty α) : Ty (List α) :=
 ⟨n * T.size, fun h cs xs => xs.length = n ∧ Rows T h cs xs, fun ⟨hl, k⟩ => by rw [k.len, hl], fun ⟨_, k⟩ => k.one, fun k ⟨hl, e⟩ => ⟨hl, e.mono k⟩⟩
def Ty.pair {β : Type} (T : Ty α) (U : Ty β) : Ty (α × β) :=
 ⟨T.size + U.size, fun h cs x => ∃ c d, cs = c ++ d ∧ T.rep h c x.1 ∧ U.rep h d x.2, fun ⟨c, d, e, hc, hd⟩ => by subst e; rw [List.length_append, T.len hc, U.len hd],
  fun ⟨c, d, e, hc, hd⟩ v hv => by subst e; rcases List.mem_append.1 hv with hv | hv; exact T.one hc v hv; exact U.one hd v hv,
  fun k ⟨c, d, e, hc, hd⟩ => ⟨c, d, e, T.mono k hc, U.mono k hd⟩⟩
def OwnP {α : Type} (T : Ty α) (E : TypeId) (o : Option Addr) (cap : Nat) (xs : List α) (h : Zone) (z : Hp) : Prop :=
 (o = none ∧ cap = 0 ∧ xs = [] ∧ z = Hp.nil) ∨
 ∃ g cur, o = some ⟨g, 0, none⟩ ∧ z = Hp.one g (.cells cur E (0, 0)) ∧ xs.length ≤ cap ∧ cap ≤ maxLen ∧ cur.size = cap * T.size ∧ Rows T h (cur.toList.take (xs.length * T.size)) xs
def ownS {α : Type} (T : Ty α) (E : TypeId) (o : Option Addr) (cap : Nat) (xs : List α) : Atom :=
 ⟨OwnP T E o cap xs, fun _ _ _ k e => e.imp id fun ⟨g, cur, e1, e2, e3, e4, e5, e6⟩ => ⟨g, cur, e1, e2, e3, e4, e5, e6.mono k⟩⟩
variable {E : TypeId} {o : Option Addr} {cap : Nat} {xs : List α}
theorem _root_.Go.Sl.St.ownNil (s : St h L w) (T : Ty α) (E : TypeId) : St h (ownS T E none 0 [] :: L) w := by
 obtain ⟨z, hz, hd, hb, hzw⟩ := s.sep
 exact ⟨⟨z, ⟨Hp.nil, z, .inl ⟨rfl, rfl, rfl, rfl⟩, hz, Hp.apart_comm (Hp.apart_nil _), rfl⟩, hd, hb, hzw⟩, s.os, s.tape, s.output⟩
theorem _root_.Go.Sl.St.conv (s : St h L w) {i : Nat} {A B : Atom} (hi : L[i]? = some A) (k : ∀ z, A.P h z → B.P h z) : St h (L.set i B) w := by
 obtain ⟨z, hz, hd, hb, hzw⟩ := s.sep
 obtain ⟨x, y, hx, dxy, e, hset⟩ := hz.focus hi
 subst e
 exact ⟨⟨_, hset h B x (Zone.le_refl h) (k x hx) dxy, hd, hb, hzw⟩, s.os, s.tape, s.output⟩
theorem _root_.Go.Sl.St.ownBox (s : St h L w) {i b : Nat} {cs : List Value} {n : Nat} (hi : L[i]? = some (box b cs E)) (hr : Rows T h cs xs) (hn : xs.length = n) (hmax : n ≤ maxLen) :
  St h (L.set i (ownS T E (some ⟨b, 0, none⟩) n xs)) w := by
 subst hn
 refine s.conv hi fun z hz => .inr ⟨b, cs.toArray, rfl, hz, Nat.le_refl _, hmax, by simp [hr.len], ?_⟩
 have := hr.len
 show Rows T h (cs.take (xs.length * T.size)) xs
 rw [← this, List.take_length]
 exact hr
theorem OwnP.read {z : Hp} (k : OwnP T E o cap xs h z) (hz : z.le (fun b => w.heap[b]?)) : (o = none → xs = [] ∧ cap = 0) ∧ xs.length ≤ cap ∧ cap ≤ maxLen ∧
  ∀ a, o = some a → ∃ cs, Rows T h cs xs ∧ ∀ j v, cs[j]? = some v → w.cell? (a.add j) = some v := by
 rcases k with ⟨rfl, rfl, rfl, rfl⟩ | ⟨g, cur, rfl, rfl, h1, h2, h3, h4⟩
 ·exact ⟨fun _ => ⟨rfl, rfl⟩, by simp, by simp, fun a e => (by cases e)⟩
 ·refine ⟨fun e => (by cases e), h1, h2, fun a e => ?_⟩
  cases e
  refine ⟨_, h4, fun j v hj => ?_⟩
  have hg : w.heap[g]? = some (.cells cur E (0, 0)) := Hp.one_le.1 hz
  rw [List.getElem?_take] at hj
  split at hj
  ·have hadd : (⟨g, 0, none⟩ : Addr).add j = ⟨g, j, none⟩ := by unfold Addr.add; split <;> simp_all
   rw [hadd]
   simpa [World.cell?, hg] using hj
  ·cases hj
theorem _root_.Go.Sl.St.ownGet (s : St h L w) {j : Nat} (hj : L[j]? = some (ownS T E o cap xs)) {i : Int} {x : α} (e : Sx.getI xs i = some x) :
  ∃ a, o = some a ∧ (0 ≤ i ∧ i < xs.length) ∧ ∃ c, T.rep h c x ∧ ∀ k v, c[k]? = some v → w.cell? ((a.add (i.toNat * T.size)).add k) = some v := by
 obtain ⟨z, hz, hzw, _, _⟩ := s.focus hj
 obtain ⟨hnil, hcap, hmax, hat⟩ := OwnP.read hz hzw
 obtain ⟨hb, hx⟩ := getI_spec e
 cases o with
 | none => obtain ⟨rfl, _⟩ := hnil rfl; simp at hx
 | some a =>
  obtain ⟨cs, hr, hc⟩ := hat a rfl
  obtain ⟨c, hrep, hg⟩ := hr.get hx
  exact ⟨a, rfl, hb, c, hrep, fun k v hk => by rw [add_add]; exact hc _ _ (hg k v hk)⟩
theorem _root_.Go.Sl.St.ownNilOf (s : St h L w) {j : Nat} (hj : L[j]? = some (ownS T E o cap xs)) : (o = none → xs = [] ∧ cap = 0) ∧ xs.length ≤ cap ∧ cap ≤ maxLen := by
 obtain ⟨z, hz, hzw, _, _⟩ := s.focus hj
 obtain ⟨hnil, hcap, hmax, hat⟩ := OwnP.read hz hzw
 exact ⟨hnil, hcap, hmax⟩
theorem _root_.Go.Sl.St.share (s : St h L w) {j : Nat} (hj : L[j]? = some (ownS T E o cap xs)) : ∃ h', h.le h' ∧ St h' (L.set j emp) w ∧ SliceR T h' o cap xs := by
 obtain ⟨h', x, hle, hx, hxb, hs⟩ := s.freeze hj
 refine ⟨h', hle, hs, ?_⟩
 have hx' : OwnP T E o cap xs h' x := hx
 rcases hx' with ⟨rfl, rfl, rfl, rfl⟩ | ⟨g, cur, rfl, rfl, h1, h2, h3, h4⟩
 ·exact SliceR.nil' T h'
 ·refine ⟨h1, h2, fun e => (by cases e), fun a e i y hy => ?_⟩
  cases e
  obtain ⟨c, hc, hg⟩ := h4.get hy
  refine ⟨c, hc, fun k v hk => ?_⟩
  have hblk : h'.blk g = some (.cells cur E (0, 0)) := Hp.one_le.1 hxb
  have := hg k v hk
  rw [List.getElem?_take] at this
  split at this
  ·rw [add_add]
   have hadd : (⟨g, 0, none⟩ : Addr).add (i * T.size + k) = ⟨g, i * T.size + k, none⟩ := by unfold Addr.add; split <;> simp_all
   rw [hadd]
   simpa [Zone.cell?, hblk] using this
  ·cases this
theorem _root_.Go.Sl.St.ownTake (s : St h L w) {j n : Nat} (hj : L[j]? = some (ownS T E o cap xs)) (hn : n ≤ xs.length) : St h (L.set j (ownS T E o cap (xs.take n))) w := by
 refine s.conv hj fun z hz => ?_
 rcases hz with ⟨rfl, rfl, rfl, rfl⟩ | ⟨g, cur, rfl, rfl, h1, h2, h3, h4⟩
 ·exact .inl ⟨rfl, rfl, by simp, rfl⟩
 ·have hl : (xs.take n).length = n := by rw [List.length_take]; omega
  refine .inr ⟨g, cur, rfl, rfl, by omega, h2, h3, ?_⟩
  have := h4.take n hn
  rw [List.take_take, Nat.min_eq_left (Nat.mul_le_mul_right _ hn)] at this
  rwa [hl]
theorem _root_.Go.Sl.St.ownSub (s : St h L w) {j : Nat} (hj : L[j]? = some (ownS T E o cap xs)) {hi : Int} {ys : List α} (e : subI xs 0 hi = some ys) :
  (Value.slice o ys.length cap = .slice (subO o cap (Int.toNat 0) T.size) (hi.toNat - Int.toNat 0) (cap - Int.toNat 0)) ∧ (0 ≤ (0 : Int) ∧ 0 ≤ hi ∧ hi ≤ (cap : Int) ∧ xs.length ≤ cap) ∧ St h (L.set j (ownS T E o cap ys)) w := by
 obtain ⟨⟨h0, h1, h2⟩, hy⟩ := subI_spec e
 have hl := subI_len e
 obtain ⟨_, hc, _⟩ := s.ownNilOf hj
 refine ⟨by rw [hl]; simp [subO_zero], ⟨by omega, h1, by omega, hc⟩, ?_⟩
 have := s.ownTake hj (n := hi.toNat) (by omega)
 rw [hy]
 simpa using this
end Go.Sx
namespace Go.Sx
open Go.Sl
variable {α : Type} {T : Ty α} {P : Program} {a : Act} {N : Nat} {fl : FL} {ds : List Deferred} {ε : Px} {w : World} {R : Array Oper} {m : List Nat} {S : World → Prop} {K : Act → World → Prop} {pl : List (Nat × Bool)} {h : Zone} {L : List Atom}
variable {E : TypeId} {o : Option Addr} {cap : Nat} {xs : List α}
structure ElemOK (P : Program) (t E : TypeId) (size : Nat) (z : Value) (nb : Nat := 128) : Prop where
 und : P.underlying t = some (.slice E)
 info : ∃ i, P.info? E = some i ∧ i.size = size ∧ i.bytes ≤ nb ∧ i.zero = some z
 zs : z.cells.size = size
 pos : 0 < size
 nbp : 0 < nb
structure Byt (α : Type) where
 n : Nat
instance (priority := 10) bytA {α : Type} : Inhabited (Byt α) := ⟨⟨128⟩⟩
instance bytI : Inhabited (Byt Int) := ⟨⟨8⟩⟩
instance bytB : Inhabited (Byt Bool) := ⟨⟨8⟩⟩
instance bytU : Inhabited (Byt Unit) := ⟨⟨8⟩⟩
instance bytS : Inhabited (Byt ByteArray) := ⟨⟨16⟩⟩
instance bytL {α : Type} : Inhabited (Byt (List α)) := ⟨⟨24⟩⟩
instance bytP {α β : Type} [a : Inhabited (Byt α)] [b : Inhabited (Byt β)] : Inhabited (Byt (α × β)) := ⟨⟨a.default.n + b.default.n⟩⟩
def SrcR {α : Type} (T : Ty α) (h : Zone) (w : World) (o : Option Addr) (ys : List α) : Prop :=
 (o = none ∧ ys = []) ∨ ∃ a cs, o = some a ∧ Rows T h cs ys ∧ ∀ j v, cs[j]? = some v → w.cell? (a.add j) = some v
theorem SliceR.rows {a : Addr} {ys : List α} (s : SliceR T h (some a) cap ys) : ∀ n, n ≤ ys.length → ∃ cs, Rows T h cs (ys.take n) ∧ ∀ j v, cs[j]? = some v → h.cell? (a.add j) = some v
 | 0, _ => ⟨[], by simp [Rows], fun j v e => by simp at e⟩
 | n + 1, hn => by
  obtain ⟨cs, hr, hc⟩ := SliceR.rows s n (by omega)
  have hlt : n < ys.length := by omega
  obtain ⟨c, hrep, hj⟩ := s.hat a rfl n ys[n] (by simp [hlt])
  refine ⟨cs ++ c, ?_, fun j v e => ?_⟩
  ·rw [List.take_succ_eq_append_getElem hlt]
   exact hr.append (Rows.single hrep)
  ·have hl : cs.length = n * T.size := by rw [hr.len, List.length_take, Nat.min_eq_left (by omega)]
   by_cases hjl : j < cs.length
   ·rw [List.getElem?_append_left hjl] at e
    exact hc j v e
   ·rw [List.getElem?_append_right (by omega), hl] at e
    have := hj _ v e
    rw [add_add] at this
    rwa [show n * T.size + (j - n * T.size) = j by omega] at this
theorem SliceR.src (s : SliceR T h o cap xs) (hS : St h L w) : SrcR T h w o xs := by
 cases o with
 | none => exact .inl ⟨rfl, (s.hnil rfl).1⟩
 | some a =>
  obtain ⟨cs, hr, hc⟩ := s.rows xs.length (Nat.le_refl _)
  rw [List.take_length] at hr
  exact .inr ⟨a, cs, rfl, hr, fun j v e => hS.cell (hc j v e)⟩
theorem _root_.Go.Sl.St.ownSrc (s : St h L w) {j : Nat} (hj : L[j]? = some (ownS T E o cap xs)) : SrcR T h w o xs := by
 obtain ⟨z, hz, hzw, _, _⟩ := s.focus hj
 obtain ⟨hnil, hcap, hmax, hat⟩ := OwnP.read hz hzw
 cases o with
 | none => exact .inl ⟨rfl, (hnil rfl).1⟩
 | some a =>
  obtain ⟨cs, hr, hc⟩ := hat a rfl
  exact .inr ⟨a, cs, rfl, hr, hc⟩
def appC {α : Type} [b : Inhabited (Byt α)] (xs ys : List α) : Option (List α) := if (xs.length + ys.length) * b.default.n ≤ 140737488355328 then some (xs ++ ys) else none
theorem appC_spec {b : Inhabited (Byt α)} {xs ys zs : List α} (e : appC xs ys = some zs) : (xs.length + ys.length) * b.default.n ≤ 140737488355328 ∧ zs = xs ++ ys := by
 unfold appC at e
 split at e
 ·rename_i hc; simp only [Option.some.injEq] at e; exact ⟨hc, e.symm⟩
 ·cases e
def appAt (R : Array Oper) (N : Nat) (pl : List (Nat × Bool)) (fl : FL) : Option (Nat × Option Nat × TypeId × Value × Value) :=
 match opAt R N pl fl with
 | some (i, o) => match o.op with
  | .call { callee := .builtin .append, args := ⟨[s, x]⟩, argTypes := ⟨[t, t']⟩ } => bif Nat.beq t t' then some (i, o.dst, t, ev fl s, ev fl x) else none
  | _ => none
 | none => none
theorem run_append_src {t ty : TypeId} {z : Value} {nb : Nat} (hE : ElemOK P t E T.size z nb) {o2 : Option Addr} {c2 : Nat} {ys : List α} (hS : St h L w) {j : Nat} (hj : L[j]? = some (ownS T E o cap xs))
  (hsrc : SrcR T h w o2 ys) (hlen : (xs.length + ys.length) * nb ≤ 140737488355328) :
  ∃ o' cap' w', (Builtin.append_ #[t, t] ty #[.slice o xs.length cap, .slice o2 ys.length c2]).run P w = .ok (.slice o' (xs ++ ys).length cap') w' ∧ St h (L.set j (ownS T E o' cap' (xs ++ ys))) w' := by
 obtain ⟨x, hx, hxw, dx, hset⟩ := hS.focus hj
 obtain ⟨i, hi, hsize, hby, hz⟩ := hE.info
 have hx' : OwnP T E o cap xs h x := hx
 -- the kit's word for what is owned
 have hown : ∃ cs, Rows T h cs xs ∧ w.ownsRow 0 E T.size (.slice o xs.length cap) xs.length cs := by
  rcases hx' with ⟨rfl, rfl, rfl, _⟩ | ⟨g, cur, rfl, rfl, h1, h2, h3, h4⟩
  ·exact ⟨[], rfl, World.ownsRow_nil w 0 E T.size⟩
  ·exact ⟨_, h4, h4.len, .inr ⟨g, cap, cur, rfl, Nat.zero_le _, Hp.one_le.1 hxw, h1, h2, h3, rfl⟩⟩
 obtain ⟨cs, hrows, hown⟩ := hown
 have hbytes : (xs.length + ys.length) * i.bytes ≤ 140737488355328 := Nat.le_trans (Nat.mul_le_mul_left _ hby) hlen
 have hmaxlen : xs.length + ys.length ≤ maxLen := by
  have := Nat.le_trans (Nat.le_mul_of_pos_right (xs.length + ys.length) hE.nbp) hlen
  simp only [maxLen]; omega
 rcases hsrc with ⟨rfl, rfl⟩ | ⟨ad, news, rfl, hnews, hcell⟩
 ·-- nothing is appended
  have hrun : (Builtin.append_ #[t, t] ty #[.slice o xs.length cap, .slice none ([] : List α).length c2]).run P w = .ok (.slice o xs.length cap) w := by
   have hcap : xs.length ≤ cap := by
    rcases hx' with ⟨rfl, rfl, rfl, _⟩ | ⟨g, cur, rfl, rfl, h1, _⟩
    ·simp
    ·exact h1
   simp only [Builtin.append_, List.length_nil]
   cases o <;> simp [run_underlying hE.und, sizeOf, typeInfo, hi, Builtin.lenOf, Builtin.firstCells, hcap, storeCells]
  refine ⟨o, cap, w, by simpa using hrun, ?_⟩
  rw [List.append_nil]
  have := hset w (ownS T E o cap xs) x hx hxw (fun _ _ _ => rfl) (fun b o e => .inr (by rw [e]; rfl)) rfl rfl rfl
  exact this
 ·obtain ⟨v', w', hrun, hown', hgr, _, hat⟩ := run_append_own_at (P := P) w 0 t ty E i z T.size i.bytes hE.und hi hz hsize rfl hE.zs hE.pos (.slice o xs.length cap) xs.length cs hown ad ys.length c2 news hnews.len hcell hnews.one hmaxlen hbytes (Nat.zero_le _)
  have hall : Rows T h (cs ++ news) (xs ++ ys) := hrows.append hnews
  have hl : (xs ++ ys).length = xs.length + ys.length := List.length_append
  obtain ⟨hlen', hv⟩ := hown'
  rcases hv with ⟨hv, h0⟩ | ⟨g, cap', cur, hv, _, hg, hnc, hcm, hcs, htake⟩
  ·-- nil stays nil
   have hys : xs ++ ys = [] := List.eq_nil_of_length_eq_zero (by omega)
   refine ⟨none, 0, w', ?_, ?_⟩
   ·rw [hrun, hv, hys]; rfl
   ·rw [hys]
    refine hset w' (ownS T E none 0 []) Hp.nil (.inl ⟨rfl, rfl, rfl, rfl⟩) (Hp.nil_le _) (fun b hb hn => hgr.block b hb fun e => ?_) (fun b o e => by simp [Hp.nil] at e) hgr.os hgr.tape hgr.output
    rcases hx' with ⟨rfl, rfl, rfl, _⟩ | ⟨g, cur, rfl, rfl, _⟩
    ·simp [Value.ownBlock] at e
    ·simp only [Value.ownBlock, Option.some.injEq] at e
     subst e
     simp [Hp.one] at hn
  ·refine ⟨some ⟨g, 0, none⟩, cap', w', by rw [hrun, hv, hl], ?_⟩
   refine hset w' (ownS T E (some ⟨g, 0, none⟩) cap' (xs ++ ys)) (Hp.one g (.cells cur E (0, 0))) (.inr ⟨g, cur, rfl, rfl, by rw [hl]; exact hnc, hcm, hcs, ?_⟩) (Hp.one_le.2 hg) (fun b hb hn => hgr.block b hb fun e => ?_) (fun b o' e => ?_) hgr.os hgr.tape hgr.output
   ·rw [hl, htake]; exact hall
   ·rcases hx' with ⟨rfl, rfl, rfl, _⟩ | ⟨g0, cur0, rfl, rfl, _⟩
    ·simp [Value.ownBlock] at e
    ·simp only [Value.ownBlock, Option.some.injEq] at e
     subst e
     simp [Hp.one] at hn
   ·unfold Hp.one at e
    split at e
    ·rename_i hbg
     subst hbg
     rw [hv] at hat
     rcases hat with e1 | e1
     ·right
      rcases hx' with ⟨rfl, rfl, rfl, _⟩ | ⟨g0, cur0, rfl, rfl, _⟩
      ·simp [Value.ownBlock] at e1
      ·simp only [Value.ownBlock, Option.some.injEq] at e1
       subst e1
       simp [Hp.one]
     ·left
      simp only [Value.ownBlock, Option.some.injEq] at e1
      omega
    ·cases e
theorem p_append {i j : Nat} {d : Option Nat} {t : TypeId} {z : Value} {o2 : Option Addr} {c2 : Nat} {ys zs : List α} {b : Inhabited (Byt α)} (hE : ElemOK P t E T.size z b.default.n) (hS : St h L w) (hf : Fr a N fl ds) (hj : L[j]? = some (ownS T E o cap xs))
  (ho : appAt R N pl fl = some (i, d, t, .slice o xs.length cap, .slice o2 ys.length c2)) (hsrc : SrcR T h w o2 ys) (hz : appC xs ys = some zs)
  (k : ∀ o' cap' w' a', St h (L.set j (ownS T E o' cap' zs)) w' → Fr a' N (putF fl d (.slice o' zs.length cap')) ds → (m.contains i = false → S w') ∧ wpPlan ε P R m S K pl.tail a' w') : wpPlan ε P R m S K pl a w := by
 obtain ⟨hlen, rfl⟩ := appC_spec hz
 unfold appAt at ho
 cases h1 : opAt R N pl fl with
 | none => rw [h1] at ho; simp at ho
 | some q =>
  obtain ⟨i', op⟩ := q
  rw [h1] at ho
  simp only at ho
  split at ho
  ·rename_i s x t1 t2 hop
   cases hb : Nat.beq t1 t2 with
   | false => rw [hb] at ho; simp at ho
   | true =>
    rw [hb] at ho
    have := Nat.eq_of_beq_eq_true hb
    subst this
    simp only [cond_true, Option.some.injEq, Prod.mk.injEq] at ho
    obtain ⟨rfl, rfl, rfl, hs, hx⟩ := ho
    obtain ⟨o', cap', w', hrun, hS'⟩ := run_append_src (ty := op.type) (c2 := c2) hE hS hj hsrc hlen
    refine p_val (w' := w') (v := .slice o' (xs ++ ys).length cap') hf h1 ?_ fun a' hf' => k o' cap' w' a' hS' hf'
    simp only [execOp, hop, resolve, invoke, builtin, Sem.run_bind, Sem.run_pure, Result.andThen_ok, List.map_toArray, List.map_cons, List.map_nil, hs, hx, hrun]
  ·cases ho
def mkAt (R : Array Oper) (N : Nat) (pl : List (Nat × Bool)) (fl : FL) : Option (Nat × Option Nat × TypeId × Value × Value) :=
 match opAt R N pl fl with
 | some (i, o) => match o.op with
  | .makeSlice t l c => some (i, o.dst, t, ev fl l, ev fl c)
  | _ => none
 | none => none
def mkC {α : Type} (n : Int) (x : α) : Option (List α) := if 0 ≤ n ∧ n ≤ 1099511627776 then some (List.replicate n.toNat x) else none
theorem rows_made {x0 : α} {zc : List Value} (h0 : T.rep h zc x0) (hpos : 0 < T.size) : ∀ n, Rows T h ((List.range (n * T.size)).map fun i => zc.getD (i % T.size) undef) (List.replicate n x0)
 | 0 => by simp [Rows]
 | n + 1 => by
  have hl := T.len h0
  have e : (List.range ((n + 1) * T.size)).map (fun i => zc.getD (i % T.size) undef) = zc ++ (List.range (n * T.size)).map fun i => zc.getD (i % T.size) undef := by
   rw [Nat.add_mul, Nat.one_mul, Nat.add_comm, List.range_add, List.map_append, List.map_map]
   congr 1
   ·apply List.ext_getElem
    ·simp [hl]
    ·intro i h1 h2
     simp only [List.length_map, List.length_range] at h1
     simp [Nat.mod_eq_of_lt h1, h2]
   ·apply List.map_congr_left
    intro i _
    simp
  rw [e, List.replicate_succ]
  exact Rows.cons h0 (rows_made h0 hpos n)
theorem p_make {i : Nat} {d : Option Nat} {t : TypeId} {z : Value} {n : Int} {x0 : α} {xs : List α} (hE : ElemOK P t E T.size z) (hS : St h L w) (hf : Fr a N fl ds)
  (ho : mkAt R N pl fl = some (i, d, t, .int .i64 n, .int .i64 n)) (h0 : T.rep h z.cells.toList x0) (hn : mkC n x0 = some xs)
  (k : ∀ o' w' a', St h (ownS T E (some o') xs.length xs :: L) w' → Fr a' N (putF fl d (.slice (some o') xs.length xs.length)) ds → (m.contains i = false → S w') ∧ wpPlan ε P R m S K pl.tail a' w') : wpPlan ε P R m S K pl a w := by
 unfold mkC at hn
 split at hn
 case isFalse => cases hn
 rename_i hn0
 simp only [Option.some.injEq] at hn
 subst hn
 unfold mkAt at ho
 cases h1 : opAt R N pl fl with
 | none => rw [h1] at ho; simp at ho
 | some q =>
  obtain ⟨i', op⟩ := q
  rw [h1] at ho
  simp only at ho
  split at ho
  ·rename_i t' l c hop
   simp only [Option.some.injEq, Prod.mk.injEq] at ho
   obtain ⟨rfl, rfl, rfl, hl, hc⟩ := ho
   obtain ⟨inf, hi, hsize, hby, hz⟩ := hE.info
   have hbytes : (inf.bytes : Int) * n ≤ 281474976710656 := by
    have h1 : (inf.bytes : Int) ≤ 128 := by omega
    have h2 : (inf.bytes : Int) * n ≤ 128 * n := Int.mul_le_mul_of_nonneg_right h1 hn0.1
    omega
   have hrun := run_make (P := P) w t' E inf z hE.und hi hz .i64 .i64 n n hn0.1 (Int.le_refl _) hbytes (by omega)
   have hcells : (madeCells z.cells (n.toNat * inf.size)) = ((List.range (n.toNat * T.size)).map fun i => z.cells.toList.getD (i % T.size) undef).toArray := by
    unfold madeCells
    rw [hsize]
    apply Array.ext
    ·simp
    ·intro i h1 h2
     have hzs := hE.zs
     have hpos := hE.pos
     have hlt : i % T.size < z.cells.size := by rw [hzs]; exact Nat.mod_lt _ hpos
     simp [hzs]
     rw [getElem!_pos z.cells _ hlt, Array.getElem?_eq_getElem hlt]
     rfl
   rw [hcells] at hrun
   have hrows := rows_made (h := h) h0 hE.pos n.toNat
   have hlen : (List.replicate n.toNat x0).length = n.toNat := List.length_replicate
   rw [hlen] at k
   have hS' := hS.new (pts w.heap.size (.cells ((List.range (n.toNat * T.size)).map fun i => z.cells.toList.getD (i % T.size) undef).toArray E (0, 0))) _ rfl
   have hown := hS'.ownBox (i := 0) (T := T) (E := E) (n := n.toNat) (cs := (List.range (n.toNat * T.size)).map fun i => z.cells.toList.getD (i % T.size) undef) rfl hrows (by simp) (by simp only [maxLen]; omega)
   refine p_val (w' := w.alloc (.cells ((List.range (n.toNat * T.size)).map fun i => z.cells.toList.getD (i % T.size) undef).toArray E)) (v := .slice (some ⟨w.heap.size, 0, none⟩) n.toNat n.toNat) hf h1 ?_ fun a' hf' => k _ _ a' hown hf'
   simp [execOp, hop, hl, hc, hrun]
  ·cases ho
theorem p_storeOwn {i j : Nat} {ad : Addr} {ix off : Nat} {vs : List Value} {x' : α} (hS : St h L w) (hf : Fr a N fl ds) (hj : L[j]? = some (ownS T E (some ad) cap xs))
  (hix : ix < xs.length) (ho : storeAt P R N pl fl = some (i, (ad.add (ix * T.size)).add off, vs))
  (hfit : (Nat.ble (off + vs.length) T.size && oneCells vs) = true) (hx : ∀ c, T.rep h c xs[ix] → T.rep h (splice c off vs) x')
  (k : ∀ w' a', St h (L.set j (ownS T E (some ad) cap (xs.set ix x'))) w' → Fr a' N fl ds → (m.contains i = false → S w') ∧ wpPlan ε P R m S K pl.tail a' w') : wpPlan ε P R m S K pl a w := by
 simp only [Bool.and_eq_true] at hfit
 have hoff := Nat.le_of_ble_eq_true hfit.1
 obtain ⟨x, hxp, hxw, dx, hset⟩ := hS.focus hj
 have hxp' : OwnP T E (some ad) cap xs h x := hxp
 rcases hxp' with ⟨e, _⟩ | ⟨g, cur, e, rfl, h1, h2, h3, h4⟩
 ·cases e
 ·cases e
  have hg : w.heap[g]? = some (.cells cur E (0, 0)) := Hp.one_le.1 hxw
  have haddr : (((⟨g, 0, none⟩ : Addr).add (ix * T.size)).add off) = ⟨g, ix * T.size + off, none⟩ := by
   rw [add_add]; unfold Addr.add; split <;> simp_all
  rw [haddr] at ho
  have hbound : ix * T.size + T.size ≤ xs.length * T.size := by
   have := Nat.mul_le_mul_right T.size (show ix + 1 ≤ xs.length by omega)
   rwa [Nat.add_mul, Nat.one_mul] at this
  have hbound2 : xs.length * T.size ≤ cap * T.size := Nat.mul_le_mul_right _ h1
  have hrun := run_storeCells_at (P := P) g (ix * T.size + off) E vs 0 cur w hg (by rw [h3]; omega) (oneCells_spec hfit.2)
  simp only [Nat.add_zero] at hrun
  obtain ⟨op, hop, hd, hex⟩ := storeAt_run ho hrun
  refine p_skip hf hop hex fun a' hf' => ?_
  rw [hd] at hf'
  have hrows := h4.set hix hx hoff
  refine k _ a' (hset _ _ (Hp.one g (.cells (splice cur.toList (ix * T.size + off) vs).toArray E (0, 0))) (.inr ⟨g, _, rfl, rfl, by simpa using h1, h2, ?_, ?_⟩) (Hp.one_le.2 ?_) ?_ ?_ rfl rfl rfl) hf'
  ·simp only [splice, List.size_toArray, List.length_append, List.length_take, List.length_drop, Array.length_toList]
   omega
  ·have hl2 : (xs.set ix x').length = xs.length := List.length_set
   rw [hl2]
   have e2 : (splice cur.toList (ix * T.size + off) vs).take (xs.length * T.size) = splice (cur.toList.take (xs.length * T.size)) (ix * T.size + off) vs := by
    unfold splice
    rw [List.append_assoc, List.append_assoc, List.take_append, List.take_append, List.take_take, List.take_take]
    simp only [List.length_take, Array.length_toList, h3]
    have hm1 : min (ix * T.size + off) (cap * T.size) = ix * T.size + off := by omega
    rw [hm1, show min (xs.length * T.size) (ix * T.size + off) = ix * T.size + off by omega, show min (ix * T.size + off) (xs.length * T.size) = ix * T.size + off by omega]
    rw [List.take_of_length_le (l := vs) (by omega), List.drop_take]
    congr 3
    omega
   show Rows T h ((splice cur.toList (ix * T.size + off) vs).take (xs.length * T.size)) _
   rw [e2]
   exact hrows
  ·exact setRow_heap w g _ _ E (0, 0) hg
  ·intro q hq hne
   refine setRow_other w g q _ fun e => ?_
   subst e
   simp [Hp.one] at hne
  ·intro q o' hq
   right
   unfold Hp.one at hq ⊢
   split at hq <;> simp_all
end Go.Sx
namespace Go.Sx
open Go.Sl
abbrev w64 (n : Int) : Int := IntKind.i64.wrap n
abbrev pB (b n : Nat) : Value := .pointer (some ⟨b, n, none⟩)
abbrev vI (n : Int) : Value := .int .i64 n
theorem bind_some {α β : Type} {x : Option α} {f : α → Option β} {r : β} (h : x.bind f = some r) : ∃ y, x = some y ∧ f y = some r := by
 cases x with
 | none => cases h
 | some y => exact ⟨y, rfl, h⟩
theorem cond_t {α : Type} {b : Bool} {x y : α} {r : α} (hb : b = true) (h : cond b x y = r) : x = r := by rw [hb] at h; exact h
theorem cond_f {α : Type} {b : Bool} {x y : α} {r : α} (hb : b = false) (h : cond b x y = r) : y = r := by rw [hb] at h; exact h
theorem some_eq {α : Type} {x y : α} (h : some x = some y) : x = y := Option.some.inj h
def nz (n : Int) : Option Unit := if n ≠ 0 then some () else none
theorem nz_spec {n : Int} {u : Unit} (h : nz n = some u) : n ≠ 0 := by
 unfold nz at h
 split at h
 ·assumption
 ·cases h
def setI {α : Type} (xs : List α) (i : Int) (x : α) : Option (List α) := if 0 ≤ i ∧ i < xs.length then some (xs.set i.toNat x) else none
theorem setI_spec {α : Type} {xs ys : List α} {i : Int} {x : α} (h : setI xs i x = some ys) : (0 ≤ i ∧ i < xs.length) ∧ ys = xs.set i.toNat x := by
 unfold setI at h
 split at h
 ·rename_i hc; simp only [Option.some.injEq] at h; exact ⟨hc, h.symm⟩
 ·cases h
variable {α : Type} {T : Ty α} {P : Program} {a : Act} {N : Nat} {fl : FL} {ds : List Deferred} {ε : Px} {w : World} {R : Array Oper} {m : List Nat} {S : World → Prop} {K : Act → World → Prop} {pl : List (Nat × Bool)} {h h' : Zone} {L : List Atom}
def Sub (h : Zone) (L : List Atom) (w : World) : Prop := ∃ h', h.le h' ∧ St h' L w
theorem Sub.of (k : h.le h') (s : St h' L w) : Sub h L w := ⟨h', k, s⟩
theorem Sub.cell (s : Sub h L w) {ad : Addr} {v : Value} (e : h.cell? ad = some v) : w.cell? ad = some v := let ⟨_, k, s⟩ := s; s.cell (k.cell e)
theorem Sub.box (s : Sub h L w) {i b : Nat} {cs : List Value} {T : TypeId} (hi : L[i]? = some (Sx.box b cs T)) {j : Nat} {v : Value} (hj : cs[j]? = some v) : w.cell? ⟨b, j, none⟩ = some v := let ⟨_, _, s⟩ := s; s.box hi hj
def anyA : Atom := ⟨fun _ _ => True, fun _ _ _ _ _ => trivial⟩
theorem _root_.Go.Sl.St.mask (s : St h L w) {i : Nat} {A : Atom} (hi : L[i]? = some A) : St h (L.set i anyA) w := s.conv hi fun _ _ => trivial
theorem arrGet {n : Nat} {cs : List Value} {xs : List α} (s : (Ty.arr n T).rep h cs xs) (h1 : T.size = 1) {i : Int} {x : α} (e : getI xs i = some x) :
  (0 ≤ i ∧ i < n) ∧ ∃ v, cs[i.toNat]? = some v ∧ T.rep h [v] x := by
 obtain ⟨hb, hx⟩ := getI_spec e
 obtain ⟨hl, hr⟩ := s
 obtain ⟨c, hc, hj⟩ := hr.get hx
 have hcl := T.len hc
 rw [h1] at hcl
 match c, hcl with
 | [v], _ =>
  have := hj 0 v rfl
  rw [h1, Nat.mul_one, Nat.add_zero] at this
  exact ⟨⟨hb.1, by omega⟩, v, this, hc⟩
theorem arrAddr (b off i : Nat) : (((⟨b, off, none⟩ : Addr)).add (i * 1)) = ⟨b, off + i, none⟩ := by
 unfold Addr.add
 split <;> simp_all
theorem getElem?_app_right (pre cs : List Value) (i : Nat) {v : Value} (e : cs[i]? = some v) : ∀ post : List Value, (pre ++ cs ++ post)[pre.length + i]? = some v := by
 intro post
 have hlt : i < cs.length := (List.getElem?_eq_some_iff.1 e).1
 rw [List.append_assoc, List.getElem?_append_right (by omega), List.getElem?_append_left (by omega)]
 simpa using e
theorem p_setOwnI {E : TypeId} {o : Option Addr} {cap : Nat} {xs ys : List Int} {i j : Nat} {ad : Addr} {ix : Int} {x' : Int}
  (hS : St h L w) (hf : Fr a N fl ds) (hj : L[j]? = some (ownS Ty.int E o cap xs)) (hoa : o = some ad)
  (ho : storeAt P R N pl fl = some (i, (ad.add (ix.toNat * 1)).add 0, [.int .i64 x'])) (hy : setI xs ix x' = some ys)
  (k : ∀ w' a', St h (L.set j (ownS Ty.int E o cap ys)) w' → Fr a' N fl ds → (m.contains i = false → S w') ∧ wpPlan ε P R m S K pl.tail a' w') : wpPlan ε P R m S K pl a w := by
 subst hoa
 obtain ⟨hb, rfl⟩ := setI_spec hy
 have hlt : ix.toNat < xs.length := by omega
 refine p_storeOwn (T := Ty.int) hS hf hj hlt ho rfl (fun c hc => ?_) k
 have hc' : c = [.int .i64 xs[ix.toNat]] := hc
 subst hc'
 rfl
theorem arrIdx {cs : List Value} {n : Nat} {v : Value} (e : cs[n]? = some v) : cs.toArray[n * 1]? = some v := by simpa using e
theorem sliceRep {o : Option Addr} {cap : Nat} {xs : List α} (s : SliceR T h o cap xs) : (Ty.slice T).rep h [.slice o xs.length cap] xs := ⟨o, cap, rfl, s⟩
theorem Fr.conv {fl' : FL} (hf : Fr a N fl ds) (e : fl = fl') : Fr a N fl' ds := e ▸ hf
theorem setI_len {xs ys : List α} {i : Int} {x : α} (e : setI xs i x = some ys) : xs.length = ys.length := by
 obtain ⟨_, rfl⟩ := setI_spec e
 simp
theorem ElemOK.of {P : Program} {t E : TypeId} {size : Nat} {z : Value} {i : TypeInfo} {nb : Nat} (hu : P.underlying t = some (.slice E)) (hi : P.info? E = some i) (hz : i.zero = some z) (hn : 0 < nb)
  (h : (Nat.beq i.size size && Nat.ble i.bytes nb && Nat.beq z.cells.size size && Nat.ble 1 size) = true) : ElemOK P t E size z nb := by
 simp only [Bool.and_eq_true, Nat.beq_eq, Nat.ble_eq] at h
 exact ⟨hu, ⟨i, hi, h.1.1.1, h.1.1.2, hz⟩, h.1.2, h.2, hn⟩
theorem p_inl {i : Nat} {d : Option Nat} {f : FuncId} {args : Array Value} {N' : Nat} {fn : Func} (hf : Fr a N fl ds) (ho : callAt P R N pl fl = some (i, d, f, args)) (hfn : P.funcs[f]? = some fn)
  (hN : (fn.body.isSome && (Nat.beq (args.size + (fn.ntmps - args.size)) N')) = true)
  (k : ∀ a', Fr a' N' (argFL args) → (bodyOf fn).cw none P (postM P fn fun e w' => ∃ v, e = .returned v ∧ ∀ a'', Fr a'' N (putF fl d v) ds → (m.contains i = false → S w') ∧ wpPlan ε P R m S K pl.tail a'' w') a' w) : wpPlan ε P R m S K pl a w :=
 p_call hf ho (Φ := fun v w' => ∀ a'', Fr a'' N (putF fl d v) ds → (m.contains i = false → S w') ∧ wpPlan ε P R m S K pl.tail a'' w') (calls_intro hfn hN k) (fun _ _ a' h hf' => h a' hf')
theorem _root_.Go.Sl.Sep.front {z : Hp} {i : Nat} {A : Atom} (hz : Sep h L z) (hi : L[i]? = some A) : ∃ x y, A.P h x ∧ Sep h (L.set i emp) y ∧ x.apart y ∧ z = x.add y := by
 obtain ⟨x, y, hx, d, e, k⟩ := hz.focus hi
 have := k h emp Hp.nil (Zone.le_refl h) rfl (Hp.apart_comm (Hp.apart_nil _))
 rw [Hp.nil_add] at this
 exact ⟨x, y, hx, this, d, e⟩
theorem sepPick : ∀ (is : List Nat) {L : List Atom} {z : Hp}, Sep h L z → is.Nodup → (∀ i ∈ is, i < L.length) → ∃ y, Sep h (is.map fun i => L.getD i emp) y ∧ y.le z
 | [], L, z, hz, _, _ => ⟨Hp.nil, rfl, Hp.nil_le _⟩
 | i :: is, L, z, hz, hn, hlt => by
  have hi := hlt i (List.mem_cons_self ..)
  obtain ⟨x, y, hx, hy, d, e⟩ := hz.front (i := i) (A := L.getD i emp) (by simp [List.getD, hi])
  obtain ⟨hni, hn'⟩ := List.nodup_cons.1 hn
  obtain ⟨y', hy', hle⟩ := sepPick is hy hn' (fun j hj => by simpa using hlt j (List.mem_cons_of_mem _ hj))
  have he : (is.map fun j => (L.set i emp).getD j emp) = is.map fun j => L.getD j emp := by
   apply List.map_congr_left
   intro j hj
   have hne : i ≠ j := fun e => hni (e ▸ hj)
   simp [List.getD, List.getElem?_set_ne hne]
  rw [he] at hy'
  exact ⟨x.add y', ⟨x, y', hx, hy', Hp.apart_of_le d hle, rfl⟩, e ▸ Hp.add_le (Hp.le_add_left _ _) (Hp.le_trans hle (Hp.le_add_right d))⟩
def nodupB : List Nat → Bool
 | [] => true
 | i :: is => !is.contains i && nodupB is
theorem nodupB_spec : ∀ {is : List Nat}, nodupB is = true → is.Nodup
 | [], _ => List.nodup_nil
 | i :: is, h => by
  simp only [nodupB, Bool.and_eq_true, Bool.not_eq_true'] at h
  exact List.nodup_cons.2 ⟨(fun hm => by have h2 := List.contains_iff_mem.2 hm; rw [h2] at h; exact absurd h.1 (by simp)), nodupB_spec h.2⟩
theorem _root_.Go.Sl.St.pick (n : Nat) (is : List Nat) (s : St h L w) (hc : (Nat.ble n L.length && (nodupB is && is.all fun i => Nat.blt i n)) = true) : St h ((is.map fun i => L.getD i emp) ++ L.drop n) w := by
 simp only [Bool.and_eq_true, List.all_eq_true] at hc
 obtain ⟨hn, hnd, hlt⟩ := hc
 have hn := Nat.le_of_ble_eq_true hn
 have hnd := nodupB_spec hnd
 obtain ⟨z, hz, hd, hb, hzw⟩ := s.sep
 have hL : L = L.take n ++ L.drop n := (List.take_append_drop n L).symm
 rw [hL] at hz
 obtain ⟨x, y, hx, hy, d, e⟩ := Sep.append.1 hz
 have hlt' : ∀ i ∈ is, i < n := fun i hi => by simpa [Nat.blt_eq] using hlt i hi
 obtain ⟨x', hx', hle⟩ := sepPick is hx hnd (fun i hi => by simp only [List.length_take]; have := hlt' i hi; omega)
 have he : (is.map fun i => (L.take n).getD i emp) = is.map fun i => L.getD i emp := by
  apply List.map_congr_left
  intro i hi
  simp [List.getD, hlt' i hi]
 rw [he] at hx'
 have d' : x'.apart y := Hp.apart_comm (Hp.apart_of_le (Hp.apart_comm d) hle)
 have hle' : (x'.add y).le z := e ▸ Hp.add_le (Hp.le_trans hle (Hp.le_add_left _ _)) (Hp.le_add_right d)
 exact ⟨⟨x'.add y, Sep.append.2 ⟨x', y, hx', hy, d', rfl⟩, Hp.apart_of_le hd hle', hb, Hp.le_trans hle' hzw⟩, s.os, s.tape, s.output⟩
end Go.Sx
namespace Go.Sx
open Go.Sl
variable {P : Program} {a a' a1 : Act} {N N0 : Nat} {fl fl0 : FL} {ds : List Deferred} {ε : Px} {w : World} {R : Array Oper} {m : List Nat} {S : World → Prop} {K : Act → World → Prop} {pl : List (Nat × Bool)} {h : Zone} {L : List Atom}
variable {ro : Option Nat} {c : Code} {Q : Exit → Act → World → Prop}
theorem _root_.Go.Sl.St.focus1 (s : St h L w) {i l : Nat} {A : Atom} (hi : L[i]? = some A) (hA : ∀ z, A.P h z → ∃ o, z = Hp.one l o) :
  ∃ o, A.P h (Hp.one l o) ∧ w.heap[l]? = some o ∧ ∀ (B : Atom) (o' : Obj), B.P h (Hp.one l o') → St h (L.set i B) (w.putObj l o') := by
 obtain ⟨x, hx, hxw, _, k⟩ := s.focus hi
 obtain ⟨o, rfl⟩ := hA x hx
 have hl : w.heap[l]? = some o := Hp.one_le.1 hxw
 have hlt : l < w.heap.size := (Array.getElem?_eq_some_iff.1 hl).1
 refine ⟨o, hx, hl, fun B o' hB => k _ B (Hp.one l o') hB (Hp.one_le.2 (World.putObj_heap_same hlt)) (fun b hb hn => World.putObj_heap_other ?_) (fun b u e => ?_) rfl rfl rfl⟩
 ·intro e; subst e; simp [Hp.one] at hn
 ·right
  unfold Hp.one at e ⊢
  split at e
  ·rename_i hb; simp [hb]
  ·cases e
def loopA (l N : Nat) (fl : FL) (ps : Array Tmp) (assign body : Code) (D : Nat) (st : LoopState) (pe : Option Code) : Atom :=
 ⟨fun _ z => ∃ (fn : FuncId) (tmps : Array Value), Fr { tmps := tmps, defers := [] } N fl ∧ z = Hp.one l (.loop { state := st, pending := pe, fn := fn, tmps := tmps, params := ps, assign := assign, body := body, defers := D }), fun _ _ _ _ h => h⟩
def defA (D : Nat) : Atom := ⟨fun _ z => z = Hp.one D (.deferred (some [])), fun _ _ _ _ h => h⟩
def rg : Code → Option Nat | .rangeFunc (.tmp g) _ _ _ => some g | _ => none
def rgP : Code → Array Tmp | .rangeFunc _ ps _ _ => ps | _ => #[]
def rgA : Code → Code | .rangeFunc _ _ x _ => x | _ => .skip
def rgB : Code → Code | .rangeFunc _ _ _ y => y | _ => .skip
def endR (P : Program) (l : Nat) (Q : Exit → Act → World → Prop) (a' : Act) (w : World) : Prop :=
 ∃ jump w4, (Instr.endLoop l).run P w = .ok jump w4 ∧ (match jump with | none => Q .normal a' w4 | some c => c.cw none P Q a' w4)
theorem w_range {g gf : Nat} {lb : Array Value} (hc : rg c = some g) (hf : Fr a N fl ds) (hS : St h L w) (hg : look fl g = some (.func (.func gf) #[] lb))
  (hcall : ∀ l, runO P (invoke (.fn (.func gf) lb) #[.func (.yield l) #[] #[]]) [] = some (.enter gf (#[.func (.yield l) #[] #[]] ++ lb), [], []))
  (k : ∀ ps A B, ps = rgP c → A = rgA c → B = rgB c → ∀ l D w', St h (loopA l N fl ps A B D .ready none :: defA D :: L) w' →
   Calls P gf (#[.func (.yield l) #[] #[]] ++ lb) w' fun e w'' => ∃ v, e = .returned v ∧ ∀ a', Fr a' N fl (mark D :: ds) → endR P l Q a' w'') : c.cw none P Q a w := by
 cases c with
 | rangeFunc x ps assign body =>
  cases x with
  | tmp t =>
   simp only [rg, Option.some.injEq] at hc
   subst hc
   have hS1 := hS.new (defA w.heap.size) (.deferred (some [])) rfl
   refine wpIn_rangeFunc fun fn _ => ?_
   have hS2 := hS1.new (loopA (w.heap.size + 1) N fl ps assign body w.heap.size .ready none)
    (.loop { state := .ready, pending := none, fn := fn, tmps := a.tmps, params := ps, assign := assign, body := body, defers := w.heap.size })
    ⟨fn, a.tmps, ⟨hf.size, rfl, hf.look⟩, by rw [World.size_alloc]⟩
   have hev : a.eval (.tmp t) = .func (.func gf) #[] lb := hf.getD hg
   have hent := run_enterLoop_outer (P := P) (w := w) fn a.tmps ps assign body
   generalize ((w.alloc (.deferred (some []))).alloc (.loop { state := .ready, pending := none, fn := fn, tmps := a.tmps, params := ps, assign := assign, body := body, defers := w.heap.size })) = W2 at hS2 hent
   refine ⟨w.heap.size + 1, [mark w.heap.size], W2, { target := .fn (.func gf) lb, args := #[.func (.yield (w.heap.size + 1)) #[] #[]] }, W2, gf,
    #[.func (.yield (w.heap.size + 1)) #[] #[]] ++ lb, W2, hent, ?_, fun _ _ => trivial, runO_sound _ (hcall _) (by simp), WF_depth, ?_⟩
   ·simp only [resolve, hev]
    simp [go_sem]
   ·refine callsIn_WF.2 (Calls.mono (k _ _ _ rfl rfl rfl _ _ _ hS2) ?_)
    rintro e w3 ⟨v, rfl, hk⟩
    exact hk _ ⟨hf.size, by rw [hf.defers]; rfl, hf.look⟩
  | _ => simp [rg] at hc
 | _ => simp [rg] at hc
theorem cw_eq {c' : Code} (e : c = c') (k : c'.cw ro P Q a w) : c.cw ro P Q a w := e ▸ k
theorem loopA_one {l : Nat} {ps : Array Tmp} {A B : Code} {D : Nat} {st : LoopState} {pe : Option Code} : ∀ z, (loopA l N fl ps A B D st pe).P h z → ∃ o, z = Hp.one l o := fun _ ⟨_, _, _, e⟩ => ⟨_, e⟩
theorem Hp.one_inj {l : Nat} {o o' : Obj} (e : Hp.one l o = Hp.one l o') : o = o' := by
 have := congrFun e l
 simpa [Hp.one] using this
theorem p_endLoop {j l : Nat} {ps : Array Tmp} {A B : Code} {D : Nat} {st : LoopState} {pe : Option Code} (hS : St h L w) (hj : L[j]? = some (loopA l N0 fl0 ps A B D st pe)) (hst : st ≠ .busy) :
  ∃ w4, (Instr.endLoop l).run P w = .ok pe w4 ∧ St h (L.set j emp) w4 := by
 obtain ⟨o, ⟨fn, tmps, hfr, he⟩, hl, hput⟩ := hS.focus1 hj loopA_one
 have := Hp.one_inj he
 subst this
 refine ⟨_, run_endLoop hl hst, ?_⟩
 have h1 := hput (loopA l N0 fl0 ps A B D .exhausted pe) _ ⟨fn, tmps, hfr, rfl⟩
 have h2 := h1.dropAt (i := j) (A := loopA l N0 fl0 ps A B D .exhausted pe) (by
  have hlt := (List.getElem?_eq_some_iff.1 hj).1
  simp [hlt])
 simpa using h2
theorem p_jump0 {j l : Nat} {ps : Array Tmp} {A B : Code} {D : Nat} {st : LoopState} (hS : St h L w) (hj : L[j]? = some (loopA l N0 fl0 ps A B D st none)) (hst : st ≠ .busy)
  (k : ∀ w', St h (L.set j emp) w' → Q .normal a' w') : endR P l Q a' w :=
 let ⟨w4, h1, h2⟩ := p_endLoop (P := P) hS hj hst; ⟨none, w4, h1, k w4 h2⟩
theorem p_jumpR {j l : Nat} {ps : Array Tmp} {A B : Code} {D : Nat} {st : LoopState} (hS : St h L w) (hj : L[j]? = some (loopA l N0 fl0 ps A B D st (some .ret))) (hst : st ≠ .busy)
  (k : ∀ w', St h (L.set j emp) w' → Q .ret a' w') : endR P l Q a' w :=
 let ⟨w4, h1, h2⟩ := p_endLoop (P := P) hS hj hst; ⟨some .ret, w4, h1, wpIn_ret (k w4 h2)⟩
theorem p_jumpX {j l id : Nat} {ps : Array Tmp} {A B : Code} {D : Nat} {st : LoopState} (hS : St h L w) (hj : L[j]? = some (loopA l N0 fl0 ps A B D st (some (.exit id)))) (hst : st ≠ .busy)
  (k : ∀ w', St h (L.set j emp) w' → Q (.exit id) a' w') : endR P l Q a' w :=
 let ⟨w4, h1, h2⟩ := p_endLoop (P := P) hS hj hst; ⟨some (.exit id), w4, h1, wpIn_exit (k w4 h2)⟩
theorem p_mark {fn : Func} {R' : Ending → World → Prop} {tmps : Array Value} {j D : Nat} (hS : St h L w) (hj : L[j]? = some (defA D)) (k : ∀ w', St h (L.set j emp) w' → outM P fn R' tmps ds w') : outM P fn R' tmps (mark D :: ds) w := by
 obtain ⟨o, ho, hl, hput⟩ := hS.focus1 hj (l := D) (fun z hz => ⟨_, hz⟩)
 have he : o = .deferred (some []) := Hp.one_inj ho
 subst he
 refine ⟨by simp, .inl ⟨D, _, rfl, run_takeDeferred hl, k _ ?_⟩⟩
 have h1 := hput ⟨fun _ z => z = Hp.one D (.deferred none), fun _ _ _ _ h => h⟩ (.deferred none) rfl
 have h2 := h1.dropAt (i := j) (A := ⟨fun _ z => z = Hp.one D (.deferred none), fun _ _ _ _ h => h⟩) (by
  have hlt := (List.getElem?_eq_some_iff.1 hj).1
  simp [hlt])
 simpa using h2
theorem wpOpsIn_app {Q : Exit → Act → World → Prop} (hd : noDefer R = true) (hP : ∀ c a w, ε c a w → Q (.panic c) a w) (rest : List Nat) : ∀ (l : List Nat) (a : Act) (w : World), wpPlan ε P R m S K (l.map fun i => (i, false)) a w → (∀ a w, K a w → wpOpsIn (WF ro) 0 P R Q rest a w) → wpOpsIn (WF ro) 0 P R Q (l ++ rest) a w
 | [], a, w, k, hQ => hQ a w k
 | i :: l, a, w, k, hQ => by
  rw [List.cons_append, wpOpsIn_cons]
  have k' : wpOp P R (pex ε) i (fun a' w' => (m.contains i = false → S w') ∧ wpPlan ε P R m S K (l.map fun i => (i, false)) a' w') a w := k
  exact wpOpIn_mono (fun a' w' h3 => wpOpsIn_app hd hP rest l a' w' h3.2 hQ) (wpOpIn_of (Q0 := pex ε) hd (fun c w q => hP c _ w q) (fun _ _ q => q) k')
def planTo (i : Nat) : List (Nat × Bool) := (List.range i).map fun i => (i, false)
def planFrom (c : Code) (i : Nat) : List (Nat × Bool) := (List.range' (i + 1) ((cops c).size - (i + 1))).map fun i => (i, false)
theorem w_regY (i : Nat) (hc : (isReg false c && (noDefer (cops c) && Nat.blt i (cops c).size)) = true)
  (k : wpPlan noP P (cops c) [] (fun _ => True) (fun a w => wpOpIn (WF ro) 0 P (cops c) Q i (fun a w => wpPlan noP P (cops c) [] (fun _ => True) (fun a w => Q .normal a w) (planFrom c i) a w) a w) (planTo i) a w) : c.cw ro P Q a w := by
 simp only [Bool.and_eq_true] at hc
 obtain ⟨hc, hd, hi⟩ := hc
 cases c <;> simp [isReg] at hc
 rename_i id ops b
 subst hc
 have hlt : i < ops.size := by simpa [cops] using hi
 refine wpIn_region ?_
 have hr : List.range ops.size = List.range i ++ (i :: List.range' (i + 1) (ops.size - (i + 1))) := by
  have h1 : i :: List.range' (i + 1) (ops.size - (i + 1)) = List.range' i (ops.size - i) := by
   rw [show ops.size - i = (ops.size - (i + 1)) + 1 by omega, List.range'_succ]
  have h2 := List.range'_append_1 (s := 0) (m := i) (n := ops.size - i)
  rw [h1, List.range_eq_range', List.range_eq_range']
  rw [Nat.zero_add] at h2
  rw [h2]
  congr 1
  omega
 rw [hr]
 refine wpOpsIn_app (ε := noP) hd (fun _ _ _ h => h.elim) _ _ _ _ k fun a w h1 => ?_
 rw [wpOpsIn_cons]
 exact wpOpIn_mono (fun a' w' h3 => wpOpsIn_of_plan (ε := noP) hd (fun _ _ _ h => h.elim) _ _ _ h3 fun _ _ h => h) h1
def yFL (ps : Array Tmp) (args : Array Value) (fl : FL) : FL := (ps.zip args).foldl (fun t p => (p.1, p.2) :: t) fl
theorem yFL_fr {l : List (Nat × Value)} : ∀ {tmps : Array Value} {fl : FL}, Fr { tmps := tmps, defers := [] } N fl → (l.all fun p => Nat.blt p.1 N) = true →
  Fr { tmps := l.foldl (fun t (p : Nat × Value) => t.setIfInBounds p.1 p.2) tmps, defers := [] } N (l.foldl (fun t p => (p.1, p.2) :: t) fl) := by
 induction l with
 | nil => exact fun h _ => h
 | cons p l ih =>
  intro tmps fl hf hb
  simp only [List.all_cons, Bool.and_eq_true] at hb
  have h1 := hf.put (d := some p.1) hb.1 p.2
  exact ih (tmps := tmps.setIfInBounds p.1 p.2) (fl := (p.1, p.2) :: fl) ⟨h1.size, rfl, h1.look⟩ hb.2
def yieldAt (R : Array Oper) (N i : Nat) (fl : FL) : Option (Option Nat × Nat × Array Value) :=
 match R[i]? with
 | some o => match wantedF R fl o with
  | some true => bif (known fl o && (match o.dst with | some d => Nat.blt d N | none => true)) then
    match o.op with
    | .call c => match c.callee with
     | .value f => match ev fl f with
      | .func (.yield l) ⟨[]⟩ _ => some (o.dst, l, c.args.map (ev fl))
      | _ => none
     | _ => none
    | _ => none
   else none
  | _ => none
 | none => none
def beginG (P : Program) (l : Nat) (B : Code) (Qr : Exit → Act → World → Prop) (a1 : Act) (w1 : World) : Prop := ∃ w2, (Instr.beginRound l).run P w1 = .ok () w2 ∧ B.cw (some l) P Qr a1 w2
def yR (K : Act → World → Prop) (N : Nat) (fl : FL) (ds : List Deferred) (d : Option Nat) (e : Ending) (w : World) : Prop := ∃ b, e = .returned (.bool b) ∧ ∀ a', Fr a' N (putF fl d (.bool b)) ds → K a' w
theorem p_yield {i j l D : Nat} {d : Option Nat} {args : Array Value} {ps : Array Tmp} {A B : Code} (hf : Fr a N fl ds) (ho : yieldAt R N i fl = some (d, l, args)) (hS : St h L w) (hj : L[j]? = some (loopA l N0 fl0 ps A B D .ready none))
  (hps : (Nat.beq args.size ps.size && (ps.zip args).toList.all fun p => Nat.blt p.1 N0) = true)
  (k : ∀ a1, Fr a1 N0 (yFL ps args fl0) → A.cw (some l) P (Exit.then (beginG P l B (roundPost P l (yR K N fl ds d))) (fun _ _ _ => False)) a1 w) : wpOpIn (WF ro) 0 P R Q i K a w := by
 simp only [Bool.and_eq_true] at hps
 obtain ⟨hsz, hlt⟩ := hps
 have hsz := Nat.eq_of_beq_eq_true hsz
 obtain ⟨o, ⟨fn, tmps, hfr, he⟩, hl, hput⟩ := hS.focus1 hj loopA_one
 have := Hp.one_inj he
 subst this
 unfold yieldAt at ho
 unfold wpOpIn
 cases hR : R[i]? with
 | none => rw [hR] at ho; simp at ho
 | some op =>
  rw [hR] at ho
  simp only at ho ⊢
  split at ho
  ·rename_i hw
   rw [wantedF_sound hf hw]
   cases hk : (known fl op && (match op.dst with | some d => Nat.blt d N | none => true)) with
   | false => rw [hk] at ho; simp at ho
   | true =>
    rw [hk] at ho
    simp only [cond_true] at ho
    simp only [Bool.and_eq_true] at hk
    split at ho
    ·rename_i c hop
     split at ho
     ·rename_i f hcal
      split at ho
      ·rename_i l' cap hev
       simp only [Option.some.injEq, Prod.mk.injEq] at ho
       obtain ⟨rfl, rfl, rfl⟩ := ho
       have hrun : (execOp a.eval op).run P w = .ok (.round l' fn ((ps.zip (c.args.map (ev fl))).foldl (fun tmps (t, a) => tmps.setIfInBounds t a) tmps) A B) w := by
        rw [hf.exec hk.1]
        simp only [execOp, hop, resolve, hcal, hev, Deferred.ofValue, Sem.run_bind, Sem.run_pure, Result.andThen_ok, invoke]
        have e0 : (⟨[]⟩ : Array Value) ++ c.args.map (ev fl) = c.args.map (ev fl) := by simp
        rw [e0]
        exact run_yield hl hsz
       refine ⟨fun _ _ => trivial, ?_⟩
       rw [Oper.semAt_eq _ _ _ (by rw [hop]; simp), hrun]
       refine ⟨WF_depth, roundIn_of_wpIn trivial ?_⟩
       have hfr2 := yFL_fr (l := (ps.zip (c.args.map (ev fl))).toList) hfr hlt
       have hfr3 : Fr { tmps := (ps.zip (c.args.map (ev fl))).foldl (fun t (p : Nat × Value) => t.setIfInBounds p.1 p.2) tmps, defers := [] } N0 (yFL ps (c.args.map (ev fl)) fl0) := by
        unfold yFL
        rw [← Array.foldl_toList, ← Array.foldl_toList]
        exact hfr2
       refine wpIn_mono (k _ hfr3) ?_
       intro e a2 w2 q
       cases e <;> first | exact q.elim | skip
       obtain ⟨w3, hb, hbody⟩ := q
       refine ⟨w3, hb, wpIn_mono hbody ?_⟩
       intro e a3 w4 q
       cases e <;> first
        | exact q.elim
        | (obtain ⟨v, w5, hend, b, hv, hk2⟩ := q
           cases hv
           exact ⟨_, w5, hend, hk2 _ (hf.put hk.2 _)⟩)
      ·cases ho
     ·cases ho
    ·cases ho
  ·cases ho
theorem p_begin {j l D : Nat} {ps : Array Tmp} {A B : Code} {Qr : Exit → Act → World → Prop} (hS : St h L w) (hj : L[j]? = some (loopA l N0 fl0 ps A B D .ready none))
  (k : ∀ w2, St h (L.set j (loopA l N0 fl0 ps A B D .busy none)) w2 → B.cw (some l) P Qr a1 w2) : beginG P l B Qr a1 w := by
 obtain ⟨o, ⟨fn, tmps, hfr, he⟩, hl, hput⟩ := hS.focus1 hj loopA_one
 have := Hp.one_inj he
 subst this
 exact ⟨_, run_beginRound hl rfl, k _ (hput _ _ ⟨fn, tmps, hfr, rfl⟩)⟩
theorem p_endRound {j l D : Nat} {ps : Array Tmp} {A B : Code} {R' : Ending → World → Prop} (hS : St h L w) (hj : L[j]? = some (loopA l N0 fl0 ps A B D .busy none)) (jump : Option Code)
  (k : ∀ w', St h (L.set j (loopA l N0 fl0 ps A B D (if jump.isNone then .ready else .done) jump)) w' → R' (.returned (.bool jump.isNone)) w') :
  ∃ v w', (Instr.endRound l jump).run P w = .ok v w' ∧ R' (.returned v) w' := by
 obtain ⟨o, ⟨fn, tmps, hfr, he⟩, hl, hput⟩ := hS.focus1 hj loopA_one
 have := Hp.one_inj he
 subst this
 exact ⟨_, _, run_endRound jump hl, k _ (hput _ _ ⟨fn, tmps, hfr, rfl⟩)⟩
theorem p_roundN {j l D : Nat} {ps : Array Tmp} {A B : Code} {d : Option Nat} (hS : St h L w) (hj : L[j]? = some (loopA l N0 fl0 ps A B D .busy none))
  (k : ∀ w' a', St h (L.set j (loopA l N0 fl0 ps A B D .ready none)) w' → Fr a' N (putF fl d (.bool true)) ds → K a' w') : roundPost P l (yR K N fl ds d) .normal a1 w :=
 p_endRound hS hj none fun w' hS' => ⟨true, rfl, fun a' hf => k w' a' hS' hf⟩
theorem p_roundR {j l D : Nat} {ps : Array Tmp} {A B : Code} {d : Option Nat} (hS : St h L w) (hj : L[j]? = some (loopA l N0 fl0 ps A B D .busy none))
  (k : ∀ w' a', St h (L.set j (loopA l N0 fl0 ps A B D .done (some .ret))) w' → Fr a' N (putF fl d (.bool false)) ds → K a' w') : roundPost P l (yR K N fl ds d) .ret a1 w :=
 p_endRound hS hj (some .ret) fun w' hS' => ⟨false, rfl, fun a' hf => k w' a' hS' hf⟩
theorem p_roundX {j l D id : Nat} {ps : Array Tmp} {A B : Code} {d : Option Nat} (hS : St h L w) (hj : L[j]? = some (loopA l N0 fl0 ps A B D .busy none))
  (k : ∀ w' a', St h (L.set j (loopA l N0 fl0 ps A B D .done (some (.exit id)))) w' → Fr a' N (putF fl d (.bool false)) ds → K a' w') : roundPost P l (yR K N fl ds d) (.exit id) a1 w :=
 p_endRound hS hj (some (.exit id)) fun w' hS' => ⟨false, rfl, fun a' hf => k w' a' hS' hf⟩
section drawY
variable {md : Region.Mode} {y : Nat}
def normY (md : Region.Mode) (ops : Array Oper) (y : Nat) (pl2 : List (Nat × Bool)) : List (Nat × Bool) → Array Bool → Bool
 | [], listed => (match Region.ready md ops listed with | [j] => Nat.beq y j | _ => false) && normB md ops [] pl2 (listed.setIfInBounds y true)
 | (i, true) :: rest, listed => (Region.ready md ops listed).contains i && Region.free md ops listed i && (aheadL md ops y).contains i && !Nat.beq i y && normY md ops y pl2 rest (listed.setIfInBounds i true)
 | (_, false) :: _, _ => false
def drawY (c : Code) (y : Nat) (pl pl2 : List (Nat × Bool)) : Bool :=
 (isReg true c && noDefer (cops c)) && (Region.noSelect (cops c) && (Nat.beq (pl.length + 1 + pl2.length) (cops c).size && normY .any (cops c) y pl2 pl (Array.replicate (cops c).size false)))
end drawY
end Go.Sx
namespace Go.Sx
open Go.Sl
variable {P : Program} {a : Act} {N : Nat} {fl : FL} {ds : List Deferred} {ε : Px} {w : World} {R : Array Oper} {m : List Nat} {S : World → Prop} {K : Act → World → Prop} {pl : List (Nat × Bool)} {ro : Option Nat} {c : Code} {Q : Exit → Act → World → Prop}
def pureO : List Obl → Bool
 | [] => true
 | .prop _ :: l => pureO l
 | .cell _ _ :: _ => false
theorem pureO_any {w w' : World} : ∀ {l : List Obl}, pureO l = true → HA w l → HA w' l
 | [], _, _ => .nil
 | .prop _ :: _, h, k => by cases k with | prop e k => exact .prop e (pureO_any h k)
 | .cell _ _ :: _, h, _ => by cases h
def evX (P : Program) (R : Array Oper) (N : Nat) (m : List Nat) : List (Nat × Bool) → FL → List Value → Option (FL × List Obl × List Obl × List Value)
 | [], fl, os => some (fl, [], [], os)
 | (k, b) :: pl, fl, os => match R[k]? with
  | none => none
  | some o => bif (match o.dst with | some d => Nat.blt d N | none => true) then
   match wantedF R fl o with
   | none => none
   | some false => evX P R N m pl (putF fl o.dst undef) os
   | some true => bif known fl o then
     match opQ P (ev fl) o os with
     | none => none
     | some (v, obs, os') => match evX P R N m pl (putF fl o.dst v) os' with
      | none => none
      | some (fl', oF, oC, os'') => bif b then (bif (pureO obs || lateB .any R m k) then some (fl', obs ++ oF, oC, os'') else none) else some (fl', oF, obs ++ oC, os'')
    else none
   else none
theorem wpPlan_mix (hSw : S w) : ∀ (pl : List (Nat × Bool)) {a : Act} {fl : FL} {os : List Value} {fl' : FL} {oF oC : List Obl} {os' : List Value} {rest : List (Nat × Bool)},
  Fr a N fl ds → evX P R N m pl fl os = some (fl', oF, oC, os') → (∀ w', S w' → HA w' oF) → HA w oC →
  (∀ a', Fr a' N fl' ds → wpPlan ε P R m S K rest a' w) → wpPlan ε P R m S K (pl ++ rest) a w
 | [], a, fl, os, fl', oF, oC, os', rest, hf, he, _, _, k => by
  simp only [evX, Option.some.injEq, Prod.mk.injEq] at he
  obtain ⟨rfl, _, _, _⟩ := he
  exact k a hf
 | (i, b) :: pl, a, fl, os, fl', oF, oC, os', rest, hf, he, hF, hC, k => by
  simp only [evX] at he
  cases hR : R[i]? with
  | none => rw [hR] at he; simp at he
  | some o =>
   rw [hR] at he
   simp only at he
   cases hd : (match o.dst with | some d => Nat.blt d N | none => true) with
   | false => rw [hd] at he; simp at he
   | true =>
    rw [hd] at he
    simp only [cond_true] at he
    cases hw : wantedF R fl o with
    | none => rw [hw] at he; simp at he
    | some c =>
     rw [hw] at he
     have hwa := wantedF_sound hf hw
     cases c with
     | false =>
      simp only at he
      have ih := wpPlan_mix hSw pl (rest := rest) (hf.put hd undef) he hF hC k
      cases b with
      | true => exact ⟨o, undef, hR, .inr (.inr ⟨hwa, rfl⟩), ih⟩
      | false =>
       show wpOp P R _ i (fun a' w' => (m.contains i = false → S w') ∧ wpPlan ε P R m S K (pl ++ rest) a' w') a w
       unfold wpOp
       simp only [hR, hwa]
       exact ⟨fun _ => hSw, ih⟩
     | true =>
      simp only at he
      cases hk : known fl o with
      | false => rw [hk] at he; simp at he
      | true =>
       rw [hk] at he
       simp only [cond_true] at he
       cases hq : opQ P (ev fl) o os with
       | none => rw [hq] at he; simp at he
       | some t =>
        obtain ⟨v, obs1, os1⟩ := t
        rw [hq] at he
        simp only at he
        cases hr : evX P R N m pl (putF fl o.dst v) os1 with
        | none => rw [hr] at he; simp at he
        | some t' =>
         obtain ⟨fl2, oF2, oC2, os2⟩ := t'
         rw [hr] at he
         simp only at he
         cases b with
         | true =>
          simp only [cond_true] at he
          cases hp : (pureO obs1 || lateB .any R m i) with
          | false => rw [hp] at he; simp at he
          | true =>
           rw [hp] at he
           simp only [cond_true, Option.some.injEq, Prod.mk.injEq] at he
           obtain ⟨rfl, rfl, rfl, rfl⟩ := he
           have ih := wpPlan_mix hSw pl (rest := rest) (hf.put hd v) hr (fun w' h => (hF w' h).right) hC k
           refine ⟨o, v, hR, ?_, ih⟩
           rcases Bool.or_eq_true_iff.1 hp with hp | hp
           ·exact .inr (.inl ⟨hwa, fun w' _ => by rw [hf.exec hk]; exact opQ_sound hq (pureO_any hp (hF w hSw).left)⟩)
           ·exact .inl ⟨.inl ⟨hwa, fun w' hw' => by rw [hf.exec hk]; exact opQ_sound hq (hF w' hw').left⟩, hSw, hp⟩
         | false =>
          simp only [cond_false, Option.some.injEq, Prod.mk.injEq] at he
          obtain ⟨rfl, rfl, rfl, rfl⟩ := he
          have ih := wpPlan_mix hSw pl (rest := rest) (hf.put hd v) hr hF hC.right k
          show wpOp P R _ i (fun a' w' => (m.contains i = false → S w') ∧ wpPlan ε P R m S K (pl ++ rest) a' w') a w
          unfold wpOp
          simp only [hR, hwa, if_true]
          refine .inl ?_
          unfold Oper.wp
          rw [hf.exec hk, opQ_sound hq hC.left]
          exact ⟨fun _ => hSw, ih⟩
def keys (fl : FL) : List Nat := fl.map (·.1)
def evXK (P : Program) (R : Array Oper) (N : Nat) (m : List Nat) (pl : List (Nat × Bool)) (fl : FL) (os : List Value) (keep : List Nat) : Option (FL × List Obl × List Obl) :=
 match evX P R N m pl fl os with
 | some (fl', oF, oC, []) => match keepF fl' keep with
  | some r => some (r, oF, oC)
  | none => none
 | _ => none
theorem evXK_spec {os : List Value} {keep : List Nat} {fl' : FL} {oF oC : List Obl} (h : evXK P R N m pl fl os keep = some (fl', oF, oC)) : ∃ fl1, evX P R N m pl fl os = some (fl1, oF, oC, []) ∧ keepF fl1 keep = some fl' := by
 unfold evXK at h
 split at h
 ·rename_i fl1 oF1 oC1 he
  split at h
  ·rename_i r hk
   simp only [Option.some.injEq, Prod.mk.injEq] at h
   obtain ⟨rfl, rfl, rfl⟩ := h
   exact ⟨fl1, he, hk⟩
  ·cases h
 ·cases h
theorem p_qS (n : Nat) (os : List Value) (fl' : FL) (oF oC : List Obl) (hSw : S w) (hf : Fr a N fl ds) (he : evXK P R N m (pl.take n) fl os (keys fl') = some (fl', oF, oC)) (hF : ∀ w', S w' → HA w' oF) (hC : HA w oC)
  (k : ∀ a', Fr a' N fl' ds → wpPlan ε P R m S K (pl.drop n) a' w) : wpPlan ε P R m S K pl a w := by
 obtain ⟨fl1, h1, h2⟩ := evXK_spec he
 have := wpPlan_mix (ε := ε) (K := K) (rest := pl.drop n) hSw (pl.take n) hf h1 hF hC fun a' hf' => k a' (hf'.keep h2)
 rwa [List.take_append_drop] at this
theorem p_qE (n : Nat) (os : List Value) (fl' : FL) (oF oC : List Obl) (hf : Fr a N fl ds) (he : evXK P R N m (pl.take n) fl os (keys fl') = some (fl', oF, oC)) (hF : HA w oF) (hC : HA w oC)
  (k : ∀ a', Fr a' N fl' ds → wpPlan ε P R m (fun x => x = w) K (pl.drop n) a' w) : wpPlan ε P R m (fun x => x = w) K pl a w :=
 p_qS n os fl' oF oC rfl hf he (fun w' e => by subst e; exact hF) hC k
theorem p_qn (n : Nat) (os : List Value) (fl' : FL) (oC : List Obl) (hf : Fr a N fl ds) (he : evXK P R N m (pl.take n) fl os (keys fl') = some (fl', [], oC)) (hC : HA w oC)
  (k : ∀ a', Fr a' N fl' ds → wpPlan ε P R m (fun _ => True) K (pl.drop n) a' w) : wpPlan ε P R m (fun _ => True) K pl a w :=
 p_qS n os fl' [] oC trivial hf he (fun _ _ => .nil) hC k
theorem p_qz (os : List Value) (fl' : FL) (oC : List Obl) (hf : Fr a N fl ds) (he : evXK P R N m pl fl os (keys fl') = some (fl', [], oC)) (hC : HA w oC)
  (k : ∀ a', Fr a' N fl' ds → K a' w) : wpPlan ε P R m (fun _ => True) K pl a w := by
 obtain ⟨fl1, h1, h2⟩ := evXK_spec he
 have := wpPlan_mix (ε := ε) (S := fun _ => True) (K := K) (rest := []) trivial pl hf h1 (fun _ _ => .nil) hC fun a' hf' => k a' (hf'.keep h2)
 rwa [List.append_nil] at this
theorem p_qzE (os : List Value) (fl' : FL) (oF oC : List Obl) (hf : Fr a N fl ds) (he : evXK P R N m pl fl os (keys fl') = some (fl', oF, oC)) (hF : HA w oF) (hC : HA w oC)
  (k : ∀ a', Fr a' N fl' ds → K a' w) : wpPlan ε P R m (fun x => x = w) K pl a w := by
 obtain ⟨fl1, h1, h2⟩ := evXK_spec he
 have := wpPlan_mix (ε := ε) (S := fun x => x = w) (K := K) (rest := []) rfl pl hf h1 (fun w' e => by subst e; exact hF) hC fun a' hf' => k a' (hf'.keep h2)
 rwa [List.append_nil] at this
def evL (P : Program) (R : Array Oper) (N : Nat) (m : List Nat) (pl : List (Nat × Bool)) (fl : FL) (os : List Value) (keep : List Nat) : Option (FL × List Obl) :=
 bif pl.all (fun p => m.contains p.1 && !p.2) then evK P R N (pl.map (·.1)) fl os keep else none
theorem p_qL (n : Nat) (os : List Value) (fl' : FL) (oC : List Obl) (hf : Fr a N fl ds) (he : evL P R N m (pl.take n) fl os (keys fl') = some (fl', oC)) (hC : HA w oC)
  (k : ∀ a', Fr a' N fl' ds → wpPlan ε P R m S K (pl.drop n) a' w) : wpPlan ε P R m S K pl a w := by
 unfold evL at he
 cases ha : (pl.take n).all (fun p => m.contains p.1 && !p.2) with
 | false => rw [ha] at he; cases he
 | true =>
  rw [ha] at he
  have h1 : ∀ p ∈ pl.take n, m.contains p.1 = true ∧ p.2 = false := fun p hp => by
   have := List.all_eq_true.1 ha p hp
   simpa using this
  refine p_runL n os (keys fl') (List.all_eq_true.2 fun p hp => (h1 p hp).1) hf (List.all_eq_true.2 fun p hp => ?_) he hC k
  rw [(h1 p hp).2]; rfl
def evR (P : Program) (c : Code) (N : Nat) (fl : FL) (os : List Value) (keep : List Nat) : Option (FL × List Obl × List Obl) :=
 bif isReg false c && noDefer (cops c) then evXK P (cops c) N [] (planSeq c) fl os keep else none
theorem w_q (os : List Value) (fl' : FL) (oC : List Obl) (hf : Fr a N fl ds) (he : evR P c N fl os (keys fl') = some (fl', [], oC)) (hC : HA w oC)
  (k : ∀ a', Fr a' N fl' ds → Q .normal a' w) : c.cw ro P Q a w := by
 unfold evR at he
 cases hc : (isReg false c && noDefer (cops c)) with
 | false => rw [hc] at he; cases he
 | true => rw [hc] at he; exact w_reg hc (p_qz os fl' oC hf he hC k)
def evSR (P : Program) (c : Code) (N : Nat) (fl : FL) (os : List Value) (keep : List Nat) : Option (FL × List Obl × List Obl) :=
 bif isSeq c then evR P (cl c) N fl os keep else none
theorem w_sq (os : List Value) (fl' : FL) (oC : List Obl) (hf : Fr a N fl ds) (he : evSR P c N fl os (keys fl') = some (fl', [], oC)) (hC : HA w oC)
  (k : ∀ a', Fr a' N fl' ds → (cr c).cw ro P Q a' w) : c.cw ro P Q a w := by
 unfold evSR at he
 cases hc : isSeq c with
 | false => rw [hc] at he; cases he
 | true => rw [hc] at he; exact w_seq hc (w_q os fl' oC hf he hC fun a' hf' => n_then (k a' hf'))
def evRD (P : Program) (c : Code) (pl : List (Nat × Bool)) (m : List Nat) (N : Nat) (fl : FL) (os : List Value) (keep : List Nat) : Option (FL × List Obl × List Obl) :=
 bif P.follows .mixedOrders && drawOK c pl m then evXK P (cops c) N m pl fl os keep else none
theorem w_qD (pl : List (Nat × Bool)) (m : List Nat) (os : List Value) (fl' : FL) (oF oC : List Obl) (hf : Fr a N fl ds) (he : evRD P c pl m N fl os (keys fl') = some (fl', oF, oC)) (hF : HA w.drew oF) (hC : HA w.drew oC)
  (k : ∀ a', Fr a' N fl' ds → Q .normal a' w.drew) : c.cw ro P Q a w := by
 unfold evRD at he
 cases hc : (P.follows .mixedOrders && drawOK c pl m) with
 | false => rw [hc] at he; cases he
 | true =>
  rw [hc] at he
  simp only [Bool.and_eq_true] at hc
  exact w_regD hc.1 pl m (fun x => x = w.drew) hc.2 rfl (p_qzE os fl' oF oC hf he hF hC k)
def evSRD (P : Program) (c : Code) (pl : List (Nat × Bool)) (m : List Nat) (N : Nat) (fl : FL) (os : List Value) (keep : List Nat) : Option (FL × List Obl × List Obl) :=
 bif isSeq c then evRD P (cl c) pl m N fl os keep else none
theorem w_sqD (pl : List (Nat × Bool)) (m : List Nat) (os : List Value) (fl' : FL) (oF oC : List Obl) (hf : Fr a N fl ds) (he : evSRD P c pl m N fl os (keys fl') = some (fl', oF, oC)) (hF : HA w.drew oF) (hC : HA w.drew oC)
  (k : ∀ a', Fr a' N fl' ds → (cr c).cw ro P Q a' w.drew) : c.cw ro P Q a w := by
 unfold evSRD at he
 cases hc : isSeq c with
 | false => rw [hc] at he; cases he
 | true => rw [hc] at he; exact w_seq hc (w_qD pl m os fl' oF oC hf he hF hC fun a' hf' => n_then (k a' hf'))
theorem w_sr (hc : (isSeq c && (isReg false (cl c) && noDefer (cops (cl c)))) = true) (k : wpPlan noP P (cops (cl c)) [] (fun _ => True) (fun a w => Exit.then (fun a w => (cr c).cw ro P Q a w) Q .normal a w) (planSeq (cl c)) a w) : c.cw ro P Q a w := by
 simp only [Bool.and_eq_true] at hc
 exact w_seq hc.1 (w_reg (by simp only [Bool.and_eq_true]; exact hc.2) k)
variable {K' : Act → World → Prop}
theorem p_qt (os : List Value) (fl' : FL) (oC : List Obl) (hf : Fr a N fl ds) (he : evXK P R N m pl fl os (keys fl') = some (fl', [], oC)) (hC : HA w oC)
  (k : ∀ a', Fr a' N fl' ds → K' a' w) : wpPlan ε P R m (fun _ => True) (fun a w => Exit.then K' Q .normal a w) pl a w := p_qz os fl' oC hf he hC fun a' hf' => n_then (k a' hf')
theorem p_qtE (os : List Value) (fl' : FL) (oF oC : List Obl) (hf : Fr a N fl ds) (he : evXK P R N m pl fl os (keys fl') = some (fl', oF, oC)) (hF : HA w oF) (hC : HA w oC)
  (k : ∀ a', Fr a' N fl' ds → K' a' w) : wpPlan ε P R m (fun x => x = w) (fun a w => Exit.then K' Q .normal a w) pl a w := p_qzE os fl' oF oC hf he hF hC fun a' hf' => n_then (k a' hf')
theorem p_dt (hp : pl.isEmpty = true) (k : K' a w) : wpPlan ε P R m S (fun a w => Exit.then K' Q .normal a w) pl a w := p_done hp (n_then k)
def evP (P : Program) (R : Array Oper) (N : Nat) (pl : List (Nat × Bool)) (fl : FL) (os : List Value) (keep : List Nat) : Option (FL × List Obl) :=
 bif pl.all (fun p => p.2) then evK P R N (pl.map (·.1)) fl os keep else none
theorem p_qP (n : Nat) (os : List Value) (fl' : FL) (oF : List Obl) (hf : Fr a N fl ds) (he : evP P R N (pl.take n) fl os (keys fl') = some (fl', oF)) (hF : ∀ w', HA w' oF)
  (k : ∀ a', Fr a' N fl' ds → wpPlan ε P R m S K (pl.drop n) a' w) : wpPlan ε P R m S K pl a w := by
 unfold evP at he
 cases ha : (pl.take n).all (fun p => p.2) with
 | false => rw [ha] at he; cases he
 | true =>
  rw [ha] at he
  refine p_firstP n os (keys fl') hf (List.all_eq_true.2 fun p hp => ?_) he hF k
  rw [List.all_eq_true.1 ha p hp]; rfl
end Go.Sx
namespace Go.K
open Go.Sl Go.Sx
inductive CV where
 | int (k : IntKind) (n : Int) | str (s : ByteArray) | fn (f : FuncId)
 deriving DecidableEq
abbrev CMap := List (CV × CV)
def CV.v : CV → Value
 | .int k n => .int k n | .str s => .string s | .fn f => .func (.func f) #[] #[]
def centL : CMap → Nat → List MapEntry
 | [], _ => []
 | (k, v) :: r, i => { key := k.v, val := v.v, born := i } :: centL r (i + 1)
def cobj (es : CMap) : Obj := .map (centL es 0).toArray es.length
def tyMap (es : CMap) : Ty Unit := ⟨1, fun h cs _ => ∃ r, cs = [.map (some r)] ∧ h.blk r = some (cobj es), fun ⟨_, e, _⟩ => by subst e; rfl, (fun ⟨_, e, _⟩ v hv => by subst e; simp only [List.mem_singleton] at hv; subst hv; rfl), fun k ⟨r, e, hb⟩ => ⟨r, e, k.blk _ _ hb⟩⟩
def tyNsl {α : Type} (T : Ty α) : Ty (List α) := ⟨1, fun h cs xs => ∃ o cap, cs = [.slice o xs.length cap] ∧ SliceR T h o cap xs ∧ (xs = [] → o = none), fun ⟨_, _, e, _⟩ => by subst e; rfl, (fun ⟨_, _, e, _⟩ v hv => by subst e; simp only [List.mem_singleton] at hv; subst hv; rfl), fun k ⟨o, cap, e, hs, hn⟩ => ⟨o, cap, e, hs.mono k, hn⟩⟩
inductive TC where
 | int (k : IntKind) | bool | str | unit | pair (a b : TC) | sl (t : TC) | mpc (es : CMap) | nsl (t : TC)
 deriving DecidableEq
abbrev TC.den : TC → Type
 | .int _ => Int | .bool => Bool | .str => ByteArray | .unit => Unit | .pair a b => a.den × b.den | .sl t => List t.den | .mpc _ => Unit | .nsl t => List t.den
abbrev TC.i : TC := .int .i64
def tyInt (k : IntKind) : Ty Int := ⟨1, fun _ cs n => cs = [.int k n], fun e => by subst e; rfl, fun e v hv => by subst e; simp at hv; subst hv; rfl, fun _ e => e⟩
def tyUnit : Ty Unit := ⟨0, fun _ cs _ => cs = [], fun e => by subst e; rfl, (fun e v hv => by subst e; cases hv), fun _ e => e⟩
def TC.ty : (t : TC) → Ty t.den
 | .int k => tyInt k | .bool => Ty.bool | .str => Ty.str | .unit => tyUnit | .pair a b => Ty.pair a.ty b.ty | .sl t => Ty.slice t.ty | .mpc es => tyMap es | .nsl t => tyNsl t.ty
def TC.size : TC → Nat
 | .int _ => 1 | .bool => 1 | .str => 1 | .unit => 0 | .pair a b => a.size + b.size | .sl _ => 1 | .mpc _ => 1 | .nsl _ => 1
theorem TC.size_eq : ∀ t : TC, t.ty.size = t.size
 | .int _ => rfl | .bool => rfl | .str => rfl | .unit => rfl | .sl _ => rfl | .mpc _ => rfl | .nsl _ => rfl
 | .pair a b => by simp only [TC.ty, TC.size, Ty.pair]; rw [TC.size_eq a, TC.size_eq b]
abbrev lenD {α : Type} (xs : List α) : Nat := xs.length
inductive SV : Type where
 | int (k : IntKind) (n : Int) | bool (b : Bool) | str (s : ByteArray)
 | raw (v : Value)
 | ptr (id off : Nat)
 | own (id : Nat)
 | sl (t : TC) (xs : List t.den)
 | el (t : TC) (x : t.den) (off : Nat)
 | oel (id : Nat) (t : TC) (i : Int) (off : Nat)
 | agg (cs : List SV)
 | tup (vs : List SV)
 | fn (f : FuncId) (fst caps : List SV)
 | ifc (T : TypeId) (v : SV)
 | nilp (id off : Nat)
 | yld (id : Nat) (fr : List SV)
 | mp (id : Nat)
 | mpc (es : CMap)
 | nsl (t : TC) (xs : List t.den)
 | any
instance : Inhabited SV := ⟨.bool false⟩
structure BI where
 b : Nat
 o : Option Addr
 n : Nat
 c : Nat
structure KE where
 z : Zone
 bs : List BI
def at' {α : Type} (l : List α) (id : Nat) : Option α := l.reverse[id]?
theorem at_cons {α : Type} {l : List α} {x y : α} {id : Nat} (h : at' l id = some x) : at' (y :: l) id = some x := by
 unfold at' at *
 rw [List.reverse_cons, List.getElem?_append_left (List.getElem?_eq_some_iff.1 h).1]
 exact h
theorem at_new {α : Type} {l : List α} {y : α} : at' (y :: l) l.length = some y := by
 unfold at'
 rw [List.reverse_cons, List.getElem?_append_right (by simp)]
 simp
theorem at_app {α : Type} {l : List α} {x : α} {id : Nat} (h : at' l id = some x) : ∀ m : List α, at' (m ++ l) id = some x
 | [] => h
 | y :: m => at_cons (at_app h m)
theorem at_lt {α : Type} {l : List α} {x : α} {id : Nat} (h : at' l id = some x) : id < l.length := by
 unfold at' at h
 simpa using (List.getElem?_eq_some_iff.1 h).1
theorem at_some {α : Type} {l : List α} {id : Nat} (h : id < l.length) : ∃ x, at' l id = some x := by
 unfold at'
 exact ⟨_, List.getElem?_eq_getElem (by simpa using h)⟩
structure KE.le (e e' : KE) : Prop where
 z : e.z.le e'.z
 bs : ∃ l, e'.bs = l ++ e.bs
theorem KE.le.rfl {e : KE} : e.le e := ⟨Zone.le_refl _, [], by simp⟩
theorem KE.le.trans {a b c : KE} (h : a.le b) (k : b.le c) : a.le c := ⟨Zone.le_trans h.z k.z, by
 obtain ⟨l, e1⟩ := h.bs
 obtain ⟨m, e2⟩ := k.bs
 exact ⟨m ++ l, by rw [e2, e1, List.append_assoc]⟩⟩
theorem KE.le.at {e e' : KE} (h : e.le e') {id : Nat} {i : BI} (hi : at' e.bs id = some i) : at' e'.bs id = some i := by
 obtain ⟨l, e1⟩ := h.bs
 rw [e1]; exact at_app hi l
def TC.exp : (t : TC) → t.den → List SV
 | .int k, n => [.int k n] | .bool, b => [.bool b] | .str, s => [.str s] | .unit, _ => []
 | .pair a b, x => TC.exp a x.1 ++ TC.exp b x.2 | .sl t, xs => [.sl t xs] | .mpc es, _ => [.mpc es] | .nsl t, xs => [.nsl t xs]
mutual
inductive Is (e : KE) : SV → Value → Prop
 | int (k : IntKind) (n : Int) : Is e (.int k n) (.int k n)
 | bool (b : Bool) : Is e (.bool b) (.bool b)
 | str (s : ByteArray) : Is e (.str s) (.string s)
 | raw (v : Value) : Is e (.raw v) v
 | ptr {id off : Nat} {i : BI} : at' e.bs id = some i → Is e (.ptr id off) (.pointer (some ⟨i.b, off, none⟩))
 | own {id : Nat} {i : BI} : at' e.bs id = some i → Is e (.own id) (.slice i.o i.n i.c)
 | sl {t : TC} {xs : List t.den} {o : Option Addr} {c : Nat} : SliceR t.ty e.z o c xs → Is e (.sl t xs) (.slice o xs.length c)
 | el {t : TC} {x : t.den} {off : Nat} {a : Addr} {cs : List Value} : t.ty.rep e.z cs x → (∀ j v, cs[j]? = some v → e.z.cell? (a.add j) = some v) → Is e (.el t x off) (.pointer (some (a.add off)))
 | oel {id : Nat} {t : TC} {i : Int} {off : Nat} {b : BI} {a : Addr} : at' e.bs id = some b → b.o = some a → Is e (.oel id t i off) (.pointer (some ((a.add (i.toNat * t.size)).add off)))
 | agg {l : List SV} {vs : List Value} : IsL e l vs → Is e (.agg l) (.agg vs.toArray)
 | tup {l : List SV} {vs : List Value} : IsL e l vs → Is e (.tup l) (.tuple vs.toArray)
 | fn {f : FuncId} {l m : List SV} {vs us : List Value} : IsL e l vs → IsL e m us → Is e (.fn f l m) (.func (.func f) vs.toArray us.toArray)
 | ifc {T : TypeId} {s : SV} {v : Value} : Is e s v → Is e (.ifc T s) (.iface T v)
 | nil0 {id off : Nat} {i : BI} : at' e.bs id = some i → Is e (.nilp id off) (.pointer none)
 | nil1 {id off : Nat} {i : BI} : at' e.bs id = some i → Is e (.nilp id off) (.pointer (some ⟨i.b, off, none⟩))
 | yld {id : Nat} {i : BI} {l : List SV} {vs : List Value} : at' e.bs id = some i → IsL e l vs → Is e (.yld id l) (.func (.yield i.b) #[] #[])
 | mp {id : Nat} {i : BI} : at' e.bs id = some i → Is e (.mp id) (.map (some i.b))
 | mpc {es : CMap} {r : Nat} : e.z.blk r = some (cobj es) → Is e (.mpc es) (.map (some r))
 | nsl {t : TC} {xs : List t.den} {o : Option Addr} {c : Nat} : SliceR t.ty e.z o c xs → (xs = [] → o = none) → Is e (.nsl t xs) (.slice o xs.length c)
 | any (v : Value) : Is e .any v
inductive IsL (e : KE) : List SV → List Value → Prop
 | nil : IsL e [] []
 | cons {s : SV} {v : Value} {l : List SV} {m : List Value} : Is e s v → IsL e l m → IsL e (s :: l) (v :: m)
end
mutual
theorem Is.mono {e e' : KE} (h : e.le e') : ∀ {s : SV} {v : Value}, Is e s v → Is e' s v
 | _, _, .int k n => .int k n
 | _, _, .bool b => .bool b
 | _, _, .str s => .str s
 | _, _, .raw v => .raw v
 | _, _, .ptr i => .ptr (h.at i)
 | _, _, .own i => .own (h.at i)
 | _, _, .sl s => .sl (s.mono h.z)
 | _, _, .el r c => .el (Ty.mono _ h.z r) (fun j v hj => h.z.cell (c j v hj))
 | _, _, .oel i o => .oel (h.at i) o
 | _, _, .agg l => .agg (l.mono h)
 | _, _, .tup l => .tup (l.mono h)
 | _, _, .fn l m => .fn (l.mono h) (m.mono h)
 | _, _, .ifc s => .ifc (s.mono h)
 | _, _, .nil0 i => .nil0 (h.at i)
 | _, _, .nil1 i => .nil1 (h.at i)
 | _, _, .yld i l => .yld (h.at i) (l.mono h)
 | _, _, .mp i => .mp (h.at i)
 | _, _, .mpc hb => .mpc (h.z.blk _ _ hb)
 | _, _, .nsl s hn => .nsl (s.mono h.z) hn
 | _, _, .any v => .any v
theorem IsL.mono {e e' : KE} (h : e.le e') : ∀ {s : List SV} {v : List Value}, IsL e s v → IsL e' s v
 | _, _, .nil => .nil
 | _, _, .cons s l => .cons (s.mono h) (l.mono h)
end
theorem IsL.len {e : KE} : ∀ {l : List SV} {m : List Value}, IsL e l m → l.length = m.length
 | _, _, .nil => rfl
 | _, _, .cons _ h => by simp [h.len]
theorem IsL.get {e : KE} : ∀ {l : List SV} {m : List Value} {i : Nat} {s : SV}, IsL e l m → l[i]? = some s → ∃ v, m[i]? = some v ∧ Is e s v
 | _, _, 0, s, .cons h _, hi => by simp at hi; subst hi; exact ⟨_, by simp, h⟩
 | _, _, i + 1, s, .cons _ h, hi => by
  simp only [List.getElem?_cons_succ] at hi
  obtain ⟨v, h1, h2⟩ := h.get hi
  exact ⟨v, by simpa using h1, h2⟩
theorem IsL.app {e : KE} : ∀ {l l' : List SV} {m m' : List Value}, IsL e l m → IsL e l' m' → IsL e (l ++ l') (m ++ m')
 | _, _, _, _, .nil, k => k
 | _, _, _, _, .cons h t, k => .cons h (t.app k)
theorem IsL.take {e : KE} : ∀ {l : List SV} {m : List Value} (n : Nat), IsL e l m → IsL e (l.take n) (m.take n)
 | _, _, 0, _ => .nil
 | _, _, n + 1, .nil => by simpa using IsL.nil
 | _, _, n + 1, .cons h t => .cons h (t.take n)
theorem IsL.drop {e : KE} : ∀ {l : List SV} {m : List Value} (n : Nat), IsL e l m → IsL e (l.drop n) (m.drop n)
 | _, _, 0, k => by simpa using k
 | _, _, n + 1, .nil => by simpa using IsL.nil
 | _, _, n + 1, .cons h t => by simpa using t.drop n
theorem IsL.set {e : KE} {s : SV} {v : Value} (h : Is e s v) : ∀ {l : List SV} {m : List Value} (i : Nat), IsL e l m → IsL e (l.set i s) (m.set i v)
 | _, _, _, .nil => by simpa using IsL.nil
 | _, _, 0, .cons _ t => .cons h t
 | _, _, i + 1, .cons h' t => .cons h' (IsL.set h i t)
theorem at_fun {e e' : KE} (h : e.le e') {id : Nat} {i j : BI} (h1 : at' e.bs id = some i) (h2 : at' e'.bs id = some j) : i = j := by
 rw [h.at h1] at h2; exact Option.some.inj h2
mutual
theorem Is.back {e e' : KE} (h : e.le e') : ∀ {s : SV} {u v : Value}, Is e s u → Is e' s v → Is ⟨e'.z, e.bs⟩ s v
 | _, _, _, .int k n, .int _ _ => .int k n
 | _, _, _, .bool b, .bool _ => .bool b
 | _, _, _, .str s, .str _ => .str s
 | _, _, _, .raw _, .raw v => .raw v
 | _, _, _, .ptr i, .ptr j => by have := at_fun h i j; subst this; exact .ptr i
 | _, _, _, .own i, .own j => by have := at_fun h i j; subst this; exact .own i
 | _, _, _, .sl _, .sl s => .sl s
 | _, _, _, .el _ _, .el r c => .el r c
 | _, _, _, .oel i _, .oel j o => by have := at_fun h i j; subst this; exact .oel i o
 | _, _, _, .agg l, .agg m => .agg (l.back h m)
 | _, _, _, .tup l, .tup m => .tup (l.back h m)
 | _, _, _, .fn l m, .fn l' m' => .fn (l.back h l') (m.back h m')
 | _, _, _, .ifc s, .ifc t => .ifc (s.back h t)
 | _, _, _, .nil0 i, .nil0 _ => .nil0 i
 | _, _, _, .nil1 i, .nil0 _ => .nil0 i
 | _, _, _, .nil0 i, .nil1 j => by have := at_fun h i j; subst this; exact .nil1 i
 | _, _, _, .nil1 i, .nil1 j => by have := at_fun h i j; subst this; exact .nil1 i
 | _, _, _, .yld i l, .yld j m => by have := at_fun h i j; subst this; exact .yld i (l.back h m)
 | _, _, _, .mp i, .mp j => by have := at_fun h i j; subst this; exact .mp i
 | _, _, _, .mpc _, .mpc hb => .mpc hb
 | _, _, _, .nsl _ _, .nsl s hn => .nsl s hn
 | _, _, _, .any _, .any v => .any v
theorem IsL.back {e e' : KE} (h : e.le e') : ∀ {s : List SV} {u v : List Value}, IsL e s u → IsL e' s v → IsL ⟨e'.z, e.bs⟩ s v
 | _, _, _, .nil, .nil => .nil
 | _, _, _, .cons s l, .cons t m => .cons (s.back h t) (l.back h m)
end
theorem exp_is {e : KE} : ∀ (t : TC) {x : t.den} {cs : List Value}, t.ty.rep e.z cs x → IsL e (t.exp x) cs
 | .int k, x, cs, h => by have h' : cs = [.int k x] := h; subst h'; exact .cons (.int k x) .nil
 | .bool, x, cs, h => by have h' : cs = [.bool x] := h; subst h'; exact .cons (.bool x) .nil
 | .str, x, cs, h => by have h' : cs = [.string x] := h; subst h'; exact .cons (.str x) .nil
 | .unit, x, cs, h => by have h' : cs = [] := h; subst h'; exact .nil
 | .pair a b, x, cs, h => by
  obtain ⟨c, d, rfl, hc, hd⟩ := h
  exact (exp_is a hc).app (exp_is b hd)
 | .sl t, xs, cs, h => by
  obtain ⟨o, cap, rfl, hs⟩ := h
  exact .cons (.sl hs) .nil
 | .mpc es, x, cs, h => by
  obtain ⟨r, rfl, hb⟩ := h
  exact .cons (.mpc hb) .nil
 | .nsl t, x, cs, h => by
  obtain ⟨o, c, rfl, hs, hn⟩ := h
  exact .cons (.nsl hs hn) .nil
def isNil : Value → Bool
 | .slice none 0 0 => true
 | _ => false
theorem isNil_eq {v : Value} (h : isNil v = true) : v = .slice none 0 0 := by
 unfold isNil at h
 split at h
 ·rfl
 ·cases h
def TC.ofL : (t : TC) → List SV → Option (t.den × List SV)
 | .int k, .int k' n :: r => if k = k' then some (n, r) else none
 | .bool, .bool b :: r => some (b, r)
 | .str, .str s :: r => some (s, r)
 | .unit, r => some ((), r)
 | .pair a b, r => match TC.ofL a r with
  | some (x, r1) => match TC.ofL b r1 with
   | some (y, r2) => some ((x, y), r2)
   | none => none
  | none => none
 | .sl t, .sl t' xs :: r => if h : t' = t then some (h ▸ xs, r) else none
 | .sl t, .nsl t' xs :: r => if h : t' = t then some (h ▸ xs, r) else none
 | .sl t, .raw v :: r => bif isNil v then some ([], r) else none
 | .mpc es, .mpc es' :: r => if es' = es then some ((), r) else none
 | .nsl t, .nsl t' xs :: r => if h : t' = t then some (h ▸ xs, r) else none
 | .nsl t, .raw v :: r => bif isNil v then some ([], r) else none
 | _, _ => none
theorem ofL_is {e : KE} : ∀ (t : TC) {l r : List SV} {x : t.den} {vs : List Value}, t.ofL l = some (x, r) → IsL e l vs → ∃ v1 v2, vs = v1 ++ v2 ∧ t.ty.rep e.z v1 x ∧ IsL e r v2 := by
 intro t
 induction t with
 | int k =>
  intro l r x vs h hl
  cases hl with
  | nil => simp [TC.ofL] at h
  | cons h1 h2 =>
   rename_i s v l m
   cases h1 <;> simp [TC.ofL] at h
   obtain ⟨rfl, rfl, rfl⟩ := h
   exact ⟨[_], _, rfl, rfl, h2⟩
 | bool =>
  intro l r x vs h hl
  cases hl with
  | nil => simp [TC.ofL] at h
  | cons h1 h2 =>
   cases h1 <;> simp [TC.ofL] at h
   obtain ⟨rfl, rfl⟩ := h
   exact ⟨[_], _, rfl, rfl, h2⟩
 | str =>
  intro l r x vs h hl
  cases hl with
  | nil => simp [TC.ofL] at h
  | cons h1 h2 =>
   cases h1 <;> simp [TC.ofL] at h
   obtain ⟨rfl, rfl⟩ := h
   exact ⟨[_], _, rfl, rfl, h2⟩
 | unit =>
  intro l r x vs h hl
  simp only [TC.ofL, Option.some.injEq, Prod.mk.injEq] at h
  obtain ⟨_, rfl⟩ := h
  exact ⟨[], vs, rfl, rfl, hl⟩
 | pair a b iha ihb =>
  intro l r x vs h hl
  simp only [TC.ofL] at h
  split at h
  ·rename_i x1 r1 e1
   split at h
   ·rename_i y1 r2 e2
    simp only [Option.some.injEq, Prod.mk.injEq] at h
    obtain ⟨rfl, rfl⟩ := h
    obtain ⟨v1, v2, rfl, k1, k2⟩ := iha e1 hl
    obtain ⟨v3, v4, rfl, k3, k4⟩ := ihb e2 k2
    exact ⟨v1 ++ v3, v4, by rw [List.append_assoc], ⟨v1, v3, rfl, k1, k3⟩, k4⟩
   ·cases h
  ·cases h
 | sl t _ =>
  intro l r x vs h hl
  cases hl with
  | nil => simp [TC.ofL] at h
  | cons h1 h2 =>
   rename_i s v l m
   cases h1 with
   | sl hs =>
    rename_i t' xs o c
    simp only [TC.ofL] at h
    split at h
    ·rename_i ht
     subst ht
     simp only [Option.some.injEq, Prod.mk.injEq] at h
     obtain ⟨rfl, rfl⟩ := h
     exact ⟨[_], _, rfl, ⟨_, _, rfl, hs⟩, h2⟩
    ·cases h
   | nsl hs hn =>
    rename_i t' xs o c
    simp only [TC.ofL] at h
    split at h
    ·rename_i ht
     subst ht
     simp only [Option.some.injEq, Prod.mk.injEq] at h
     obtain ⟨rfl, rfl⟩ := h
     exact ⟨[_], _, rfl, ⟨_, _, rfl, hs⟩, h2⟩
    ·cases h
   | raw w =>
    simp only [TC.ofL] at h
    cases hn : isNil v with
    | false => rw [hn] at h; simp at h
    | true =>
     rw [hn] at h
     simp only [cond_true, Option.some.injEq, Prod.mk.injEq] at h
     obtain ⟨rfl, rfl⟩ := h
     rw [isNil_eq hn]
     exact ⟨[_], m, rfl, ⟨none, 0, rfl, SliceR.nil' _ _⟩, h2⟩
   | _ => simp [TC.ofL] at h
 | nsl t _ =>
  intro l r x vs h hl
  cases hl with
  | nil => simp [TC.ofL] at h
  | cons h1 h2 =>
   rename_i s v l m
   cases h1 with
   | nsl hs hn =>
    rename_i t' xs o c
    simp only [TC.ofL] at h
    split at h
    ·rename_i ht
     subst ht
     simp only [Option.some.injEq, Prod.mk.injEq] at h
     obtain ⟨rfl, rfl⟩ := h
     exact ⟨[_], _, rfl, ⟨_, _, rfl, hs, hn⟩, h2⟩
    ·cases h
   | raw w =>
    simp only [TC.ofL] at h
    cases hn : isNil v with
    | false => rw [hn] at h; simp at h
    | true =>
     rw [hn] at h
     simp only [cond_true, Option.some.injEq, Prod.mk.injEq] at h
     obtain ⟨rfl, rfl⟩ := h
     rw [isNil_eq hn]
     exact ⟨[_], m, rfl, ⟨none, 0, rfl, SliceR.nil' _ _, fun _ => rfl⟩, h2⟩
   | _ => simp [TC.ofL] at h
 | mpc es =>
  intro l r x vs h hl
  cases hl with
  | nil => simp [TC.ofL] at h
  | cons h1 h2 =>
   cases h1 with
   | mpc hb =>
    rename_i es' _
    simp only [TC.ofL] at h
    split at h
    ·rename_i he
     subst he
     simp only [Option.some.injEq, Prod.mk.injEq] at h
     obtain ⟨_, rfl⟩ := h
     exact ⟨[_], _, rfl, ⟨_, rfl, hb⟩, h2⟩
    ·cases h
   | _ => simp [TC.ofL] at h
end Go.K
namespace Go.Sx
open Go.Sl
variable {α : Type} {T : Ty α} {h h' : Zone} {L : List Atom} {w : World} {E : TypeId}
theorem _root_.Go.Sl.St.split (s : St h L w) {i : Nat} {A B C : Atom} (hi : L[i]? = some A) (k : ∀ z, A.P h z → ∃ x y, B.P h x ∧ C.P h y ∧ x.apart y ∧ z = x.add y) : St h (B :: L.set i C) w := by
 obtain ⟨z, hz, hd, hb, hzw⟩ := s.sep
 obtain ⟨u, v, hu, duv, e, hset⟩ := hz.focus hi
 obtain ⟨x, y, hx, hy, dxy, e'⟩ := k u hu
 subst e' e
 obtain ⟨d1, d2⟩ := Hp.add_apart.1 duv
 refine ⟨⟨x.add (y.add v), ⟨x, y.add v, hx, hset h C y (Zone.le_refl h) hy d2, Hp.apart_add.2 ⟨dxy, d1⟩, rfl⟩, ?_, hb, ?_⟩, s.os, s.tape, s.output⟩
 ·rw [← Hp.add_assoc]; exact hd
 ·rw [← Hp.add_assoc]; exact hzw
theorem _root_.Go.Sl.St.join (s : St h L w) {i j : Nat} {A B C : Atom} (hi : L[i]? = some A) (hj : L[j]? = some B) (hij : j ≠ i) (k : ∀ x y, A.P h x → B.P h y → x.apart y → C.P h (x.add y)) : St h ((L.set i C).set j emp) w := by
 obtain ⟨z, hz, hd, hb, hzw⟩ := s.sep
 obtain ⟨y, v, hy, dyv, e, hset⟩ := hz.focus hj
 have h1 := hset h emp Hp.nil (Zone.le_refl h) rfl (Hp.apart_comm (Hp.apart_nil _))
 rw [Hp.nil_add] at h1
 have hi' : (L.set j emp)[i]? = some A := by rw [List.getElem?_set_ne hij]; exact hi
 obtain ⟨x, u, hx, dxu, e', hset'⟩ := h1.focus hi'
 subst e' e
 obtain ⟨d1, d2⟩ := Hp.apart_add.1 dyv
 have h2 := hset' h C (x.add y) (Zone.le_refl h) (k x y hx hy (Hp.apart_comm d1)) (Hp.add_apart.2 ⟨dxu, d2⟩)
 rw [List.set_comm _ _ hij] at h2
 have ez : y.add (x.add u) = (x.add y).add u := by rw [← Hp.add_assoc, Hp.add_comm d1]
 rw [ez] at hd hzw
 exact ⟨⟨_, h2, hd, hb, hzw⟩, s.os, s.tape, s.output⟩
def ownL (T : Ty α) (E : TypeId) (os : List (Option Addr × Nat)) (D : List (List α)) : List Atom := List.zipWith (fun p d => ownS T E p.1 p.2 d) os D
def cellL (os : List (Option Addr × Nat)) (D : List (List α)) : List Value := List.zipWith (fun p d => Value.slice p.1 d.length p.2) os D
def ownA (T : Ty α) (E : TypeId) (vs : List Value) (D : List (List α)) : Atom :=
 ⟨fun h z => ∃ os : List (Option Addr × Nat), os.length = D.length ∧ vs = cellL os D ∧ Sep h (ownL T E os D) z, fun _ _ _ k e => e.elim fun os e => ⟨os, e.1, e.2.1, e.2.2.mono k⟩⟩
def ownH (T : Ty α) (E : TypeId) (vs : List Value) (D : List (List α)) (n : Nat) : Atom :=
 ⟨fun h z => ∃ os : List (Option Addr × Nat), os.length = D.length ∧ vs = cellL os D ∧ Sep h ((ownL T E os D).set n emp) z, fun _ _ _ k e => e.elim fun os e => ⟨os, e.1, e.2.1, e.2.2.mono k⟩⟩
theorem ownL_get {os : List (Option Addr × Nat)} {D : List (List α)} {n : Nat} {p : Option Addr × Nat} {d : List α} (hp : os[n]? = some p) (hd : D[n]? = some d) : (ownL T E os D)[n]? = some (ownS T E p.1 p.2 d) := by
 unfold ownL; rw [List.getElem?_zipWith, hp, hd]
theorem cellL_get {os : List (Option Addr × Nat)} {D : List (List α)} {n : Nat} {p : Option Addr × Nat} {d : List α} (hp : os[n]? = some p) (hd : D[n]? = some d) : (cellL os D)[n]? = some (.slice p.1 d.length p.2) := by
 unfold cellL; rw [List.getElem?_zipWith, hp, hd]
theorem ownL_set : ∀ {os : List (Option Addr × Nat)} {D : List (List α)} {n : Nat} {p : Option Addr × Nat} {d : List α}, ownL T E (os.set n p) (D.set n d) = (ownL T E os D).set n (ownS T E p.1 p.2 d)
 | [], D, n, p, d => by simp [ownL]
 | _ :: _, [], n, p, d => by simp [ownL]
 | a :: os, b :: D, 0, p, d => by simp [ownL]
 | a :: os, b :: D, n + 1, p, d => by
  have := ownL_set (os := os) (D := D) (n := n) (p := p) (d := d)
  simpa [ownL] using this
theorem cellL_set : ∀ {os : List (Option Addr × Nat)} {D : List (List α)} {n : Nat} {p : Option Addr × Nat} {d : List α}, cellL (os.set n p) (D.set n d) = (cellL os D).set n (.slice p.1 d.length p.2)
 | [], D, n, p, d => by simp [cellL]
 | _ :: _, [], n, p, d => by simp [cellL]
 | a :: os, b :: D, 0, p, d => by simp [cellL]
 | a :: os, b :: D, n + 1, p, d => by
  have := cellL_set (os := os) (D := D) (n := n) (p := p) (d := d)
  simpa [cellL] using this
theorem ownA_len {vs : List Value} {D : List (List α)} {z : Hp} (k : (ownA T E vs D).P h z) : vs.length = D.length := by
 obtain ⟨os, e1, e2, _⟩ := k
 subst e2
 simp [cellL, e1]
theorem Sep.nils : ∀ n, Sep h (List.replicate n (ownS T E none 0 [])) Hp.nil
 | 0 => rfl
 | n + 1 => ⟨Hp.nil, Hp.nil, .inl ⟨rfl, rfl, rfl, rfl⟩, Sep.nils n, Hp.apart_nil _, rfl⟩
theorem _root_.Go.Sl.St.ownNew (s : St h L w) (T : Ty α) (E : TypeId) (n : Nat) : St h (ownA T E (List.replicate n (.slice none 0 0)) (List.replicate n []) :: L) w := by
 obtain ⟨z, hz, hd, hb, hzw⟩ := s.sep
 refine ⟨⟨z, ⟨Hp.nil, z, ⟨List.replicate n (none, 0), by simp, by simp [cellL], ?_⟩, hz, Hp.apart_comm (Hp.apart_nil _), rfl⟩, hd, hb, hzw⟩, s.os, s.tape, s.output⟩
 have e : ownL T E (List.replicate n (none, 0)) (List.replicate n []) = List.replicate n (ownS T E none 0 []) := by simp [ownL]
 rw [e]
 exact Sep.nils n
theorem _root_.Go.Sl.St.ownOpen (s : St h L w) {j : Nat} {vs : List Value} {D : List (List α)} (hj : L[j]? = some (ownA T E vs D)) {i : Int} {d : List α} (e : getI D i = some d) :
  ∃ o cap, vs[i.toNat]? = some (.slice o d.length cap) ∧ (0 ≤ i ∧ i < vs.length) ∧ St h (ownS T E o cap d :: L.set j (ownH T E vs D i.toNat)) w := by
 obtain ⟨hb, hx⟩ := getI_spec e
 obtain ⟨z, hz, _, _, _⟩ := s.focus hj
 obtain ⟨os, e1, e2, e3⟩ := hz
 have hlt : i.toNat < os.length := by rw [e1]; exact (List.getElem?_eq_some_iff.1 hx).1
 have hlen : vs.length = D.length := by subst e2; simp [cellL, e1]
 refine ⟨os[i.toNat].1, os[i.toNat].2, by subst e2; exact cellL_get (List.getElem?_eq_getElem hlt) hx, ⟨hb.1, by rw [hlen]; exact hb.2⟩, s.split hj fun z' ⟨os', f1, f2, f3⟩ => ?_⟩
 have hlt' : i.toNat < os'.length := by rw [f1]; exact (List.getElem?_eq_some_iff.1 hx).1
 have hp : os'[i.toNat] = os[i.toNat] := by
  have c1 := cellL_get (List.getElem?_eq_getElem hlt) hx
  have c2 := cellL_get (List.getElem?_eq_getElem hlt') hx
  rw [← e2, f2, c2] at c1
  simp only [Option.some.injEq, Value.slice.injEq, true_and] at c1
  exact Prod.ext c1.1 c1.2
 obtain ⟨x, y, hx', dxy, ez, hset⟩ := f3.focus (ownL_get (List.getElem?_eq_getElem hlt') hx)
 rw [hp] at hx'
 refine ⟨x, y, hx', ⟨os', f1, f2, ?_⟩, dxy, ez⟩
 have := hset h emp Hp.nil (Zone.le_refl h) rfl (Hp.apart_comm (Hp.apart_nil _))
 rwa [Hp.nil_add] at this
theorem _root_.Go.Sl.St.ownClose (s : St h L w) {j k : Nat} {vs : List Value} {D : List (List α)} {n : Nat} {o : Option Addr} {cap : Nat} {d : List α} (hj : L[j]? = some (ownH T E vs D n)) (hk : L[k]? = some (ownS T E o cap d)) (hjk : k ≠ j) (hn : n < D.length) :
  St h ((L.set j (ownA T E (vs.set n (.slice o d.length cap)) (D.set n d))).set k emp) w := by
 refine s.join hj hk hjk fun x y ⟨os, e1, e2, e3⟩ hy dxy => ⟨os.set n (o, cap), by simp [e1], by rw [cellL_set, e2], ?_⟩
 rw [ownL_set]
 have hnl : n < (ownL T E os D).length := by simp [ownL, e1]; exact hn
 have hg : ((ownL T E os D).set n emp)[n]? = some emp := by rw [List.getElem?_set_self hnl]
 obtain ⟨a, b, ha, dab, ez, hset⟩ := e3.focus hg
 have ha' : a = Hp.nil := ha
 subst ha'
 rw [Hp.nil_add] at ez
 subst ez
 have := hset h (ownS T E o cap d) y (Zone.le_refl h) hy (Hp.apart_comm dxy)
 rw [List.set_set] at this
 rw [Hp.add_comm dxy]
 exact this
theorem OwnP.shared {o : Option Addr} {cap : Nat} {xs : List α} {x : Hp} (hx : OwnP T E o cap xs h x) (hb : x.le h.blk) : SliceR T h o cap xs := by
 rcases hx with ⟨rfl, rfl, rfl, rfl⟩ | ⟨g, cur, rfl, rfl, h1, h2, h3, h4⟩
 ·exact SliceR.nil' T h
 ·refine ⟨h1, h2, fun e => (by cases e), fun a e i y hy => ?_⟩
  cases e
  obtain ⟨c, hc, hg⟩ := h4.get hy
  refine ⟨c, hc, fun k v hk => ?_⟩
  have hblk : h.blk g = some (.cells cur E (0, 0)) := Hp.one_le.1 hb
  have := hg k v hk
  rw [List.getElem?_take] at this
  split at this
  ·rw [add_add]
   have hadd : (⟨g, 0, none⟩ : Addr).add (i * T.size + k) = ⟨g, i * T.size + k, none⟩ := by unfold Addr.add; split <;> simp_all
   rw [hadd]
   simpa [Zone.cell?, hblk] using this
  ·cases this
theorem ownRows : ∀ {os : List (Option Addr × Nat)} {D : List (List α)} {x : Hp}, os.length = D.length → Sep h (ownL T E os D) x → x.le h.blk → Rows (Ty.slice T) h (cellL os D) D
 | [], [], _, _, _, _ => rfl
 | [], _ :: _, _, e, _, _ => by cases e
 | _ :: _, [], _, e, _, _ => by cases e
 | p :: os, d :: D, x, e, ⟨a, b, ha, hb, dab, ex⟩, hx => by
  subst ex
  have la : a.le h.blk := Hp.le_trans (Hp.le_add_left a b) hx
  have lb : b.le h.blk := Hp.le_trans (Hp.le_add_right dab) hx
  exact ⟨[.slice p.1 d.length p.2], cellL os D, rfl, ⟨p.1, p.2, rfl, OwnP.shared ha la⟩, ownRows (by simpa using e) hb lb⟩
theorem _root_.Go.Sl.St.ownShareA (s : St h L w) {j : Nat} {vs : List Value} {D : List (List α)} (hj : L[j]? = some (ownA T E vs D)) :
  ∃ h', h.le h' ∧ St h' (L.set j emp) w ∧ (Ty.arr D.length (Ty.slice T)).rep h' vs D := by
 obtain ⟨h', x, hle, hx, hxb, hs⟩ := s.freeze hj
 obtain ⟨os, e1, e2, e3⟩ := hx
 exact ⟨h', hle, hs, rfl, by rw [e2]; exact ownRows e1 e3 hxb⟩
theorem cellL_ones : ∀ (os : List (Option Addr × Nat)) (D : List (List α)), oneCells (cellL os D) = true
 | [], _ => rfl
 | _ :: _, [] => rfl
 | _ :: os, _ :: D => cellL_ones os D
theorem _root_.Go.Sl.St.ownOnes (s : St h L w) {j : Nat} {vs : List Value} {D : List (List α)} (hj : L[j]? = some (ownA T E vs D)) : oneCells vs = true := by
 obtain ⟨z, ⟨os, _, e2, _⟩, _, _, _⟩ := s.focus hj
 rw [e2]
 exact cellL_ones os D
theorem set_same {β : Type} {l : List β} {n : Nat} {x : β} (e : l[n]? = some x) : l.set n x = l := by
 obtain ⟨hlt, rfl⟩ := List.getElem?_eq_some_iff.1 e
 exact List.set_getElem_self hlt
theorem _root_.Go.Sl.St.ownClose' (s : St h L w) {j k : Nat} {vs : List Value} {D : List (List α)} {n : Nat} {o : Option Addr} {cap : Nat} {d : List α} (hj : L[j]? = some (ownH T E vs D n)) (hk : L[k]? = some (ownS T E o cap d)) (hjk : k ≠ j)
  (hv : vs[n]? = some (.slice o d.length cap)) (hd : D[n]? = some d) : St h ((L.set j (ownA T E vs D)).set k emp) w := by
 have hlt := (List.getElem?_eq_some_iff.1 hd)
 have hlv := (List.getElem?_eq_some_iff.1 hv)
 have := s.ownClose hj hk hjk hlt.1
 have e1 := set_same hv
 have e2 := set_same hd
 rwa [e1, e2] at this
theorem _root_.Go.Sl.St.ownShareN (s : St h L w) {j : Nat} {vs : List Value} {D : List (List α)} (hj : L[j]? = some (ownA T E vs D)) {n : Nat} (hn : vs.length = n) :
  ∃ h', h.le h' ∧ St h' (L.set j emp) w ∧ (Ty.arr n (Ty.slice T)).rep h' vs D := by
 obtain ⟨z, hz, _, _, _⟩ := s.focus hj
 have := ownA_len hz
 subst hn
 rw [this]
 exact s.ownShareA hj
theorem splice_mid (pre vs post : List Value) {n : Nat} (hn : n < vs.length) (v : Value) : splice (pre ++ vs ++ post) (pre.length + n) [v] = pre ++ vs.set n v ++ post := by
 unfold splice
 have e1 : (pre ++ vs ++ post).take (pre.length + n) = pre ++ vs.take n := by
  rw [List.append_assoc, List.take_append, List.take_of_length_le (by omega), Nat.add_sub_cancel_left, List.take_append_of_le_length (by omega)]
 have e2 : (pre ++ vs ++ post).drop (pre.length + n + [v].length) = vs.drop (n + 1) ++ post := by
  rw [List.append_assoc, List.drop_append, List.drop_of_length_le (by simp; omega), List.nil_append, show pre.length + n + [v].length - pre.length = n + 1 by simp; omega, List.drop_append_of_le_length (by omega)]
 rw [e1, e2, List.set_eq_take_append_cons_drop, if_pos hn]
 simp
section
variable {P : Program} {a : Act} {N : Nat} {fl : FL} {ds : List Deferred} {ε : Px} {R : Array Oper} {m : List Nat} {S : World → Prop} {K : Act → World → Prop} {pl : List (Nat × Bool)}
theorem p_storeA {i j : Nat} {b : Nat} {ix : Int} {pre vs post : List Value} {v : Value} {X : TypeId} (hS : St h L w) (hf : Fr a N fl ds) (hj : L[j]? = some (box b (pre ++ vs ++ post) X)) (hix : ix.toNat < vs.length)
  (ho : storeAt P R N pl fl = some (i, (⟨b, pre.length, none⟩ : Addr).add (ix.toNat * 1), [v])) (hone : oneCells [v] = true)
  (k : ∀ w' a', St h (L.set j (box b (pre ++ vs.set ix.toNat v ++ post) X)) w' → Fr a' N fl ds → (m.contains i = false → S w') ∧ wpPlan ε P R m S K pl.tail a' w') : wpPlan ε P R m S K pl a w := by
 rw [arrAddr] at ho
 refine p_store hS hf hj ho (by simp; omega) hone fun w' a' hS' hf' => ?_
 rw [splice_mid _ _ _ hix] at hS'
 exact k w' a' hS' hf'
end
theorem nine {vs : List Value} (e : vs.length = 9) : ∃ a0 a1 a2 a3 a4 a5 a6 a7 a8, vs = [a0, a1, a2, a3, a4, a5, a6, a7, a8] := by
 match vs, e with
 | [a0, a1, a2, a3, a4, a5, a6, a7, a8], _ => exact ⟨a0, a1, a2, a3, a4, a5, a6, a7, a8, rfl⟩
end Go.Sx
namespace Go.Sl
open Go
variable {h : Zone} {L : List Atom} {w : World}
def sepA (As : List Atom) : Atom := ⟨fun h z => Sep h As z, fun _ _ _ k hz => hz.mono k⟩
theorem St.openA (s : St h L w) {j : Nat} {As : List Atom} (hj : L[j]? = some (sepA As)) : St h (As ++ L.set j emp) w := by
 obtain ⟨z, hz, hd, hb, hzw⟩ := s.sep
 obtain ⟨x, y, hx, dxy, e, hset⟩ := hz.focus hj
 subst e
 have hy : Sep h (L.set j emp) y := by
  have := hset h emp Hp.nil (Zone.le_refl h) rfl (Hp.apart_comm (Hp.apart_nil _))
  rwa [Hp.nil_add] at this
 exact ⟨⟨x.add y, Sep.append.2 ⟨x, y, hx, hy, dxy, rfl⟩, hd, hb, hzw⟩, s.os, s.tape, s.output⟩
theorem St.closeA {As : List Atom} (s : St h (As ++ L) w) : St h (sepA As :: L) w := by
 obtain ⟨z, hz, hd, hb, hzw⟩ := s.sep
 obtain ⟨x, y, hx, hy, dxy, e⟩ := Sep.append.1 hz
 exact ⟨⟨z, ⟨x, y, hx, hy, dxy, e⟩, hd, hb, hzw⟩, s.os, s.tape, s.output⟩
end Go.Sl
namespace Go.Sx
open Go.Sl
variable {α : Type} {T : Ty α} {h : Zone} {L : List Atom} {w : World} {E E2 : TypeId} {o : Option Addr} {cap : Nat}
def tyV : Ty Value := ⟨1, fun _ cs v => cs = [v] ∧ v.oneCell' = true, fun ⟨e, _⟩ => by subst e; rfl, fun ⟨e, k⟩ v hv => by subst e; simp at hv; subst hv; exact k, fun _ e => e⟩
structure Rw (α : Type) where
 o : Option Addr
 c : Nat
 xs : List α
def Rw.v (r : Rw α) : Value := .slice r.o r.xs.length r.c
def rowAt (T : Ty α) (E2 : TypeId) : Option (Rw α) → Atom
 | some r => ownS T E2 r.o r.c r.xs
 | none => emp
def VR (vs : List Value) (rs : List (Option (Rw α))) : Prop := vs.length = rs.length ∧ ∀ (i : Nat) r, rs[i]? = some (some r) → vs[i]? = some r.v
def ooV (T : Ty α) (E E2 : TypeId) (o : Option Addr) (cap : Nat) (vs : List Value) (rs : List (Option (Rw α))) : Atom := sepA (ownS tyV E o cap vs :: rs.map (rowAt T E2))
def ooA (T : Ty α) (E E2 : TypeId) (o : Option Addr) (cap : Nat) (rs : List (Option (Rw α))) : Atom :=
 ⟨fun h z => ∃ vs, VR vs rs ∧ (ooV T E E2 o cap vs rs).P h z, fun _ _ _ k ⟨vs, h1, h2⟩ => ⟨vs, h1, (ooV T E E2 o cap vs rs).mono _ _ _ k h2⟩⟩
theorem St.ooOpen {rs : List (Option (Rw α))} (s : St h L w) {j : Nat} (hj : L[j]? = some (ooA T E E2 o cap rs)) : ∃ vs, VR vs rs ∧ St h ((ownS tyV E o cap vs :: rs.map (rowAt T E2)) ++ L.set j emp) w := by
 obtain ⟨z, hz, hd, hb, hzw⟩ := s.sep
 obtain ⟨x, y, hx, dxy, e, hset⟩ := hz.focus hj
 obtain ⟨vs, hv, hx'⟩ := hx
 have hlt := (List.getElem?_eq_some_iff.1 hj).1
 have s2 : St h (L.set j (ooV T E E2 o cap vs rs)) w := by
  subst e
  exact ⟨⟨_, hset h (ooV T E E2 o cap vs rs) x (Zone.le_refl h) hx' dxy, hd, hb, hzw⟩, s.os, s.tape, s.output⟩
 refine ⟨vs, hv, ?_⟩
 have := St.openA s2 (j := j) (As := ownS tyV E o cap vs :: rs.map (rowAt T E2)) (by rw [List.getElem?_set_self hlt]; rfl)
 rwa [List.set_set] at this
theorem St.ooClose {rs : List (Option (Rw α))} {vs : List Value} (hv : VR vs rs) (s : St h ((ownS tyV E o cap vs :: rs.map (rowAt T E2)) ++ L) w) : St h (ooA T E E2 o cap rs :: L) w := by
 have s2 := St.closeA s
 have := St.conv (A := sepA (ownS tyV E o cap vs :: rs.map (rowAt T E2))) (B := ooA T E E2 o cap rs) s2 (i := 0) rfl fun z hz => ⟨vs, hv, hz⟩
 exact this
theorem rows_of {β : Type} {U : Ty β} {h : Zone} : ∀ (cs : List Value) (D : List β), cs.length = D.length → (∀ (i : Nat) (x : β), D[i]? = some x → ∃ v, cs[i]? = some v ∧ U.rep h [v] x) → Rows U h cs D
 | [], [], _, _ => rfl
 | c :: cs, d :: D, hl, hp => ⟨[c], cs, rfl, by
   obtain ⟨v, hv, hx⟩ := hp 0 d rfl
   simp only [List.getElem?_cons_zero, Option.some.injEq] at hv
   subst hv; exact hx, rows_of cs D (by simpa using hl) fun i x hx => by
   have := hp (i + 1) x (by simpa using hx)
   simpa using this⟩
 | [], _ :: _, hl, _ => by simp at hl
 | _ :: _, [], hl, _ => by simp at hl
theorem tyV_rows {h : Zone} : ∀ {vs cs : List Value}, Rows tyV h cs vs → cs = vs
 | [], _, e => e
 | v :: vs, _, ⟨c, d, e, hc, hd⟩ => by
  have h1 : c = [v] := hc.1
  rw [e, h1, tyV_rows hd]; rfl
theorem St.ooShare {rs : List (Option (Rw α))} {xss : List (List α)} (s : St h L w) {j : Nat} (hj : L[j]? = some (ooA T E E2 o cap rs)) (hr : rs.length = xss.length)
  (hx : ∀ (i : Nat) (xs : List α), xss[i]? = some xs → ∃ r : Rw α, rs[i]? = some (some r) ∧ r.xs = xs) : ∃ h', h.le h' ∧ St h' (L.set j emp) w ∧ SliceR (Ty.slice T) h' o cap xss := by
 obtain ⟨h', z, hle, hz, hzb, hs⟩ := s.freeze hj
 refine ⟨h', hle, hs, ?_⟩
 obtain ⟨vs, hv, hz⟩ := hz
 have hz : Sep h' (ownS tyV E o cap vs :: rs.map (rowAt T E2)) z := hz
 have hin : ∀ (i : Nat) (x : List α), xss[i]? = some x → ∃ v, vs[i]? = some v ∧ (Ty.slice T).rep h' [v] x := by
  intro i x hi
  obtain ⟨r, h1, h2⟩ := hx i x hi
  have hget : (ownS tyV E o cap vs :: rs.map (rowAt T E2))[i + 1]? = some (ownS T E2 r.o r.c r.xs) := by
   rw [List.getElem?_cons_succ, List.getElem?_map, h1]; rfl
  obtain ⟨a, b, ha, dab, e, _⟩ := hz.focus hget
  subst e
  have la : a.le h'.blk := Hp.le_trans (Hp.le_add_left a b) hzb
  subst h2
  exact ⟨r.v, hv.2 i r h1, r.o, r.c, rfl, OwnP.shared ha la⟩
 obtain ⟨a, b, ha, dab, e, _⟩ := hz.focus (i := 0) rfl
 subst e
 have la : a.le h'.blk := Hp.le_trans (Hp.le_add_left a b) hzb
 refine OwnP.shared (T := Ty.slice T) (E := E) (x := a) ?_ la
 have hl := hv.1
 rcases ha with ⟨e1, e2, e3, e4⟩ | ⟨g, cur, e1, e2, e3, e4, e5, e6⟩
 ·refine .inl ⟨e1, e2, ?_, e4⟩
  have : vs.length = 0 := by rw [e3]; rfl
  exact List.eq_nil_of_length_eq_zero (by omega)
 ·refine .inr ⟨g, cur, e1, e2, by omega, e4, e5, ?_⟩
  have h1 := tyV_rows e6
  rw [show vs.length * tyV.size = xss.length * (Ty.slice T).size by show vs.length * 1 = xss.length * 1; omega] at h1
  rw [h1]
  exact rows_of vs xss (by omega) hin
end Go.Sx
namespace Go.K
open Go.Sl Go.Sx
abbrev SFL := List (Nat × SV)
def lookS : SFL → Nat → Option SV
 | [], _ => none
 | (k, v) :: r, n => bif Nat.beq k n then some v else lookS r n
def FLIs (e : KE) : SFL → FL → Prop
 | [], [] => True
 | (k, s) :: r, (k', v) :: r' => k = k' ∧ Is e s v ∧ FLIs e r r'
 | _, _ => False
theorem FLIs.mono {e e' : KE} (h : e.le e') : ∀ {l : SFL} {m : FL}, FLIs e l m → FLIs e' l m
 | [], [], _ => trivial
 | (_, _) :: _, (_, _) :: _, ⟨h1, h2, h3⟩ => ⟨h1, h2.mono h, h3.mono h⟩
 | [], _ :: _, h => h.elim
 | _ :: _, [], h => h.elim
inductive LS where
 | ready | busy | done (j : Option Nat)
def LS.st : LS → LoopState
 | .ready => .ready | .busy => .busy | .done _ => .done
def LS.pe : LS → Option Code
 | .done none => some .ret | .done (some i) => some (.exit i) | _ => none
inductive Blk where
 | gone | cells (T : TypeId) (cs : List SV) | own (t : TC) (E : TypeId) (xs : List t.den) | fz (t : TC) (xs : List t.den)
 | loop (g : FuncId) (N : Nat) (fl : SFL) (ps : Array Tmp) (A B : Code) (st : LS) | defm
 | map (es : CMap) | fzm (es : CMap) | mapS (es : List (CV × SV))
 | oo (t : TC) (E E2 : TypeId) (xss : List (List t.den)) (hole : Option Int)
def RowsIs {α : Type} (hole : Option Int) (xss : List (List α)) (rs : List (Option (Rw α))) : Prop :=
 rs.length = xss.length ∧ (∀ (i : Nat) (xs : List α), xss[i]? = some xs → hole.map Int.toNat ≠ some i → ∃ r : Rw α, rs[i]? = some (some r) ∧ r.xs = xs) ∧ ∀ i : Nat, hole.map Int.toNat = some i → i < rs.length ∧ rs[i]? = some none
def mapC (b : Nat) (es : CMap) : Atom := ⟨fun _ z => z = Hp.one b (cobj es), fun _ _ _ _ h => h⟩
def centV : List (CV × Value) → Nat → List MapEntry
 | [], _ => []
 | (k, v) :: r, i => { key := k.v, val := v, born := i } :: centV r (i + 1)
def objV (es : List (CV × Value)) : Obj := .map (centV es 0).toArray es.length
def mapA (b : Nat) (es : List (CV × Value)) : Atom := ⟨fun _ z => z = Hp.one b (objV es), fun _ _ _ _ h => h⟩
inductive BlkIs (e : KE) : Blk → BI → Atom → Prop
 | gone {i : BI} {A : Atom} : BlkIs e .gone i A
 | cells {T : TypeId} {cs : List SV} {vs : List Value} {i : BI} : IsL e cs vs → oneCells vs = true → BlkIs e (.cells T cs) i (box i.b vs T)
 | own {t : TC} {E : TypeId} {xs : List t.den} {i : BI} : xs.length = i.n → BlkIs e (.own t E xs) i (ownS t.ty E i.o i.c xs)
 | fz {t : TC} {xs : List t.den} {i : BI} : xs.length = i.n → SliceR t.ty e.z i.o i.c xs → BlkIs e (.fz t xs) i emp
 | loop {g : FuncId} {N : Nat} {fl : SFL} {flv : FL} {ps : Array Tmp} {A B : Code} {st : LS} {D : Nat} {i : BI} : FLIs e fl flv → BlkIs e (.loop g N fl ps A B st) i (loopA i.b N flv ps A B D st.st st.pe)
 | defm {i : BI} : BlkIs e .defm i (defA i.b)
 | map {es : CMap} {i : BI} : BlkIs e (.map es) i (mapC i.b es)
 | fzm {es : CMap} {i : BI} : e.z.blk i.b = some (cobj es) → BlkIs e (.fzm es) i emp
 | mapS {es : List (CV × SV)} {vs : List Value} {i : BI} : IsL e (es.map (·.2)) vs → BlkIs e (.mapS es) i (mapA i.b ((es.map (·.1)).zip vs))
 | oo {t : TC} {E E2 : TypeId} {xss : List (List t.den)} {hole : Option Int} {rs : List (Option (Rw t.den))} {i : BI} : xss.length = i.n → RowsIs hole xss rs → BlkIs e (.oo t E E2 xss hole) i (ooA t.ty E E2 i.o i.c rs)
theorem BlkIs.mono {e e' : KE} (h : e.le e') {B : Blk} {i : BI} {A : Atom} (k : BlkIs e B i A) : BlkIs e' B i A := by
 cases k with
 | gone => exact .gone
 | cells l o => exact .cells (l.mono h) o
 | own n => exact .own n
 | fz n s => exact .fz n (s.mono h.z)
 | loop f => exact .loop (f.mono h)
 | defm => exact .defm
 | map => exact .map
 | fzm hb => exact .fzm (h.z.blk _ _ hb)
 | mapS l => exact .mapS (l.mono h)
 | oo n r => exact .oo n r
structure Mem (e : KE) (σ : List Blk) (As : List Atom) : Prop where
 lb : σ.length = e.bs.length
 la : σ.length = As.length
 get : ∀ {id B}, at' σ id = some B → ∃ i A, at' e.bs id = some i ∧ at' As id = some A ∧ BlkIs e B i A
theorem at_pos {α : Type} {l : List α} {id : Nat} {x : α} (h : at' l id = some x) : l[l.length - 1 - id]? = some x := by
 unfold at' at h
 have := (List.getElem?_eq_some_iff.1 h).1
 rw [List.getElem?_reverse (by simpa using this)] at h
 exact h
def setAt {α : Type} (l : List α) (id : Nat) (x : α) : List α := l.set (l.length - 1 - id) x
theorem len_setAt {α : Type} (l : List α) (id : Nat) (x : α) : (setAt l id x).length = l.length := by simp [setAt]
theorem at_set {α : Type} {l : List α} {id : Nat} {x : α} (h : id < l.length) : at' (setAt l id x) id = some x := by
 unfold at' setAt
 rw [List.getElem?_reverse (by simpa using h), List.length_set, List.getElem?_set_self (by omega)]
theorem at_set_ne {α : Type} {l : List α} {id j : Nat} {x : α} (hi : id < l.length) (h : id ≠ j) : at' (setAt l id x) j = at' l j := by
 unfold at' setAt
 by_cases hj : j < l.length
 ·rw [List.getElem?_reverse (by simpa using hj), List.getElem?_reverse hj, List.length_set, List.getElem?_set_ne (by omega)]
 ·rw [List.getElem?_eq_none (by simpa using hj), List.getElem?_eq_none (by simpa using hj)]
variable {e e' : KE} {σ : List Blk} {As L0 : List Atom} {P : Program} {w : World} {N : Nat}
theorem Mem.atom {id : Nat} {A : Atom} (h : at' As id = some A) : (As ++ L0)[As.length - 1 - id]? = some A := by
 rw [List.getElem?_append_left (by have := at_lt h; omega)]; exact at_pos h
theorem setAt_app {id : Nat} {A : Atom} (h : id < As.length) : (As ++ L0).set (As.length - 1 - id) A = setAt As id A ++ L0 := by
 unfold setAt
 rw [List.set_append_left _ _ (by omega)]
theorem Mem.mono (m : Mem e σ As) (h : e.le e') (hb : e'.bs = e.bs) : Mem e' σ As :=
 ⟨by rw [hb]; exact m.lb, m.la, fun hB => let ⟨i, A, h1, h2, h3⟩ := m.get hB; ⟨i, A, by rw [hb]; exact h1, h2, h3.mono h⟩⟩
theorem Mem.set (m : Mem e σ As) {id : Nat} {B : Blk} {A : Atom} {i : BI} (hi : at' e.bs id = some i) (k : BlkIs e B i A) : Mem e (setAt σ id B) (setAt As id A) := by
 have hl := at_lt hi
 refine ⟨by rw [len_setAt]; exact m.lb, by rw [len_setAt, len_setAt]; exact m.la, fun {j} {B'} hB => ?_⟩
 by_cases hj : id = j
 ·subst hj
  rw [at_set (by rw [m.lb]; exact hl)] at hB
  cases hB
  exact ⟨i, A, hi, at_set (by rw [← m.la, m.lb]; exact hl), k⟩
 ·rw [at_set_ne (by rw [m.lb]; exact hl) hj] at hB
  obtain ⟨i', A', h1, h2, h3⟩ := m.get hB
  exact ⟨i', A', h1, by rw [at_set_ne (by rw [← m.la, m.lb]; exact hl) hj]; exact h2, h3⟩
def KE.push (e : KE) (i : BI) : KE := ⟨e.z, i :: e.bs⟩
theorem KE.le_push (e : KE) (i : BI) : e.le (e.push i) := ⟨Zone.le_refl _, [i], rfl⟩
theorem Mem.push (m : Mem e σ As) {B : Blk} {A : Atom} {i : BI} (k : BlkIs (e.push i) B i A) : Mem (e.push i) (B :: σ) (A :: As) := by
 refine ⟨by simp [KE.push, m.lb], by simp [m.la], fun {j} {B'} hB => ?_⟩
 by_cases hj : j = σ.length
 ·subst hj
  rw [at_new] at hB
  cases hB
  exact ⟨i, A, by rw [m.lb]; exact at_new, by rw [m.la]; exact at_new, k⟩
 ·have hlt : j < σ.length := by have := at_lt hB; simp at this; omega
  obtain ⟨B2, h0⟩ := at_some hlt
  have : B' = B2 := by have := at_cons (y := B) h0; rw [this] at hB; exact (Option.some.inj hB).symm
  subst this
  obtain ⟨i', A', h1, h2, h3⟩ := m.get h0
  exact ⟨i', A', at_cons h1, at_cons h2, h3.mono (KE.le_push e i)⟩
theorem FLIs.look {l : SFL} {m : FL} (k : FLIs e l m) {t : Nat} {s : SV} : lookS l t = some s → ∃ v, Sx.look m t = some v ∧ Is e s v := by
 induction l generalizing m with
 | nil => intro h; cases h
 | cons p l ih =>
  obtain ⟨q, s'⟩ := p
  intro h
  cases m with
  | nil => exact k.elim
  | cons u m =>
   obtain ⟨q', v⟩ := u
   obtain ⟨rfl, h2, h3⟩ := k
   simp only [lookS] at h
   simp only [Sx.look]
   cases hb : Nat.beq q t with
   | true => rw [hb] at h; cases h; exact ⟨v, rfl, h2⟩
   | false => rw [hb] at h; exact ih h3 h
def liftC : Value → SV
 | .int k n => .int k n | .bool b => .bool b | .string s => .str s | v => .raw v
def liftV : Value → SV
 | .agg cs => .agg (cs.toList.map liftC)
 | v => liftC v
theorem liftC_is (v : Value) : Is e (liftC v) v := by
 cases v <;> first | exact .raw _ | exact .int _ _ | exact .bool _ | exact .str _
theorem liftL_is : ∀ l : List Value, IsL e (l.map liftC) l
 | [] => .nil
 | v :: l => .cons (liftC_is v) (liftL_is l)
theorem liftV_is (v : Value) : Is e (liftV v) v := by
 unfold liftV
 split
 ·rename_i cs
  exact Is.agg (vs := cs.toList) (liftL_is _)
 ·exact liftC_is _
def resC (σ : List Blk) : SV → SV
 | .own id => match at' σ id with
  | some (.fz t xs) => .sl t xs
  | _ => .own id
 | .mp id => match at' σ id with
  | some (.fzm es) => .mpc es
  | _ => .mp id
 | s => s
theorem resC_is (m : Mem e σ As) {s : SV} {v : Value} (h : Is e s v) : Is e (resC σ s) v := by
 unfold resC
 split
 ·rename_i id
  split
  ·rename_i t xs hB
   obtain ⟨i, A, h1, h2, h3⟩ := m.get hB
   cases h with
   | own hi =>
    rw [hi] at h1
    cases h1
    cases h3 with
    | fz hn hs => rw [← hn]; exact .sl hs
  ·exact h
 ·rename_i id
  split
  ·rename_i es hB
   obtain ⟨i, A, h1, h2, h3⟩ := m.get hB
   cases h with
   | mp hi =>
    rw [hi] at h1
    cases h1
    cases h3 with
    | fzm hb => exact .mpc hb
  ·exact h
 ·exact h
theorem resL_is (m : Mem e σ As) : ∀ {l : List SV} {vs : List Value}, IsL e l vs → IsL e (l.map (resC σ)) vs
 | _, _, .nil => .nil
 | _, _, .cons h t => .cons (resC_is m h) (resL_is m t)
def res (σ : List Blk) : SV → SV
 | .agg cs => .agg (cs.map (resC σ))
 | s => resC σ s
theorem res_is (m : Mem e σ As) {s : SV} {v : Value} (h : Is e s v) : Is e (res σ s) v := by
 unfold res
 split
 ·cases h with
  | agg hl => exact .agg (resL_is m hl)
 ·exact resC_is m h
def evS (σ : List Blk) (fl : SFL) : Operand → Option SV
 | .tmp t => match lookS fl t with
  | some s => some (res σ s)
  | none => none
 | .const v => some (liftV v)
 | .func f => some (.fn f [] [])
 | .global _ => none
theorem evS_is {fl : SFL} {flv : FL} (m : Mem e σ As) (k : FLIs e fl flv) {x : Operand} {s : SV} (h : evS σ fl x = some s) : Is e s (ev flv x) ∧ knownX flv x = true := by
 cases x with
 | tmp t =>
  simp only [evS] at h
  split at h
  ·rename_i s' hl
   cases h
   obtain ⟨v, h1, h2⟩ := k.look hl
   exact ⟨by simp only [ev, h1, Option.getD_some]; exact res_is m h2, by simp [knownX, h1]⟩
  ·cases h
 | const v => simp only [evS, Option.some.injEq] at h; subst h; exact ⟨liftV_is v, rfl⟩
 | func f => simp only [evS, Option.some.injEq] at h; subst h; exact ⟨.fn .nil .nil, rfl⟩
 | global g => cases h
def WM (e : KE) (As L0 : List Atom) (w : World) : Prop := ∃ z', e.z.le z' ∧ St z' (As ++ L0) w
theorem WM.of {z' : Zone} (h : e.z.le z') (s : St z' (As ++ L0) w) : WM e As L0 w := ⟨z', h, s⟩
theorem WM.cell (h : WM e As L0 w) {a : Addr} {v : Value} (k : e.z.cell? a = some v) : w.cell? a = some v := let ⟨_, h1, h2⟩ := h; h2.cell (h1.cell k)
theorem WM.box (h : WM e As L0 w) {id b T : Nat} {vs : List Value} (hA : at' As id = some (Sx.box b vs T)) {j : Nat} {v : Value} (hj : vs[j]? = some v) : w.cell? ⟨b, j, none⟩ = some v :=
 let ⟨_, _, h2⟩ := h; h2.box (Mem.atom hA) hj
theorem add_of (b off : Nat) : (⟨b, 0, none⟩ : Addr).add off = ⟨b, off, none⟩ := by
 unfold Addr.add; split
 ·subst_vars; rfl
 ·simp
def ldT (P : Program) (t : TypeId) : Option (Nat × Bool) := match P.info? t, runO P (isAgg t) [] with
 | some inf, some (b, [], []) => some (inf.size, b)
 | _, _ => none
def ld (P : Program) (t : TypeId) (cs : List SV) (off : Nat) : Option SV := match ldT P t with
 | some (n, true) => bif Nat.ble (off + n) cs.length then some (.agg ((cs.drop off).take n)) else none
 | some (_, false) => cs[off]?
 | none => none
theorem ldT_run {t : TypeId} {n : Nat} {b : Bool} (h : ldT P t = some (n, b)) (w : World) : (isAgg t).run P w = .ok b w ∧ (sizeOf t).run P w = .ok n w := by
 unfold ldT at h
 split at h
 ·rename_i inf b' hi hr
  simp only [Option.some.injEq, Prod.mk.injEq] at h
  obtain ⟨rfl, rfl⟩ := h
  exact ⟨runO_sound _ hr (by simp), by simp [sizeOf, typeInfo, hi]⟩
 ·cases h
theorem ld_run {t : TypeId} {cs : List SV} {vs : List Value} {off : Nat} {s : SV} (h : ld P t cs off = some s) (k : IsL e cs vs) (a : Addr) :
  ∃ v, Is e s v ∧ ∀ w : World, (∀ j u, vs[j]? = some u → w.cell? (a.add j) = some u) → (loadVar t (a.add off)).run P w = .ok v w := by
 unfold ld at h
 split at h
 ·rename_i n ht
  cases hb : Nat.ble (off + n) cs.length with
  | false => rw [hb] at h; cases h
  | true =>
   rw [hb] at h
   cases h
   have hle := Nat.le_of_ble_eq_true hb
   rw [k.len] at hle
   refine ⟨_, .agg ((k.drop off).take n), fun w hc => ?_⟩
   obtain ⟨h1, h2⟩ := ldT_run ht w
   have h3 : (loadCells (a.add off) n).run P w = .ok ((vs.drop off).take n).toArray w := by
    have hl : ((vs.drop off).take n).length = n := by simp; omega
    have := run_loadCells_list (P := P) w (a.add off) ((vs.drop off).take n) fun j v hj => by
     rw [add_add]
     refine hc _ _ ?_
     rw [List.getElem?_take] at hj
     split at hj
     ·rwa [List.getElem?_drop] at hj
     ·cases hj
    rwa [hl] at this
   simp only [loadVar, Sem.run_bind, h1, Result.andThen_ok, if_true, h2, h3, Sem.run_pure]
 ·rename_i n ht
  obtain ⟨v, h1, h2⟩ := k.get h
  refine ⟨v, h2, fun w hc => ?_⟩
  obtain ⟨h3, _⟩ := ldT_run ht w
  have h4 := hc off v h1
  simp only [loadVar, Sem.run_bind, h3, Result.andThen_ok, Bool.false_eq_true, if_false]
  simp [load, Sem.run, h4]
 ·cases h
end Go.K
set_option linter.unusedSimpArgs false
namespace Go.K
open Go.Sl Go.Sx
variable {e e' : KE} {σ : List Blk} {As L0 : List Atom} {P : Program} {w : World} {N : Nat} {fl : SFL} {flv : FL} {ρ : Type} {W : World → Prop}
def Gv (P : Program) (e : KE) (W : World → Prop) (flv : FL) (o : Oper) (s : SV) : Prop := ∃ v, Is e s v ∧ ∀ w, W w → (execOp (ev flv) o).run P w = .ok (.value v) w
def scv : SV → Option Value
 | .int k n => some (.int k n) | .bool b => some (.bool b) | .str s => some (.string s) | .raw v => some v | _ => none
theorem scv_is {s : SV} {u v : Value} (h : scv s = some u) (k : Is e s v) : v = u := by
 cases k <;> simp [scv] at h <;> exact h
def rhoS (σ : List Blk) (fl : SFL) (x : Operand) : Value := match evS σ fl x with
 | some s => (scv s).getD undef
 | none => undef
def isSc (σ : List Blk) (fl : SFL) (x : Operand) : Bool := match evS σ fl x with
 | some s => (scv s).isSome
 | none => false
theorem isSc_eq (m : Mem e σ As) (k : FLIs e fl flv) {x : Operand} (h : isSc σ fl x = true) : ev flv x = rhoS σ fl x := by
 unfold isSc at h
 unfold rhoS
 split at h
 ·rename_i s hs
  obtain ⟨h1, _⟩ := evS_is m k hs
  cases hc : scv s with
  | none => rw [hc] at h; cases h
  | some u => rw [scv_is hc h1]; simp
 ·cases h
def noSel (o : Oper) : Bool := match o.op with | .select .. => false | _ => true
def scOp (P : Program) (σ : List Blk) (fl : SFL) (o : Oper) : Option SV :=
 bif noSel o && o.op.operands.toList.all (isSc σ fl) then match opG P (rhoS σ fl) o [] with
  | some (v, [], []) => some (liftV v)
  | _ => none
 else none
theorem scOp_ok (m : Mem e σ As) (k : FLIs e fl flv) {o : Oper} {s : SV} (h : scOp P σ fl o = some s) : Gv P e W flv o s := by
 unfold scOp at h
 cases hb : (noSel o && o.op.operands.toList.all (isSc σ fl)) with
 | false => rw [hb] at h; cases h
 | true =>
  rw [hb] at h
  simp only [cond_true] at h
  simp only [Bool.and_eq_true, List.all_eq_true] at hb
  split at h
  ·rename_i v hv
   cases h
   refine ⟨v, liftV_is v, fun w hw => ?_⟩
   have hc : execOp (ev flv) o = execOp (rhoS σ fl) o := execOp_congr o (fun cs b e => by simp [noSel, e] at hb) fun x hx => isSc_eq m k (hb.2 x (by simpa using hx))
   rw [hc]
   exact opG_sound hv .nil
  ·cases h
def i64v : SV → Option Int | .int .i64 n => some n | _ => none
theorem i64v_is {s : SV} {n : Int} {v : Value} (h : i64v s = some n) (k : Is e s v) : v = .int .i64 n := by
 cases k <;> simp [i64v] at h
 rename_i k n'
 cases k <;> simp at h
 subst h; rfl
def anyI : SV → Option Int | .int _ n => some n | _ => none
theorem anyI_is {s : SV} {n : Int} {v : Value} (h : anyI s = some n) (k : Is e s v) : ∃ k', v = .int k' n := by
 cases k <;> simp [anyI] at h
 subst h; exact ⟨_, rfl⟩
def strv : SV → Option ByteArray | .str s => some s | _ => none
theorem strv_is {s : SV} {n : ByteArray} {v : Value} (h : strv s = some n) (k : Is e s v) : v = .string n := by
 cases k <;> simp [strv] at h
 subst h; rfl
def i64S (σ : List Blk) (fl : SFL) (x : Operand) : Option Int := (evS σ fl x).bind i64v
def anyS (σ : List Blk) (fl : SFL) (x : Operand) : Option Int := (evS σ fl x).bind anyI
def strS (σ : List Blk) (fl : SFL) (x : Operand) : Option ByteArray := (evS σ fl x).bind strv
theorem i64S_is (m : Mem e σ As) (k : FLIs e fl flv) {x : Operand} {n : Int} (h : i64S σ fl x = some n) : ev flv x = .int .i64 n := by
 obtain ⟨s, h1, h2⟩ := bind_some h
 exact i64v_is h2 (evS_is m k h1).1
theorem anyS_is (m : Mem e σ As) (k : FLIs e fl flv) {x : Operand} {n : Int} (h : anyS σ fl x = some n) : ∃ k', ev flv x = .int k' n := by
 obtain ⟨s, h1, h2⟩ := bind_some h
 exact anyI_is h2 (evS_is m k h1).1
theorem strS_is (m : Mem e σ As) (k : FLIs e fl flv) {x : Operand} {n : ByteArray} (h : strS σ fl x = some n) : ev flv x = .string n := by
 obtain ⟨s, h1, h2⟩ := bind_some h
 exact strv_is h2 (evS_is m k h1).1
def catC (s t : ByteArray) : Option Unit := if s.size + t.size ≤ 9223372036854775807 then some () else none
theorem catC_spec {s t : ByteArray} {u : Unit} (h : catC s t = some u) : s.size + t.size ≤ 9223372036854775807 := by
 unfold catC at h; split at h
 ·assumption
 ·cases h
def cutC (s : ByteArray) (l h : Int) : Option Unit := if 0 ≤ l ∧ l ≤ h ∧ h ≤ (s.size : Int) then some () else none
theorem cutC_spec {s : ByteArray} {l h : Int} {u : Unit} (k : cutC s l h = some u) : 0 ≤ l ∧ l ≤ h ∧ h ≤ (s.size : Int) := by
 unfold cutC at k; split at k
 ·assumption
 ·cases k
def binX (P : Program) (σ : List Blk) (fl : SFL) (o : Oper) (k : SV → Option ρ) : Option ρ := match o.op with
 | .binOp .quo _ x y _ => match i64S σ fl x, i64S σ fl y with
  | some a, some b => (nz b).bind fun _ => k (.int .i64 (w64 (a.tdiv b)))
  | _, _ => none
 | .binOp .rem _ x y _ => match i64S σ fl x, i64S σ fl y with
  | some a, some b => (nz b).bind fun _ => k (.int .i64 (a.tmod b))
  | _, _ => none
 | .binOp .add _ x y _ => match strS σ fl x, strS σ fl y with
  | some a, some b => (catC a b).bind fun _ => k (.str (a ++ b))
  | _, _ => none
 | _ => none
theorem binX_ok (m : Mem e σ As) (k : FLIs e fl flv) {o : Oper} {K : SV → Option ρ} {r : ρ} (h : binX P σ fl o K = some r) : ∃ s, K s = some r ∧ Gv P e W flv o s := by
 unfold binX at h
 split at h
 ·rename_i t x y t' ho
  split at h
  ·rename_i a b ha hb
   obtain ⟨u, h1, h2⟩ := bind_some h
   refine ⟨_, h2, _, .int _ _, fun w hw => ?_⟩
   have e1 := i64S_is m k ha
   have e2 := i64S_is m k hb
   exact opQ_sound (os := []) (os' := []) (by simp only [opQ, ho, e1, e2]) (.prop (nz_spec h1) .nil)
  ·cases h
 ·rename_i t x y t' ho
  split at h
  ·rename_i a b ha hb
   obtain ⟨u, h1, h2⟩ := bind_some h
   refine ⟨_, h2, _, .int _ _, fun w hw => ?_⟩
   have e1 := i64S_is m k ha
   have e2 := i64S_is m k hb
   exact opQ_sound (os := []) (os' := []) (by simp only [opQ, ho, e1, e2]) (.prop (nz_spec h1) .nil)
  ·cases h
 ·rename_i t x y t' ho
  split at h
  ·rename_i a b ha hb
   obtain ⟨u, h1, h2⟩ := bind_some h
   refine ⟨_, h2, _, .str _, fun w hw => ?_⟩
   have e1 := strS_is m k ha
   have e2 := strS_is m k hb
   exact opQ_sound (os := []) (os' := []) (by simp only [opQ, ho, e1, e2]) (.prop (catC_spec h1) .nil)
  ·cases h
 ·cases h
def TC.flat : TC → Bool
 | .int _ => true | .bool => true | .str => true | .unit => true | .pair a b => a.flat && b.flat | .sl _ => false | .mpc _ => false | .nsl _ => false
def TC.val : (t : TC) → t.den → List Value
 | .int k, n => [.int k n] | .bool, b => [.bool b] | .str, s => [.string s] | .unit, _ => []
 | .pair a b, x => TC.val a x.1 ++ TC.val b x.2 | .sl _, _ => [] | .mpc _, _ => [] | .nsl _, _ => []
theorem flat_rep {z : Zone} : ∀ {t : TC} {x : t.den} {cs : List Value}, t.flat = true → t.ty.rep z cs x → cs = t.val x
 | .int _, _, _, _, h => h | .bool, _, _, _, h => h | .str, _, _, _, h => h | .unit, _, _, _, h => h
 | .pair a b, x, cs, hf, ⟨c, d, e1, hc, hd⟩ => by
  simp only [TC.flat, Bool.and_eq_true] at hf
  rw [e1, flat_rep hf.1 hc, flat_rep hf.2 hd]; rfl
theorem flat_is {e : KE} : ∀ {t : TC} {x : t.den}, t.flat = true → IsL e (t.exp x) (t.val x)
 | .int _, _, _ => .cons (.int _ _) .nil | .bool, _, _ => .cons (.bool _) .nil | .str, _, _ => .cons (.str _) .nil | .unit, _, _ => .nil
 | .pair a b, x, hf => by
  simp only [TC.flat, Bool.and_eq_true] at hf
  exact (flat_is hf.1).app (flat_is hf.2)
def ldX (P : Program) (σ : List Blk) (t : TypeId) (s : SV) (k : SV → Option ρ) : Option ρ := match s with
 | .ptr id off => match at' σ id with
  | some (.cells _ cs) => match ld P t cs off with
   | some v => k v
   | none => none
  | _ => none
 | .el u x off => match ld P t (u.exp x) off with
  | some v => k v
  | none => none
 | .oel id u i off => match at' σ id with
  | some (.own u' E xs) => if u' = u then bif u'.flat then (getI xs i).bind fun x => match ld P t (u'.exp x) off with
    | some v => k v
    | none => none
   else none else none
  | _ => none
 | _ => none
theorem WM.own {id : Nat} {t : TC} {E : TypeId} {o : Option Addr} {c : Nat} {xs : List t.den} (h : WM e As L0 w) (hA : at' As id = some (ownS t.ty E o c xs)) {a : Addr} (ho : o = some a) {i : Int} {x : t.den} (hx : getI xs i = some x) (hf : t.flat = true) :
  ∀ k v, (t.val x)[k]? = some v → w.cell? ((a.add (i.toNat * t.size)).add k) = some v := by
 obtain ⟨z', h1, h2⟩ := h
 obtain ⟨a', e1, _, cs, h3, h4⟩ := h2.ownGet (Mem.atom hA) hx
 rw [ho] at e1
 cases e1
 rw [← flat_rep hf h3, ← t.size_eq]
 exact h4
theorem load_run {o : Oper} {t : TypeId} {x : Operand} {a : Addr} {v : Value} (ho : o.op = .load t x) (hx : ev flv x = .pointer (some a)) (h : (loadVar t a).run P w = .ok v w) : (execOp (ev flv) o).run P w = .ok (.value v) w := by
 simp [execOp, ho, Instr.loadAt, hx, Instr.sureAddr, h]
theorem ldX_ok (m : Mem e σ As) (k : FLIs e fl flv) (hW : ∀ w, W w → WM e As L0 w) {o : Oper} {t : TypeId} {x : Operand} (ho : o.op = .load t x) {s : SV} (hs : evS σ fl x = some s) {K : SV → Option ρ} {r : ρ} (h : ldX P σ t s K = some r) : ∃ s, K s = some r ∧ Gv P e W flv o s := by
 obtain ⟨h0, _⟩ := evS_is m k hs
 revert h0
 generalize hgv : ev flv x = gv
 intro h0
 unfold ldX at h
 split at h
 ·rename_i id off
  split at h
  ·rename_i T cs hB
   split at h
   ·rename_i v hv
    obtain ⟨i, A, h1, h2, h3⟩ := m.get hB
    cases h3 with
    | cells hl hone =>
     rename_i vs
     cases h0 with
     | ptr hi =>
      rw [hi] at h1; cases h1
      obtain ⟨u, k1, k2⟩ := ld_run hv hl ⟨i.b, 0, none⟩
      refine ⟨v, h, u, k1, fun w hw => load_run ho hgv ?_⟩
      have := k2 w fun j u hj => by rw [add_of]; exact (hW w hw).box h2 hj
      rwa [add_of] at this
   ·cases h
  ·cases h
 ·rename_i u y off
  split at h
  ·rename_i v hv
   cases h0 with
   | el hr hc =>
    rename_i a cs
    obtain ⟨q, k1, k2⟩ := ld_run hv (exp_is u hr) a
    exact ⟨v, h, q, k1, fun w hw => load_run ho hgv (k2 w fun j u hj => (hW w hw).cell (hc j u hj))⟩
  ·cases h
 ·rename_i id u i off
  split at h
  ·rename_i u' E xs hB
   split at h
   ·rename_i hu
    cases hfl : u'.flat with
    | false => rw [hfl] at h; cases h
    | true =>
     rw [hfl] at h
     simp only [cond_true] at h
     obtain ⟨y, h1, h2⟩ := bind_some h
     split at h2
     ·rename_i v hv
      subst hu
      obtain ⟨bi, A, m1, m2, m3⟩ := m.get hB
      cases m3 with
      | own hn =>
       cases h0 with
       | oel hb ho' =>
        rename_i bb a
        rw [hb] at m1; cases m1
        obtain ⟨q, k1, k2⟩ := ld_run hv (flat_is (e := e) (x := y) hfl) (a.add (i.toNat * u'.size))
        exact ⟨v, h2, q, k1, fun w hw => load_run ho hgv (k2 w fun j u hj => (hW w hw).own m2 ho' h1 hfl j u hj)⟩
     ·cases h2
   ·cases h
  ·cases h
 ·cases h
end Go.K
namespace Go.K
open Go.Sl Go.Sx
variable {e e' : KE} {σ : List Blk} {As L0 : List Atom} {P : Program} {w : World} {N : Nat} {fl : SFL} {flv : FL} {ρ : Type} {W : World → Prop}
def fieldX (P : Program) (T : TypeId) (f : Nat) : Option Nat := match P.underlying T with
 | some (.struct fs) => match fs[f]? with
  | some g => match P.info? g.type with
   | some i => bif Nat.beq i.size 0 then none else some g.offset
   | none => none
  | none => none
 | _ => none
def moveP (n : Nat) : SV → Option SV
 | .ptr id off => some (.ptr id (off + n))
 | .el t x off => some (.el t x (off + n))
 | .oel id t i off => some (.oel id t i (off + n))
 | _ => none
theorem moveP_is {n : Nat} {s s' : SV} {v : Value} (h : moveP n s = some s') (k : Is e s v) : ∃ a, v = .pointer (some a) ∧ Is e s' (.pointer (some (a.add n))) := by
 cases k <;> simp [moveP] at h
 case ptr hi =>
  subst h
  rename_i id off i
  refine ⟨_, rfl, ?_⟩
  have : (⟨i.b, off, none⟩ : Addr).add n = ⟨i.b, off + n, none⟩ := by rw [← add_of i.b off, add_add, add_of]
  rw [this]; exact .ptr hi
 case el hr hc =>
  subst h
  exact ⟨_, rfl, by rw [add_add]; exact .el hr hc⟩
 case oel hb ho =>
  subst h
  exact ⟨_, rfl, by rw [add_add]; exact .oel hb ho⟩
def fieldAddrS (P : Program) (σ : List Blk) (fl : SFL) (o : Oper) : Option SV := match o.op with
 | .fieldAddr T x f => match evS σ fl x, fieldX P T f with
  | some s, some n => moveP n s
  | _, _ => none
 | _ => none
theorem fieldAddrS_ok (m : Mem e σ As) (k : FLIs e fl flv) {o : Oper} {s : SV} (h : fieldAddrS P σ fl o = some s) : Gv P e W flv o s := by
 unfold fieldAddrS at h
 split at h
 ·rename_i T x f ho
  split at h
  ·rename_i s0 n hs hf
   obtain ⟨a, ha, h2⟩ := moveP_is h (evS_is m k hs).1
   refine ⟨_, h2, fun w hw => ?_⟩
   unfold fieldX at hf
   split at hf
   ·rename_i fs hu
    split at hf
    ·rename_i g hg
     split at hf
     ·rename_i i hi
      cases hz : Nat.beq i.size 0 with
      | true => rw [hz] at hf; cases hf
      | false =>
       rw [hz] at hf
       cases hf
       have hne : ¬ i.size = 0 := fun e => by rw [e] at hz; cases hz
       simp [execOp, ho, Instr.fieldAt, ha, run_underlying hu, hg, Instr.sureAddr, fieldPlace, sizeOf, typeInfo, hi, hne]
     ·cases hf
    ·cases hf
   ·cases hf
  ·cases h
 ·cases h
def litN : Int → Option Nat
 | .ofNat n => some n
 | _ => none
theorem litN_eq {i : Int} {n : Nat} (h : litN i = some n) : i = (n : Int) := by
 cases i <;> simp [litN] at h
 subst h; rfl
def elemX (P : Program) (t : TypeId) : Option (TypeId × Nat) := match P.underlying t with
 | some (.slice E) => match P.info? E with
  | some i => some (E, i.size)
  | none => none
 | _ => none
theorem elemX_eq {t E : TypeId} {n : Nat} (h : elemX P t = some (E, n)) : P.underlying t = some (.slice E) ∧ ∃ i, P.info? E = some i ∧ i.size = n := by
 unfold elemX at h
 split at h
 ·rename_i E' hu
  split at h
  ·rename_i i hi
   simp only [Option.some.injEq, Prod.mk.injEq] at h
   obtain ⟨rfl, rfl⟩ := h
   exact ⟨hu, i, hi, rfl⟩
  ·cases h
 ·cases h
def arrX (P : Program) (t : TypeId) : Option (Nat × Nat) := match P.underlying t with
 | some (.array n E) => match P.info? E with
  | some i => some (n, i.size)
  | none => none
 | _ => none
def outI {ρ : Type} : Option ρ := none
def casesI (i : Int) (k : Nat → Option ρ) : Nat → Nat → Option ρ
 | 0, _ => outI
 | n + 1, j => cond (decide (i = (j : Int))) (k j) (casesI i k n (j + 1))
theorem casesI_ok {i : Int} {k : Nat → Option ρ} {r : ρ} : ∀ {n j : Nat}, casesI i k n j = some r → ∃ q : Nat, i = (q : Int) ∧ q < j + n ∧ k q = some r
 | 0, j, h => by simp [casesI, outI] at h
 | n + 1, j, h => by
  simp only [casesI] at h
  by_cases e : i = (j : Int)
  ·rw [decide_eq_true e] at h
   exact ⟨j, e, by omega, h⟩
  ·rw [decide_eq_false e] at h
   obtain ⟨q, h1, h2, h3⟩ := casesI_ok (n := n) (j := j + 1) h
   exact ⟨q, h1, by omega, h3⟩
def indexAddrX (P : Program) (σ : List Blk) (fl : SFL) (o : Oper) (k : SV → Option ρ) : Option ρ := match o.op with
 | .indexAddr T x ix => match evS σ fl x, anyS σ fl ix with
  | some (.sl t xs), some i => match elemX P T with
   | some (_, n) => bif Nat.beq n t.size then (getI xs i).bind fun y => k (.el t y 0) else none
   | none => none
  | some (.own id), some i => match at' σ id, elemX P T with
   | some (.own t _ xs), some (_, n) => bif Nat.beq n t.size then (getI xs i).bind fun _ => k (.oel id t i 0) else none
   | some (.oo t _ _ xss _), some (_, n) => bif Nat.beq n 1 then (getI xss i).bind fun _ => k (.oel id (.sl t) i 0) else none
   | _, _ => none
  | some (.ptr id off), some i => match arrX P T with
   | some (len, n) => bif Nat.ble len 64 then casesI i (fun j => k (.ptr id (off + j * n))) len 0 else none
   | none => none
  | some (.el t y off), some i => match arrX P T with
   | some (len, n) => bif Nat.ble len 64 then casesI i (fun j => k (.el t y (off + j * n))) len 0 else none
   | none => none
  | _, _ => none
 | _ => none
theorem Mem.len {id : Nat} {t : TC} {E : TypeId} {xs : List t.den} (m : Mem e σ As) (hB : at' σ id = some (.own t E xs)) : ∃ i, at' e.bs id = some i ∧ xs.length = i.n ∧ at' As id = some (ownS t.ty E i.o i.c xs) := by
 obtain ⟨i, A, h1, h2, h3⟩ := m.get hB
 cases h3 with
 | own hn => exact ⟨i, h1, hn, h2⟩
theorem indexAddrX_ok (m : Mem e σ As) (k : FLIs e fl flv) (hw0 : WM e As L0 w) {o : Oper} {K : SV → Option ρ} {r : ρ} (h : indexAddrX P σ fl o K = some r) : ∃ s, K s = some r ∧ Gv P e W flv o s := by
 unfold indexAddrX at h
 split at h
 ·rename_i T x ix ho
  split at h
  ·rename_i t xs i hs hi
   obtain ⟨k', hi'⟩ := anyS_is m k hi
   split at h
   ·rename_i E n hX
    obtain ⟨hu, inf, hinf, hsz⟩ := elemX_eq hX
    cases hb : Nat.beq n t.size with
    | false => rw [hb] at h; cases h
    | true =>
     rw [hb] at h
     obtain ⟨y, h1, h2⟩ := bind_some h
     have hn := Nat.eq_of_beq_eq_true hb
     obtain ⟨h0, _⟩ := evS_is m k hs
     generalize hgv : ev flv x = gv at h0
     cases h0 with
     | sl hsl =>
      obtain ⟨a, rfl, hbnd, cs, hr, hc⟩ := hsl.getI h1
      refine ⟨_, h2, _, .el (off := 0) (a := a.add (i.toNat * t.size)) hr (by rw [← t.size_eq]; exact hc), fun w hw => ?_⟩
      simp [execOp, ho, Instr.indexAt, asIntOf, hi', hgv, run_underlying hu, sizeOf, typeInfo, hinf, hbnd, hsz, hn, add_zero']
   ·cases h
  ·rename_i id i hs hi
   obtain ⟨k', hi'⟩ := anyS_is m k hi
   split at h
   ·rename_i t E xs E' n hB hX
    obtain ⟨hu, inf, hinf, hsz⟩ := elemX_eq hX
    cases hb : Nat.beq n t.size with
    | false => rw [hb] at h; cases h
    | true =>
     rw [hb] at h
     obtain ⟨y, h1, h2⟩ := bind_some h
     have hn := Nat.eq_of_beq_eq_true hb
     obtain ⟨h0, _⟩ := evS_is m k hs
     generalize hgv : ev flv x = gv at h0
     obtain ⟨bi, m1, m2, m3⟩ := m.len hB
     cases h0 with
     | own hbi =>
      rw [m1] at hbi; cases hbi
      obtain ⟨hbnd, _⟩ := getI_spec h1
      obtain ⟨z', _, hst⟩ := hw0
      obtain ⟨a, ho', _⟩ := hst.ownGet (Mem.atom m3) h1
      refine ⟨_, h2, _, .oel (off := 0) m1 ho', fun w hw => ?_⟩
      rw [ho', ← m2] at hgv
      simp [execOp, ho, Instr.indexAt, asIntOf, hi', hgv, run_underlying hu, sizeOf, typeInfo, hinf, hbnd, hsz, hn, add_zero']
   ·rename_i t E E2 xss hole E' n hB hX
    obtain ⟨hu, inf, hinf, hsz⟩ := elemX_eq hX
    cases hb : Nat.beq n 1 with
    | false => rw [hb] at h; cases h
    | true =>
     rw [hb] at h
     obtain ⟨y, h1, h2⟩ := bind_some h
     have hn := Nat.eq_of_beq_eq_true hb
     obtain ⟨h0, _⟩ := evS_is m k hs
     generalize hgv : ev flv x = gv at h0
     obtain ⟨bi, A, m1, m3, m4⟩ := m.get hB
     cases m4 with
     | oo m2 hrs =>
     rename_i rs
     cases h0 with
     | own hbi =>
      rw [m1] at hbi; cases hbi
      obtain ⟨hbnd, hget⟩ := getI_spec h1
      obtain ⟨z', _, hst⟩ := hw0
      obtain ⟨vs, hv, hst2⟩ := Go.Sx.St.ooOpen hst (Mem.atom m3)
      have hvl : i.toNat < vs.length := by
       have := hv.1
       have := hrs.1
       omega
      have hgi : getI vs i = some vs[i.toNat] := by
       unfold getI
       rw [if_pos hbnd.1, List.getElem?_eq_getElem hvl]
      obtain ⟨a, ho', _⟩ := hst2.ownGet (j := 0) rfl hgi
      have hsz1 : (TC.sl t).size = 1 := rfl
      refine ⟨_, h2, _, .oel (off := 0) m1 ho', fun w hw => ?_⟩
      rw [ho', ← m2] at hgv
      simp [execOp, ho, Instr.indexAt, asIntOf, hi', hgv, run_underlying hu, sizeOf, typeInfo, hinf, hbnd, hsz, hn, add_zero', hsz1]
   ·cases h
  ·rename_i id off i hs hi
   obtain ⟨k', hi'⟩ := anyS_is m k hi
   split at h
   ·rename_i len n hX
    cases hb : Nat.ble len 64 with
    | false => rw [hb] at h; cases h
    | true =>
     rw [hb] at h
     obtain ⟨j, hji, hlt0, h⟩ := casesI_ok h
     obtain ⟨h0, _⟩ := evS_is m k hs
     obtain ⟨a, ha, h4⟩ := moveP_is (n := j * n) (s' := .ptr id (off + j * n)) rfl h0
     refine ⟨_, h, _, h4, fun w hw => ?_⟩
     unfold arrX at hX
     split at hX
     ·rename_i len' E hu
      split at hX
      ·rename_i inf hinf
       simp only [Option.some.injEq, Prod.mk.injEq] at hX
       obtain ⟨rfl, rfl⟩ := hX
       have hlt : j < len' := by omega
       subst hji
       have hlt' : (j : Int) < (len' : Int) := by omega
       simp [execOp, ho, Instr.indexAt, asIntOf, hi', ha, run_underlying hu, Instr.sureAddr, sizeOf, typeInfo, hinf, hlt, hlt']
      ·cases hX
     ·cases hX
   ·cases h
  ·rename_i t y off i hs hi
   obtain ⟨k', hi'⟩ := anyS_is m k hi
   split at h
   ·rename_i len n hX
    cases hb : Nat.ble len 64 with
    | false => rw [hb] at h; cases h
    | true =>
     rw [hb] at h
     obtain ⟨j, hji, hlt0, h⟩ := casesI_ok h
     obtain ⟨h0, _⟩ := evS_is m k hs
     obtain ⟨a, ha, h4⟩ := moveP_is (n := j * n) (s' := .el t y (off + j * n)) rfl h0
     refine ⟨_, h, _, h4, fun w hw => ?_⟩
     unfold arrX at hX
     split at hX
     ·rename_i len' E hu
      split at hX
      ·rename_i inf hinf
       simp only [Option.some.injEq, Prod.mk.injEq] at hX
       obtain ⟨rfl, rfl⟩ := hX
       have hlt : j < len' := by omega
       subst hji
       have hlt' : (j : Int) < (len' : Int) := by omega
       simp [execOp, ho, Instr.indexAt, asIntOf, hi', ha, run_underlying hu, Instr.sureAddr, sizeOf, typeInfo, hinf, hlt, hlt']
      ·cases hX
     ·cases hX
   ·cases h
  ·cases h
 ·cases h
def fieldS (P : Program) (σ : List Blk) (fl : SFL) (o : Oper) : Option SV := match o.op with
 | .field T x f => match evS σ fl x, P.underlying T with
  | some (.agg cs), some (.struct fs) => match fs[f]? with
   | some g => ld P g.type cs g.offset
   | none => none
  | _, _ => none
 | _ => none
theorem part_run {t : TypeId} {cs : List SV} {vs : List Value} {off : Nat} {s : SV} (h : ld P t cs off = some s) (k : IsL e cs vs) : ∃ v, Is e s v ∧ ∀ w : World, (part t vs.toArray off).run P w = .ok v w := by
 unfold ld at h
 split at h
 ·rename_i n ht
  cases hb : Nat.ble (off + n) cs.length with
  | false => rw [hb] at h; cases h
  | true =>
   rw [hb] at h
   cases h
   refine ⟨_, .agg ((k.drop off).take n), fun w => ?_⟩
   obtain ⟨h1, h2⟩ := ldT_run ht w
   have : vs.toArray.extract off (off + n) = ((vs.drop off).take n).toArray := by
    apply Array.ext'
    simp [List.extract_eq_take_drop]
   simp only [part, Sem.run_bind, h1, Result.andThen_ok, if_true, h2, Sem.run_pure, this]
 ·rename_i n ht
  obtain ⟨v, h1, h2⟩ := k.get h
  refine ⟨v, h2, fun w => ?_⟩
  obtain ⟨h3, _⟩ := ldT_run ht w
  simp only [part, Sem.run_bind, h3, Result.andThen_ok, Bool.false_eq_true, if_false, List.getElem?_toArray, h1, Sem.run_pure]
 ·cases h
theorem fieldS_ok (m : Mem e σ As) (k : FLIs e fl flv) {o : Oper} {s : SV} (h : fieldS P σ fl o = some s) : Gv P e W flv o s := by
 unfold fieldS at h
 split at h
 ·rename_i T x f ho
  split at h
  ·rename_i cs fs hs hu
   split at h
   ·rename_i g hg
    obtain ⟨h0, _⟩ := evS_is m k hs
    generalize hgv : ev flv x = gv at h0
    cases h0 with
    | agg hl =>
     obtain ⟨v, h1, h2⟩ := part_run h hl
     exact ⟨v, h1, fun w hw => by simp [execOp, ho, Instr.field, hgv, run_underlying hu, hg, asAgg, h2]⟩
   ·cases h
  ·cases h
 ·cases h
def extractS (σ : List Blk) (fl : SFL) (o : Oper) : Option SV := match o.op with
 | .extract x i => match evS σ fl x with
  | some (.tup l) => l[i]?
  | _ => none
 | _ => none
theorem extractS_ok (m : Mem e σ As) (k : FLIs e fl flv) {o : Oper} {s : SV} (h : extractS σ fl o = some s) : Gv P e W flv o s := by
 unfold extractS at h
 split at h
 ·rename_i x i ho
  split at h
  ·rename_i l hs
   obtain ⟨h0, _⟩ := evS_is m k hs
   generalize hgv : ev flv x = gv at h0
   cases h0 with
   | tup hl =>
    obtain ⟨v, h1, h2⟩ := hl.get h
    exact ⟨v, h2, fun w hw => by simp [execOp, ho, Instr.extract, hgv, h1]⟩
  ·cases h
 ·cases h
end Go.K
namespace Go.K
open Go.Sl Go.Sx
variable {e e' : KE} {σ : List Blk} {As L0 : List Atom} {P : Program} {w : World} {N : Nat} {fl : SFL} {flv : FL} {ρ : Type} {W : World → Prop}
def isAggV : Value → Bool | .agg _ => true | _ => false
def svC : SV → Option (List SV)
 | .agg cs => some cs
 | .raw v => bif isAggV v then none else some [.raw v]
 | .any => none
 | s => some [s]
theorem svC_is {s : SV} {l : List SV} {v : Value} (h : svC s = some l) (k : Is e s v) : IsL e l v.cells.toList := by
 cases k with
 | agg hl => simp only [svC, Option.some.injEq] at h; subst h; exact hl
 | raw v =>
  simp only [svC] at h
  cases hv : isAggV v with
  | true => rw [hv] at h; cases h
  | false =>
   rw [hv] at h
   simp only [cond_false, Option.some.injEq] at h
   subst h
   have : v.cells = #[v] := by cases v <;> first | rfl | simp [isAggV] at hv
   rw [this]; exact .cons (.raw v) .nil
 | int => simp only [svC, Option.some.injEq] at h; subst h; exact .cons (.int _ _) .nil
 | bool => simp only [svC, Option.some.injEq] at h; subst h; exact .cons (.bool _) .nil
 | str => simp only [svC, Option.some.injEq] at h; subst h; exact .cons (.str _) .nil
 | ptr i => simp only [svC, Option.some.injEq] at h; subst h; exact .cons (.ptr i) .nil
 | own i => simp only [svC, Option.some.injEq] at h; subst h; exact .cons (.own i) .nil
 | sl i => simp only [svC, Option.some.injEq] at h; subst h; exact .cons (.sl i) .nil
 | el i j => simp only [svC, Option.some.injEq] at h; subst h; exact .cons (.el i j) .nil
 | oel i j => simp only [svC, Option.some.injEq] at h; subst h; exact .cons (.oel i j) .nil
 | tup i => simp only [svC, Option.some.injEq] at h; subst h; exact .cons (.tup i) .nil
 | fn i j => simp only [svC, Option.some.injEq] at h; subst h; exact .cons (.fn i j) .nil
 | ifc i => simp only [svC, Option.some.injEq] at h; subst h; exact .cons (.ifc i) .nil
 | nil0 i => simp only [svC, Option.some.injEq] at h; subst h; exact .cons (.nil0 i) .nil
 | nil1 i => simp only [svC, Option.some.injEq] at h; subst h; exact .cons (.nil1 i) .nil
 | yld i l => simp only [svC, Option.some.injEq] at h; subst h; exact .cons (.yld i l) .nil
 | mp i => simp only [svC, Option.some.injEq] at h; subst h; exact .cons (.mp i) .nil
 | nsl i j => simp only [svC, Option.some.injEq] at h; subst h; exact .cons (.nsl i j) .nil
 | mpc i => simp only [svC, Option.some.injEq] at h; subst h; exact .cons (.mpc i) .nil
 | any => cases h
def spl (cs : List SV) (off : Nat) (l : List SV) : List SV := cs.take off ++ l ++ cs.drop (off + l.length)
theorem fold_set : ∀ (l : List Value) (n off : Nat) (cs : Array Value), off + n + l.length ≤ cs.size →
  ((l.zipIdx n).foldl (fun (cs : Array Value) (p : Value × Nat) => cs.setIfInBounds (off + p.2) p.1) cs).toList = cs.toList.take (off + n) ++ l ++ cs.toList.drop (off + n + l.length)
 | [], n, off, cs, h => by simp
 | v :: l, n, off, cs, h => by
  rw [List.zipIdx_cons, List.foldl_cons, fold_set l (n + 1) off _ (by simp at h ⊢; omega)]
  simp only [List.length_cons] at h
  have h2 : off + n < cs.toList.length := by simp; omega
  simp only [Array.toList_setIfInBounds, List.length_cons]
  rw [show off + (n + 1) = off + n + 1 by omega, show off + n + 1 + l.length = off + n + (l.length + 1) by omega]
  have t1 : (cs.toList.set (off + n) v).take (off + n + 1) = cs.toList.take (off + n) ++ [v] := by
   rw [List.take_set, List.take_succ_eq_append_getElem h2, List.set_append_right _ _ (by simp; omega)]
   have hm : min (off + n) cs.size = off + n := by simp at h2; omega
   simp [hm]
  have t2 : (cs.toList.set (off + n) v).drop (off + n + (l.length + 1)) = cs.toList.drop (off + n + (l.length + 1)) := by
   rw [List.drop_set_of_lt (by omega)]
  rw [t1, t2]; simp
def fillS (place : Nat → Option (Nat × Nat)) (cells : List SV) : List (Nat × SV) → Option (List SV)
 | [] => some cells
 | (i, s) :: rest => match place i, svC s with
  | some (off, size), some l => bif Nat.beq l.length size && Nat.ble (off + l.length) cells.length then fillS place (spl cells off l) rest else none
  | _, _ => none
inductive PtsIs (e : KE) : List (Nat × SV) → List (Nat × Value) → Prop
 | nil : PtsIs e [] []
 | cons {i : Nat} {s : SV} {v : Value} {l : List (Nat × SV)} {m : List (Nat × Value)} : Is e s v → PtsIs e l m → PtsIs e ((i, s) :: l) ((i, v) :: m)
theorem fillS_ok {place : Nat → Option (Nat × Nat)} : ∀ {l : List (Nat × SV)} {m : List (Nat × Value)} {cs r : List SV} {vs : List Value}, PtsIs e l m → IsL e cs vs → fillS place cs l = some r →
  ∃ us, IsL e r us ∧ Instr.fill place vs.toArray m = some us.toArray
 | _, _, cs, r, vs, .nil, hc, h => by
  simp only [fillS, Option.some.injEq] at h
  subst h; exact ⟨vs, hc, rfl⟩
 | _, _, cs, r, vs, .cons (i := i) (s := s) (v := v) hs hl, hc, h => by
  simp only [fillS] at h
  split at h
  ·rename_i off size l' hp hsc
   cases hb : (Nat.beq l'.length size && Nat.ble (off + l'.length) cs.length) with
   | false => rw [hb] at h; cases h
   | true =>
    rw [hb] at h
    simp only [cond_true] at h
    simp only [Bool.and_eq_true] at hb
    have e1 := Nat.eq_of_beq_eq_true hb.1
    have e2 := Nat.le_of_ble_eq_true hb.2
    have hv := svC_is hsc hs
    have hl1 := hv.len
    have hl2 := hc.len
    have hsp : IsL e (spl cs off l') (vs.take off ++ v.cells.toList ++ vs.drop (off + v.cells.toList.length)) := by
     unfold spl
     rw [hl1]
     exact ((hc.take off).app hv).app (hc.drop _)
    obtain ⟨us, h1, h2⟩ := fillS_ok hl hsp h
    refine ⟨us, h1, ?_⟩
    rw [← h2]
    simp only [Instr.fill, hp]
    have hsz : v.cells.size = size := by rw [← e1, hl1]; simp
    have hno : ¬ (v.cells.size ≠ size || decide (off + v.cells.size > vs.toArray.size)) = true := by
     have : v.cells.toList.length = v.cells.size := by simp
     simp only [ne_eq, hsz, not_true_eq_false, decide_false, Bool.false_or, decide_eq_true_eq, List.size_toArray]
     omega
    simp only [hno, Bool.false_eq_true, if_false]
    congr 1
    apply Array.ext'
    have := fold_set v.cells.toList 0 off vs.toArray (by simp at hl1 ⊢; omega)
    simp only [Nat.add_zero] at this
    rw [← this, ← Array.foldl_toList]
    simp
  ·cases h
def placesL (P : Program) : List Field → Option (List (Nat × Nat))
 | [] => some []
 | f :: fs => match P.info? f.type, placesL P fs with
  | some i, some r => some ((f.offset, i.size) :: r)
  | _, _ => none
theorem placesL_run (w : World) : ∀ {fs : List Field} {r : List (Nat × Nat)}, placesL P fs = some r → (fs.mapM (fun f => do pure (f.offset, ← sizeOf f.type) : Field → Sem (Nat × Nat))).run P w = .ok r w
 | [], r, h => by simp only [placesL, Option.some.injEq] at h; subst h; rfl
 | f :: fs, r, h => by
  simp only [placesL] at h
  split at h
  ·rename_i i r' hi hr
   simp only [Option.some.injEq] at h
   subst h
   have e1 : (sizeOf f.type).run P w = .ok i.size w := by simp [sizeOf, typeInfo, hi]
   have e2 := placesL_run w hr
   rw [List.mapM_cons]
   simp only [Sem.run_bind, e1, Sem.run_pure, Result.andThen_ok]
   rw [e2]; rfl
  ·cases h
end Go.K
namespace Go.K
open Go.Sl Go.Sx
variable {e e' : KE} {σ : List Blk} {As L0 : List Atom} {P : Program} {w : World} {N : Nat} {fl : SFL} {flv : FL} {ρ : Type} {W : World → Prop}
def CV.s : CV → SV
 | .int k n => .int k n | .str s => .str s | .fn f => .fn f [] []
end Go.K
namespace Go.K
abbrev Yt := List (Int × (Int × (Int × Int)))
abbrev Yr := List (List (Int × Int))
abbrev Ys := (List (Int × (Int × (Int × Int)))) × ((List (List (Int × Int))) × ((List (List (Int × Int))) × ((List (List (Int × Int))) × ((List (List (Int × Int))) × ((List (List (Int × Int))) × ((List (List (Int × Int))) × ((List (List (Int × Int))) × ((List (List (Int × Int))) × (List (List (Int × Int)))))))))))
abbrev Yp : TC := .sl (.pair .i (.pair .i (.pair .i .i)))
abbrev Yq : TC := .sl (.sl (.pair .i .i))
abbrev Yu : TC := .pair (.sl (.pair .i (.pair .i (.pair .i .i)))) (.pair (.sl (.sl (.pair .i .i))) (.pair (.sl (.sl (.pair .i .i))) (.pair (.sl (.sl (.pair .i .i))) (.pair (.sl (.sl (.pair .i .i))) (.pair (.sl (.sl (.pair .i .i))) (.pair (.sl (.sl (.pair .i .i))) (.pair (.sl (.sl (.pair .i .i))) (.pair (.sl (.sl (.pair .i .i))) (.sl (.sl (.pair .i .i)))))))))))
end Go.K
namespace Go
theorem zB {α β : Type _} (a : α) (f : α → Option β) : (some a).bind f = f a := rfl
theorem zT {α : Sort _} (a b : α) : cond true a b = a := rfl
theorem zF {α : Sort _} (a b : α) : cond false a b = b := rfl
theorem zD {p : Prop} [h : Decidable p] (k : ¬ p) : decide p = false := decide_eq_false k
theorem zE {p : Prop} [h : Decidable p] (k : p) : decide p = true := decide_eq_true k
theorem zI {α : Type _} (a b : α) : (some a = some b) = (a = b) := by simp
theorem zC {α : Type _} {a : α} {l : List α} : (a :: l).length = l.length + 1 := rfl
theorem zL {α : Type _} : ([] : List α).length = 0 := rfl
theorem za (a b : Bool) : ((a && b) = true) = (a = true ∧ b = true) := by simp
theorem zN {n m : Nat} (h : Nat.beq n m = true) : n = m := Nat.eq_of_beq_eq_true h
end Go
