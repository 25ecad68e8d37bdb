/-
  A small separation logic over the model's worlds: an immutable zone that only grows, and a list of owned atoms with disjoint footprints. Program-independent. No condition.
-/
import Derived.WalkKit
import Derived.Maps.AppendAt
namespace Go.Sl

/-- A part of a heap. -/
abbrev Hp := Nat → Option Obj
def Hp.nil : Hp := fun _ => none
def Hp.one (b : Nat) (o : Obj) : Hp := fun k => if k = b then some o else none
def Hp.add (x y : Hp) : Hp := fun k => match x k with | some o => some o | none => y k
def Hp.le (x y : Hp) : Prop := ∀ b o, x b = some o → y b = some o
def Hp.apart (x y : Hp) : Prop := ∀ b, x b = none ∨ y b = none

theorem Hp.le_refl (x : Hp) : x.le x := fun _ _ h => h
theorem Hp.le_trans {x y z : Hp} (h : x.le y) (k : y.le z) : x.le z := fun b o e => k b o (h b o e)
theorem Hp.nil_le (x : Hp) : Hp.nil.le x := fun _ _ h => by simp [Hp.nil] at h
theorem Hp.le_add_left (x y : Hp) : x.le (x.add y) := fun b o h => by simp [Hp.add, h]
theorem Hp.le_add_right {x y : Hp} (d : x.apart y) : y.le (x.add y) := fun b o h => by
  rcases d b with e | e
  · simp [Hp.add, e, h]
  · rw [h] at e; cases e
theorem Hp.add_le {x y z : Hp} (h : x.le z) (k : y.le z) : (x.add y).le z := fun b o e => by
  unfold Hp.add at e
  cases hx : x b with
  | some u => rw [hx] at e; simp only [Option.some.injEq] at e; subst e; exact h _ _ hx
  | none => rw [hx] at e; exact k _ _ e
theorem Hp.apart_comm {x y : Hp} (h : x.apart y) : y.apart x := fun b => (h b).symm
theorem Hp.apart_nil (x : Hp) : x.apart Hp.nil := fun _ => .inr rfl
theorem Hp.apart_add {x y z : Hp} : x.apart (y.add z) ↔ x.apart y ∧ x.apart z := by
  constructor
  · intro h
    refine ⟨fun b => ?_, fun b => ?_⟩
    · rcases h b with e | e
      · exact .inl e
      · right; unfold Hp.add at e; cases hy : y b with
        | none => rfl
        | some o => rw [hy] at e; cases e
    · rcases h b with e | e
      · exact .inl e
      · right; unfold Hp.add at e; cases hy : y b with
        | none => rw [hy] at e; exact e
        | some o => rw [hy] at e; cases e
  · rintro ⟨h, k⟩ b
    rcases h b with e | e
    · exact .inl e
    · rcases k b with e' | e'
      · exact .inl e'
      · right; simp [Hp.add, e, e']
theorem Hp.add_apart {x y z : Hp} : (x.add y).apart z ↔ x.apart z ∧ y.apart z :=
  ⟨fun h => let ⟨a, b⟩ := Hp.apart_add.1 (Hp.apart_comm h); ⟨Hp.apart_comm a, Hp.apart_comm b⟩, fun ⟨a, b⟩ => Hp.apart_comm (Hp.apart_add.2 ⟨Hp.apart_comm a, Hp.apart_comm b⟩)⟩
theorem Hp.add_comm {x y : Hp} (d : x.apart y) : x.add y = y.add x := by
  funext b
  unfold Hp.add
  rcases d b with e | e
  · rw [e]; cases y b <;> rfl
  · rw [e]; cases x b <;> rfl
theorem Hp.add_assoc (x y z : Hp) : (x.add y).add z = x.add (y.add z) := by
  funext b
  unfold Hp.add
  cases x b <;> rfl
theorem Hp.nil_add (x : Hp) : Hp.nil.add x = x := rfl
theorem Hp.add_nil (x : Hp) : x.add Hp.nil = x := by funext b; unfold Hp.add Hp.nil; cases x b <;> rfl
theorem Hp.one_at (b : Nat) (o : Obj) : Hp.one b o b = some o := by simp [Hp.one]
theorem Hp.one_le {b : Nat} {o : Obj} {z : Hp} : (Hp.one b o).le z ↔ z b = some o :=
  ⟨fun h => h b o (Hp.one_at b o), fun h k u e => by unfold Hp.one at e; split at e <;> simp_all⟩
theorem Hp.one_apart {b : Nat} {o : Obj} {z : Hp} : (Hp.one b o).apart z ↔ z b = none :=
  ⟨fun h => (h b).resolve_left (by simp [Hp.one]), fun h k => by
    by_cases e : k = b
    · subst e; exact .inr h
    · left; simp [Hp.one, e]⟩

/-- The immutable zone: blocks that nobody writes any more, and what of a world no step of ours turns. -/
structure Zone where
  blk : Hp
  os : Os
  tape : Nat → Question → Nat
  output : Array (Nat × ByteArray)

structure Zone.le (h h' : Zone) : Prop where
  blk : h.blk.le h'.blk
  os : h'.os = h.os
  tape : h'.tape = h.tape
  output : h'.output = h.output

theorem Zone.le_refl (h : Zone) : h.le h := ⟨Hp.le_refl _, rfl, rfl, rfl⟩
theorem Zone.le_trans {a b c : Zone} (h : a.le b) (k : b.le c) : a.le c :=
  ⟨Hp.le_trans h.blk k.blk, k.os.trans h.os, k.tape.trans h.tape, k.output.trans h.output⟩

def Zone.cell? (h : Zone) (a : Addr) : Option Value :=
  match h.blk a.block with
  | some (.cells c _ _) => if a.spot.isSome then none else c[a.off]?
  | _ => none

theorem Zone.le.cell {h h' : Zone} (k : h.le h') {a : Addr} {v : Value} (e : h.cell? a = some v) : h'.cell? a = some v := by
  unfold Zone.cell? at *
  cases hb : h.blk a.block with
  | none => rw [hb] at e; cases e
  | some o => rw [hb] at e; rw [k.blk _ _ hb]; exact e

/-- An owned assertion: of the zone and of its footprint. -/
structure Atom where
  P : Zone → Hp → Prop
  mono : ∀ h h' z, h.le h' → P h z → P h' z

def emp : Atom := ⟨fun _ z => z = Hp.nil, fun _ _ _ _ h => h⟩
instance : Inhabited Atom := ⟨emp⟩

/-- The footprints of a list of atoms, all apart. -/
def Sep (h : Zone) : List Atom → Hp → Prop
  | [], z => z = Hp.nil
  | A :: L, z => ∃ x y, A.P h x ∧ Sep h L y ∧ x.apart y ∧ z = x.add y

theorem Sep.mono {h h' : Zone} (k : h.le h') : ∀ {L : List Atom} {z : Hp}, Sep h L z → Sep h' L z
  | [], _, e => e
  | A :: _, _, ⟨x, y, hx, hy, d, e⟩ => ⟨x, y, A.mono _ _ _ k hx, Sep.mono k hy, d, e⟩

/-- One atom in focus: it may be replaced by another one whose footprint is apart from the rest. -/
theorem Sep.focus {h : Zone} : ∀ {L : List Atom} {z : Hp} {i : Nat} {A : Atom}, Sep h L z → L[i]? = some A →
    ∃ x y, A.P h x ∧ x.apart y ∧ z = x.add y ∧ ∀ (h' : Zone) (B : Atom) (x' : Hp), h.le h' → B.P h' x' → x'.apart y → Sep h' (L.set i B) (x'.add y)
  | A :: L, z, 0, A', ⟨x, y, hx, hy, d, e⟩, hi => by
    simp only [List.getElem?_cons_zero, Option.some.injEq] at hi
    subst hi
    exact ⟨x, y, hx, d, e, fun h' B x' k hB d' => ⟨x', y, hB, hy.mono k, d', rfl⟩⟩
  | A :: L, z, i + 1, A', ⟨x, y, hx, hy, d, e⟩, hi => by
    simp only [List.getElem?_cons_succ] at hi
    obtain ⟨u, v, hu, duv, ey, hset⟩ := Sep.focus hy hi
    subst ey
    have ⟨d1, d2⟩ := Hp.apart_add.1 d
    refine ⟨u, x.add v, hu, Hp.apart_add.2 ⟨Hp.apart_comm d1, duv⟩, ?_, fun h' B x' k hB d' => ?_⟩
    · rw [e, ← Hp.add_assoc, Hp.add_comm d1, Hp.add_assoc]
    · have ⟨d3, d4⟩ := Hp.apart_add.1 d'
      refine ⟨x, x'.add v, A.mono _ _ _ k hx, hset h' B x' k hB d4, Hp.apart_add.2 ⟨Hp.apart_comm d3, d2⟩, ?_⟩
      rw [← Hp.add_assoc, Hp.add_comm d3, Hp.add_assoc]

theorem Sep.append {h : Zone} : ∀ {L M : List Atom} {z : Hp}, Sep h (L ++ M) z ↔ ∃ x y, Sep h L x ∧ Sep h M y ∧ x.apart y ∧ z = x.add y
  | [], M, z => ⟨fun h => ⟨Hp.nil, z, rfl, h, Hp.apart_comm (Hp.apart_nil _), rfl⟩, fun ⟨x, y, hx, hy, _, e⟩ => by
      simp only [Sep] at hx; subst hx; rw [e, Hp.nil_add]; exact hy⟩
  | A :: L, M, z => by
    constructor
    · rintro ⟨x, y, hx, hy, d, e⟩
      obtain ⟨u, v, hu, hv, duv, ey⟩ := (Sep.append (L := L)).1 hy
      subst ey
      have ⟨d1, d2⟩ := Hp.apart_add.1 d
      exact ⟨x.add u, v, ⟨x, u, hx, hu, d1, rfl⟩, hv, Hp.add_apart.2 ⟨d2, duv⟩, by rw [e, Hp.add_assoc]⟩
    · rintro ⟨_, v, ⟨x, u, hx, hu, d1, rfl⟩, hv, d, e⟩
      have ⟨d2, d3⟩ := Hp.add_apart.1 d
      exact ⟨x, u.add v, hx, (Sep.append (L := L)).2 ⟨u, v, hu, hv, d3, rfl⟩, Hp.apart_add.2 ⟨d1, d2⟩, by rw [e, Hp.add_assoc]⟩

/-- THE STATE: the world is the zone, the atoms, and what nobody speaks of. -/
structure St (h : Zone) (L : List Atom) (w : World) : Prop where
  sep : ∃ z, Sep h L z ∧ h.blk.apart z ∧ h.blk.le (fun b => w.heap[b]?) ∧ z.le (fun b => w.heap[b]?)
  os : w.os = h.os
  tape : w.tape = h.tape
  output : w.output = h.output

variable {h : Zone} {L : List Atom} {w : World}

theorem World.cell_eq (w : World) (a : Addr) : w.cell? a = (match w.heap[a.block]? with | some (.cells c _ _) => if a.spot.isSome then none else c[a.off]? | _ => none) := rfl

theorem St.cell (s : St h L w) {a : Addr} {v : Value} (e : h.cell? a = some v) : w.cell? a = some v := by
  obtain ⟨z, _, _, hb, _⟩ := s.sep
  unfold Zone.cell? at e
  rw [World.cell_eq]
  cases hbl : h.blk a.block with
  | none => rw [hbl] at e; cases e
  | some o => rw [hbl] at e; have h1 : w.heap[a.block]? = some o := hb _ _ hbl; rw [h1]; exact e

/-- One atom in focus, over worlds: the step changes only the atom's own blocks, or makes new ones. -/
theorem St.focus (s : St h L w) {i : Nat} {A : Atom} (hi : L[i]? = some A) :
    ∃ x, A.P h x ∧ x.le (fun b => w.heap[b]?) ∧ h.blk.apart x ∧
      ∀ (w' : World) (B : Atom) (x' : Hp), B.P h x' → x'.le (fun b => w'.heap[b]?) → (∀ b, b < w.heap.size → x b = none → w'.heap[b]? = w.heap[b]?) →
        (∀ b o, x' b = some o → w.heap.size ≤ b ∨ (x b).isSome) → w'.os = w.os → w'.tape = w.tape → w'.output = w.output → St h (L.set i B) w' := by
  obtain ⟨z, hz, hd, hb, hzw⟩ := s.sep
  obtain ⟨x, y, hx, dxy, e, hset⟩ := hz.focus hi
  subst e
  have ⟨d1, d2⟩ := Hp.apart_add.1 hd
  refine ⟨x, hx, Hp.le_trans (Hp.le_add_left _ _) hzw, d1, fun w' B x' hB hx' hsame hnew e1 e2 e3 => ?_⟩
  have hy : y.le (fun b => w.heap[b]?) := Hp.le_trans (Hp.le_add_right dxy) hzw
  have old : ∀ {u : Hp}, u.apart x → u.le (fun b => w.heap[b]?) → u.le (fun b => w'.heap[b]?) := fun {u} du hu b o hub => by
    have h1 := hu b o hub
    have hlt : b < w.heap.size := (Array.getElem?_eq_some_iff.1 h1).1
    rcases du b with e | e
    · rw [e] at hub; cases hub
    · exact (hsame b hlt e).trans h1
  have away : ∀ {u : Hp}, u.apart x → u.le (fun b => w.heap[b]?) → u.apart x' := fun {u} du hu b => by
    cases hub : u b with
    | none => exact .inl rfl
    | some o =>
      right
      cases hxb : x' b with
      | none => rfl
      | some o' =>
        rcases hnew b o' hxb with hge | hsome
        · have h1 := hu b o hub
          have hlt : b < w.heap.size := (Array.getElem?_eq_some_iff.1 h1).1
          omega
        · rcases du b with e | e
          · rw [e] at hub; cases hub
          · rw [e] at hsome; cases hsome
  have dx'y : x'.apart y := Hp.apart_comm (away (Hp.apart_comm dxy) hy)
  have dh : h.blk.apart x' := away d1 hb
  exact ⟨⟨x'.add y, hset h B x' (Zone.le_refl h) hB dx'y, Hp.apart_add.2 ⟨dh, d2⟩, old d1 hb, Hp.add_le hx' (old (Hp.apart_comm dxy) hy)⟩,
    e1.trans s.os, e2.trans s.tape, e3.trans s.output⟩

/-- A draw turns nothing. -/
theorem St.of_heap (s : St h L w) {w' : World} (e0 : w'.heap = w.heap) (e1 : w'.os = w.os) (e2 : w'.tape = w.tape) (e3 : w'.output = w.output) : St h L w' := by
  obtain ⟨z, hz, hd, hb, hzw⟩ := s.sep
  exact ⟨⟨z, hz, hd, by rw [e0]; exact hb, by rw [e0]; exact hzw⟩, e1.trans s.os, e2.trans s.tape, e3.trans s.output⟩
theorem St.drew (s : St h L w) : St h L w.drew := s.of_heap rfl rfl rfl rfl

/-- A new block. -/
theorem St.new (s : St h L w) (A : Atom) (o : Obj) (hA : A.P h (Hp.one w.heap.size o)) : St h (A :: L) (w.alloc o) := by
  obtain ⟨z, hz, hd, hb, hzw⟩ := s.sep
  have old : ∀ {u : Hp}, u.le (fun b => w.heap[b]?) → u.le (fun b => (w.alloc o).heap[b]?) ∧ u w.heap.size = none := fun {u} hu => by
    refine ⟨fun b v hub => ?_, ?_⟩
    · have h1 := hu b v hub
      have hlt : b < w.heap.size := (Array.getElem?_eq_some_iff.1 h1).1
      exact (Go.RowKit.Below.heap_alloc w o b hlt).trans h1
    · cases hub : u w.heap.size with
      | none => rfl
      | some v => have h1 := hu _ v hub; simp at h1
  have hz' := old hzw
  have hb' := old hb
  have dn : (Hp.one w.heap.size o).apart z := Hp.one_apart.2 hz'.2
  refine ⟨⟨(Hp.one w.heap.size o).add z, ⟨_, z, hA, hz, dn, rfl⟩, Hp.apart_add.2 ⟨Hp.apart_comm (Hp.one_apart.2 hb'.2), hd⟩, hb'.1, Hp.add_le (Hp.one_le.2 (heap_alloc_new w o)) hz'.1⟩, s.os, s.tape, s.output⟩

/-- An atom is let go. -/
theorem St.dropAt (s : St h L w) {i : Nat} {A : Atom} (hi : L[i]? = some A) : St h (L.set i emp) w := by
  obtain ⟨x, hx, hxw, dx, k⟩ := s.focus hi
  exact k w emp Hp.nil rfl (Hp.nil_le _) (fun _ _ _ => rfl) (fun b o e => by simp [Hp.nil] at e) rfl rfl rfl

theorem Sep.tail {A : Atom} {z : Hp} (hz : Sep h (A :: L) z) : ∃ y, Sep h L y ∧ y.le z := by
  obtain ⟨x, y, _, hy, d, e⟩ := hz
  exact ⟨y, hy, e ▸ Hp.le_add_right d⟩

theorem Hp.apart_of_le {x y z : Hp} (d : x.apart z) (k : y.le z) : x.apart y := fun b => by
  rcases d b with e | e
  · exact .inl e
  · right
    cases hy : y b with
    | none => rfl
    | some o => have h1 := k _ _ hy; rw [e] at h1; cases h1

theorem St.tail {A : Atom} (s : St h (A :: L) w) : St h L w := by
  obtain ⟨z, hz, hd, hb, hzw⟩ := s.sep
  obtain ⟨y, hy, hle⟩ := hz.tail
  exact ⟨⟨y, hy, Hp.apart_of_le hd hle, hb, Hp.le_trans hle hzw⟩, s.os, s.tape, s.output⟩

theorem St.drop : ∀ (n : Nat) {L : List Atom}, St h L w → St h (L.drop n) w
  | 0, _, s => by simpa using s
  | _ + 1, [], s => by simpa using s
  | n + 1, _ :: _, s => by simpa using St.drop n s.tail

/-- **An atom becomes immutable**: the zone grows by its footprint. -/
theorem St.freeze (s : St h L w) {i : Nat} {A : Atom} (hi : L[i]? = some A) :
    ∃ h' x, h.le h' ∧ A.P h' x ∧ x.le h'.blk ∧ St h' (L.set i emp) w := by
  obtain ⟨z, hz, hd, hb, hzw⟩ := s.sep
  obtain ⟨x, y, hx, dxy, e, hset⟩ := hz.focus hi
  subst e
  have ⟨d1, d2⟩ := Hp.apart_add.1 hd
  have hx' : x.le (fun b => w.heap[b]?) := Hp.le_trans (Hp.le_add_left _ _) hzw
  have hy' : y.le (fun b => w.heap[b]?) := Hp.le_trans (Hp.le_add_right dxy) hzw
  let h' : Zone := ⟨h.blk.add x, h.os, h.tape, h.output⟩
  have hle : h.le h' := ⟨Hp.le_add_left _ _, rfl, rfl, rfl⟩
  refine ⟨h', x, hle, A.mono _ _ _ hle hx, Hp.le_add_right d1, ⟨⟨y, ?_, ?_, Hp.add_le hb hx', hy'⟩, s.os, s.tape, s.output⟩⟩
  · have := hset h' emp Hp.nil hle rfl (Hp.apart_comm (Hp.apart_nil _))
    rwa [Hp.nil_add] at this
  · exact Hp.add_apart.2 ⟨d2, dxy⟩

/-- The zone may be made smaller only by weakening; an equal state under a permutation of its atoms. -/
theorem Sep.perm {L M : List Atom} (p : L.Perm M) : ∀ {z : Hp}, Sep h L z → Sep h M z := by
  induction p with
  | nil => exact fun e => e
  | cons A _ ih => rintro z ⟨x, y, hx, hy, d, e⟩; exact ⟨x, y, hx, ih hy, d, e⟩
  | swap A B L =>
    rintro z ⟨x, _, hx, ⟨u, v, hu, hv, duv, rfl⟩, d, e⟩
    have ⟨d1, d2⟩ := Hp.apart_add.1 d
    refine ⟨u, x.add v, hu, ⟨x, v, hx, hv, d2, rfl⟩, Hp.apart_add.2 ⟨Hp.apart_comm d1, duv⟩, ?_⟩
    rw [e, ← Hp.add_assoc, Hp.add_comm d1, Hp.add_assoc]
  | trans _ _ ih1 ih2 => exact fun e => ih2 (ih1 e)

theorem St.perm (s : St h L w) {M : List Atom} (p : L.Perm M) : St h M w := by
  obtain ⟨z, hz, hd, hb, hzw⟩ := s.sep
  exact ⟨⟨z, hz.perm p, hd, hb, hzw⟩, s.os, s.tape, s.output⟩

/-- The whole world immutable: where a call begins. -/
def Zone.all (w : World) : Zone := ⟨fun b => w.heap[b]?, w.os, w.tape, w.output⟩
theorem St.all (w : World) : St (Zone.all w) [] w := ⟨⟨Hp.nil, rfl, Hp.apart_nil _, Hp.le_refl _, Hp.nil_le _⟩, rfl, rfl, rfl⟩

open Go.RowKit in
/-- ... and where it ends: what was there is as it was. -/
theorem St.below {w0 : World} {h' : Zone} (k : (Zone.all w0).le h') (s : St h' L w) (hsz : w0.heap.size ≤ w.heap.size) : Below w0.heap.size w0 w := by
  obtain ⟨z, hz, hd, hb, hzw⟩ := s.sep
  refine ⟨s.os.trans k.os, s.tape.trans k.tape, s.output.trans k.output, hsz, fun b hlt => ?_⟩
  have h1 : w0.heap[b]? = some w0.heap[b] := Array.getElem?_eq_getElem hlt
  rw [h1]
  exact hb _ _ (k.blk _ _ h1)

theorem St.size {w0 : World} {h' : Zone} (k : (Zone.all w0).le h') (s : St h' L w) : w0.heap.size ≤ w.heap.size := by
  obtain ⟨z, hz, hd, hb, hzw⟩ := s.sep
  rcases Nat.eq_zero_or_pos w0.heap.size with e | e
  · omega
  · have hlt : w0.heap.size - 1 < w0.heap.size := by omega
    have h1 : w0.heap[w0.heap.size - 1]? = some w0.heap[w0.heap.size - 1] := Array.getElem?_eq_getElem hlt
    have h2 := hb _ _ (k.blk _ _ h1)
    have h3 : w0.heap.size - 1 < w.heap.size := (Array.getElem?_eq_some_iff.1 h2).1
    omega
end Go.Sl
