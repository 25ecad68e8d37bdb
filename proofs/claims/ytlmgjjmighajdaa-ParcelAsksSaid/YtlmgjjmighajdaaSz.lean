/-
  What cells read as: types of data, slices that are shared, slices that are owned; append, make, stores into elements. Program-independent. No condition.
-/
import Derived.Test.YtlmgjjmighajdaaSy
namespace Go.Sx
open Go.Sl

/-- A type of data: how its cells read. -/
structure Ty (α : Type) where
  size : Nat
  rep : Zone → List Value → α → Prop
  len : ∀ {h cs x}, rep h cs x → cs.length = size
  one : ∀ {h cs x}, rep h cs x → ∀ v ∈ cs, v.oneCell' = true
  mono : ∀ {h h' cs x}, h.le h' → rep h cs x → rep h' cs x

/-- Cells in a row that read as a list. -/
def Rows {α : Type} (T : Ty α) (h : Zone) : List Value → List α → Prop
  | cs, [] => cs = []
  | cs, x :: xs => ∃ c d, cs = c ++ d ∧ T.rep h c x ∧ Rows T h d xs

variable {α : Type} {T : Ty α} {h h' : Zone} {L : List Atom} {w : World}

theorem Rows.mono (k : h.le h') : ∀ {xs : List α} {cs : List Value}, Rows T h cs xs → Rows T h' cs xs
  | [], _, e => e
  | _ :: _, _, ⟨c, d, e, hc, hd⟩ => ⟨c, d, e, T.mono k hc, Rows.mono k hd⟩
theorem Rows.len : ∀ {xs : List α} {cs : List Value}, Rows T h cs xs → cs.length = xs.length * T.size
  | [], _, e => by simp only [Rows] at e; subst e; simp
  | x :: xs, _, ⟨c, d, e, hc, hd⟩ => by
    subst e
    rw [List.length_append, T.len hc, Rows.len hd, List.length_cons, Nat.add_mul, Nat.one_mul, Nat.add_comm]
theorem Rows.one : ∀ {xs : List α} {cs : List Value}, Rows T h cs xs → ∀ v ∈ cs, v.oneCell' = true
  | [], _, e, v, hv => by simp only [Rows] at e; subst e; cases hv
  | x :: xs, _, ⟨c, d, e, hc, hd⟩, v, hv => by
    subst e
    rcases List.mem_append.1 hv with hv | hv
    · exact T.one hc v hv
    · exact Rows.one hd v hv
theorem Rows.append : ∀ {xs ys : List α} {cs ds : List Value}, Rows T h cs xs → Rows T h ds ys → Rows T h (cs ++ ds) (xs ++ ys)
  | [], _, _, _, e, k => by simp only [Rows] at e; subst e; exact k
  | x :: xs, ys, _, ds, ⟨c, d, e, hc, hd⟩, k => by subst e; exact ⟨c, d ++ ds, List.append_assoc _ _ _, hc, Rows.append hd k⟩
theorem Rows.single {c : List Value} {x : α} (hc : T.rep h c x) : Rows T h c [x] := ⟨c, [], by simp, hc, rfl⟩
theorem Rows.cons {c d : List Value} {x : α} {xs : List α} (hc : T.rep h c x) (hd : Rows T h d xs) : Rows T h (c ++ d) (x :: xs) := ⟨c, d, rfl, hc, hd⟩
theorem Rows.get : ∀ {xs : List α} {cs : List Value} {i : Nat} {x : α}, Rows T h cs xs → xs[i]? = some x →
    ∃ c, T.rep h c x ∧ ∀ j v, c[j]? = some v → cs[i * T.size + j]? = some v
  | x :: xs, _, 0, y, ⟨c, d, e, hc, hd⟩, hi => by
    simp only [List.getElem?_cons_zero, Option.some.injEq] at hi
    subst hi; subst e
    refine ⟨c, hc, fun j v hj => ?_⟩
    have hlt : j < c.length := (List.getElem?_eq_some_iff.1 hj).1
    rw [Nat.zero_mul, Nat.zero_add, List.getElem?_append_left hlt]
    exact hj
  | x :: xs, _, i + 1, y, ⟨c, d, e, hc, hd⟩, hi => by
    simp only [List.getElem?_cons_succ] at hi
    obtain ⟨c', hc', hg⟩ := Rows.get hd hi
    subst e
    refine ⟨c', hc', fun j v hj => ?_⟩
    have hl := T.len hc
    rw [List.getElem?_append_right (by rw [hl, Nat.add_mul]; omega), hl]
    have : (i + 1) * T.size + j - T.size = i * T.size + j := by rw [Nat.add_mul]; omega
    rw [this]
    exact hg j v hj
theorem Rows.take : ∀ {xs : List α} {cs : List Value} (n : Nat), Rows T h cs xs → n ≤ xs.length → Rows T h (cs.take (n * T.size)) (xs.take n)
  | xs, cs, 0, _, _ => by simp [Rows]
  | [], _, n + 1, _, hn => by simp at hn
  | x :: xs, _, n + 1, ⟨c, d, e, hc, hd⟩, hn => by
    subst e
    refine ⟨c, d.take (n * T.size), ?_, hc, Rows.take n hd (by simpa using hn)⟩
    have hl := T.len hc
    rw [List.take_append, hl, Nat.add_mul, Nat.one_mul, List.take_of_length_le (by omega)]
    congr 2
    omega
theorem Rows.drop : ∀ {xs : List α} {cs : List Value} (n : Nat), Rows T h cs xs → n ≤ xs.length → Rows T h (cs.drop (n * T.size)) (xs.drop n)
  | xs, cs, 0, k, _ => by simpa using k
  | [], _, n + 1, _, hn => by simp at hn
  | x :: xs, _, n + 1, ⟨c, d, e, hc, hd⟩, hn => by
    subst e
    have hl := T.len hc
    have h1 := Rows.drop n hd (by simpa using hn)
    rw [List.drop_append, hl, Nat.add_mul, Nat.one_mul, List.drop_of_length_le (by omega), List.nil_append, List.drop_succ_cons]
    have : n * T.size + T.size - T.size = n * T.size := by omega
    rw [this]
    exact h1
/-- One element is replaced. -/
theorem Rows.set {xs : List α} {cs : List Value} {i : Nat} {x : α} (k : Rows T h cs xs) (hi : i < xs.length) {off : Nat} {vs : List Value}
    (hx : ∀ c, T.rep h c xs[i] → T.rep h (splice c off vs) x) (hoff : off + vs.length ≤ T.size) : Rows T h (splice cs (i * T.size + off) vs) (xs.set i x) := by
  have e : cs = cs.take (i * T.size) ++ (cs.drop (i * T.size)).take T.size ++ cs.drop ((i + 1) * T.size) := by
    rw [List.append_assoc, Nat.add_mul, Nat.one_mul, ← List.drop_drop, List.take_append_drop, List.take_append_drop]
  have h1 := k.take i (by omega)
  have h3 := k.drop (i + 1) (by omega)
  have h2 : T.rep h ((cs.drop (i * T.size)).take T.size) xs[i] := by
    have h4 := k.drop i (by omega)
    rw [List.drop_eq_getElem_cons hi] at h4
    obtain ⟨c, d, e, hc, _⟩ := h4
    rw [e, ← T.len hc, List.take_left]
    exact hc
  have hlen := k.len
  have l1 : (cs.take (i * T.size)).length = i * T.size := by
    rw [List.length_take, hlen]
    exact Nat.min_eq_left (Nat.mul_le_mul_right _ (by omega))
  have l2 := T.len h2
  have h2' := hx _ h2
  have : splice cs (i * T.size + off) vs = cs.take (i * T.size) ++ splice ((cs.drop (i * T.size)).take T.size) off vs ++ cs.drop ((i + 1) * T.size) := by
    unfold splice
    conv => lhs; rw [e]
    generalize cs.take (i * T.size) = A at *
    generalize (cs.drop (i * T.size)).take T.size = B at *
    generalize cs.drop ((i + 1) * T.size) = D at *
    have t1 : (A ++ B ++ D).take (i * T.size + off) = A ++ B.take off := by
      rw [List.append_assoc, List.take_append, l1, List.take_of_length_le (by omega), List.take_append]
      have e0 : i * T.size + off - i * T.size = off := by omega
      rw [e0, l2]
      have e1 : off - T.size = 0 := by omega
      rw [e1, List.take_zero, List.append_nil]
    have t2 : (A ++ B ++ D).drop (i * T.size + off + vs.length) = B.drop (off + vs.length) ++ D := by
      rw [List.append_assoc, List.drop_append, l1, List.drop_of_length_le (by omega), List.nil_append, List.drop_append, l2]
      have e0 : i * T.size + off + vs.length - i * T.size = off + vs.length := by omega
      rw [e0]
      have e1 : off + vs.length - T.size = 0 := by omega
      rw [e1, List.drop_zero]
    rw [t1, t2]
    simp only [List.append_assoc]
  rw [this, List.set_eq_take_append_cons_drop, if_pos hi]
  rw [List.append_assoc]
  exact h1.append (Rows.cons h2' h3)

/-! ### Slices that are shared -/
theorem add_add (a : Addr) (m n : Nat) : (a.add m).add n = a.add (m + n) := by
  unfold Addr.add
  by_cases hm : m = 0
  · subst hm; simp
  · by_cases hn : n = 0
    · subst hn; simp [hm]
    · have : m + n ≠ 0 := by omega
      simp [hm, hn, Nat.add_assoc]
theorem add_zero' (a : Addr) : a.add 0 = a := by simp [Addr.add]

/-- A slice's data in the immutable zone. -/
structure SliceR {α : Type} (T : Ty α) (h : Zone) (o : Option Addr) (cap : Nat) (xs : List α) : Prop where
  hcap : xs.length ≤ cap
  hmax : cap ≤ maxLen
  hnil : o = none → xs = [] ∧ cap = 0
  hat : ∀ a, o = some a → ∀ i x, xs[i]? = some x → ∃ c, T.rep h c x ∧ ∀ j v, c[j]? = some v → h.cell? ((a.add (i * T.size)).add j) = some v

theorem SliceR.mono (k : h.le h') {o : Option Addr} {cap : Nat} {xs : List α} (s : SliceR T h o cap xs) : SliceR T h' o cap xs :=
  ⟨s.hcap, s.hmax, s.hnil, fun a e i x hx => let ⟨c, hc, hj⟩ := s.hat a e i x hx; ⟨c, T.mono k hc, fun j v e => k.cell (hj j v e)⟩⟩

/-- Go's index of a list. -/
def getI {α : Type} (xs : List α) (i : Int) : Option α := if 0 ≤ i then xs[i.toNat]? else none

theorem getI_spec {xs : List α} {i : Int} {x : α} (e : getI xs i = some x) : (0 ≤ i ∧ i < xs.length) ∧ xs[i.toNat]? = some x := by
  unfold getI at e
  split at e
  · rename_i h0
    have := (List.getElem?_eq_some_iff.1 e).1
    exact ⟨⟨h0, by omega⟩, e⟩
  · cases e
theorem getI_of {xs : List α} {i : Nat} (hi : i < xs.length) : getI xs (i : Int) = some xs[i] := by simp [getI, hi]

/-- An index of a shared slice. -/
theorem SliceR.getI {o : Option Addr} {cap : Nat} {xs : List α} {i : Int} {x : α} (s : SliceR T h o cap xs) (e : Sx.getI xs i = some x) :
    ∃ a, o = some a ∧ (0 ≤ i ∧ i < xs.length) ∧ ∃ c, T.rep h c x ∧ ∀ j v, c[j]? = some v → h.cell? ((a.add (i.toNat * T.size)).add j) = some v := by
  obtain ⟨hb, hx⟩ := getI_spec e
  cases o with
  | none =>
    obtain ⟨rfl, _⟩ := s.hnil rfl
    simp at hx
  | some a => exact ⟨a, rfl, hb, s.hat a rfl _ _ hx⟩
theorem SliceR.getS {a : Addr} {cap : Nat} {xs : List α} {i : Int} {x : α} (s : SliceR T h (some a) cap xs) (e : Sx.getI xs i = some x) :
    (0 ≤ i ∧ i < xs.length) ∧ ∃ c, T.rep h c x ∧ ∀ j v, c[j]? = some v → h.cell? ((a.add (i.toNat * T.size)).add j) = some v := by
  obtain ⟨hb, hx⟩ := getI_spec e
  exact ⟨hb, s.hat a rfl _ _ hx⟩

theorem SliceR.nil' (T : Ty α) (h : Zone) : SliceR T h none 0 [] := ⟨by simp, by simp, fun _ => ⟨rfl, rfl⟩, fun a e => by cases e⟩

/-- Go's slice expression of a list (within its length). -/
def subI {α : Type} (xs : List α) (lo hi : Int) : Option (List α) := if 0 ≤ lo ∧ lo ≤ hi ∧ hi ≤ xs.length then some ((xs.take hi.toNat).drop lo.toNat) else none
theorem subI_spec {xs ys : List α} {lo hi : Int} (e : subI xs lo hi = some ys) : (0 ≤ lo ∧ lo ≤ hi ∧ hi ≤ xs.length) ∧ ys = (xs.take hi.toNat).drop lo.toNat := by
  unfold subI at e
  split at e
  · rename_i hc; simp only [Option.some.injEq] at e; exact ⟨hc, e.symm⟩
  · cases e
theorem subI_len {xs ys : List α} {lo hi : Int} (e : subI xs lo hi = some ys) : ys.length = hi.toNat - lo.toNat := by
  obtain ⟨hc, rfl⟩ := subI_spec e
  simp only [List.length_drop, List.length_take]
  omega

theorem SliceR.sub {o : Option Addr} {cap : Nat} {xs ys : List α} {lo hi : Int} (s : SliceR T h o cap xs) (e : subI xs lo hi = some ys) : SliceR T h (subO o cap lo.toNat T.size) (cap - lo.toNat) ys := by
  obtain ⟨⟨h0, h1, h2⟩, hy⟩ := subI_spec e
  have hl := subI_len e
  have hcap := s.hcap
  refine ⟨by omega, by have := s.hmax; omega, fun hn => ?_, fun a ha i x hx => ?_⟩
  · unfold subO at hn
    have ho : o = none := by
      split at hn
      · exact hn
      · simpa using hn
    obtain ⟨rfl, rfl⟩ := s.hnil ho
    simp at h2
    have : ys.length = 0 := by rw [hl]; omega
    exact ⟨List.eq_nil_of_length_eq_zero this, by omega⟩
  · have hx' : xs[lo.toNat + i]? = some x := by
      rw [hy, List.getElem?_drop, List.getElem?_take] at hx
      split at hx
      · exact hx
      · cases hx
    have hlt : lo.toNat + i < xs.length := (List.getElem?_eq_some_iff.1 hx').1
    have hne : cap ≠ lo.toNat := by omega
    unfold subO at ha
    rw [if_neg hne] at ha
    cases o with
    | none => cases ha
    | some b =>
      simp only [Option.map_some, Option.some.injEq] at ha
      subst ha
      obtain ⟨c, hc, hj⟩ := s.hat b rfl _ _ hx'
      refine ⟨c, hc, fun j v e => ?_⟩
      have := hj j v e
      rw [Nat.add_mul, ← add_add] at this
      exact this

/-- A slice expression of a shared slice, its value under names of its own. -/
theorem SliceR.subV {o : Option Addr} {cap : Nat} {xs ys : List α} {lo hi : Int} (s : SliceR T h o cap xs) (e : subI xs lo hi = some ys) :
    ∃ o' c', (Value.slice o' ys.length c' = .slice (subO o cap lo.toNat T.size) (hi.toNat - lo.toNat) (cap - lo.toNat)) ∧ (0 ≤ lo ∧ lo ≤ hi ∧ hi ≤ (cap : Int) ∧ xs.length ≤ cap) ∧ SliceR T h o' c' ys := by
  have hs := s.sub e
  obtain ⟨⟨h0, h1, h2⟩, _⟩ := subI_spec e
  have hl := subI_len e
  have hcap := s.hcap
  exact ⟨_, _, by rw [hl], ⟨h0, h1, by omega, hcap⟩, hs⟩

theorem subO_zero (o : Option Addr) (cap size : Nat) : subO o cap 0 size = o := by
  unfold subO
  split
  · rfl
  · cases o <;> simp [add_zero']

/-! ### Types -/
def Ty.int : Ty Int := ⟨1, fun _ cs n => cs = [.int .i64 n], fun e => by subst e; rfl, fun e v hv => by subst e; simp at hv; subst hv; rfl, fun _ e => e⟩
def Ty.bool : Ty Bool := ⟨1, fun _ cs b => cs = [.bool b], fun e => by subst e; rfl, fun e v hv => by subst e; simp at hv; subst hv; rfl, fun _ e => e⟩
def Ty.str : Ty ByteArray := ⟨1, fun _ cs s => cs = [.string s], fun e => by subst e; rfl, fun e v hv => by subst e; simp at hv; subst hv; rfl, fun _ e => e⟩
/-- A type whose cells are a function of the data: integers, bools, strings. -/
def Ty.flat (n : Nat) (f : α → List Value) (hn : ∀ x, (f x).length = n) (h1 : ∀ x, oneCells (f x) = true) : Ty α :=
  ⟨n, fun _ cs x => cs = f x, fun e => by subst e; exact hn _, fun e v hv => by subst e; exact oneCells_spec (h1 _) v hv, fun _ e => e⟩
def Ty.slice (T : Ty α) : Ty (List α) :=
  ⟨1, fun h cs xs => ∃ o cap, cs = [.slice o xs.length cap] ∧ SliceR T h o cap xs, fun ⟨_, _, e, _⟩ => by subst e; rfl,
    fun ⟨_, _, e, _⟩ v hv => by subst e; simp at hv; subst hv; rfl, fun k ⟨o, cap, e, s⟩ => ⟨o, cap, e, s.mono k⟩⟩
/-- An array in place. -/
def Ty.arr (n : Nat) (T : Ty α) : Ty (List α) :=
  ⟨n * T.size, fun h cs xs => xs.length = n ∧ Rows T h cs xs, fun ⟨hl, k⟩ => by rw [k.len, hl], fun ⟨_, k⟩ => k.one, fun k ⟨hl, e⟩ => ⟨hl, e.mono k⟩⟩
/-- A struct of two parts. -/
def Ty.pair {β : Type} (T : Ty α) (U : Ty β) : Ty (α × β) :=
  ⟨T.size + U.size, fun h cs x => ∃ c d, cs = c ++ d ∧ T.rep h c x.1 ∧ U.rep h d x.2, fun ⟨c, d, e, hc, hd⟩ => by subst e; rw [List.length_append, T.len hc, U.len hd],
    fun ⟨c, d, e, hc, hd⟩ v hv => by subst e; rcases List.mem_append.1 hv with hv | hv; exact T.one hc v hv; exact U.one hd v hv,
    fun k ⟨c, d, e, hc, hd⟩ => ⟨c, d, e, T.mono k hc, U.mono k hd⟩⟩

/-! ### Slices that are owned -/
def OwnP {α : Type} (T : Ty α) (E : TypeId) (o : Option Addr) (cap : Nat) (xs : List α) (h : Zone) (z : Hp) : Prop :=
  (o = none ∧ cap = 0 ∧ xs = [] ∧ z = Hp.nil) ∨
  ∃ g cur, o = some ⟨g, 0, none⟩ ∧ z = Hp.one g (.cells cur E (0, 0)) ∧ xs.length ≤ cap ∧ cap ≤ maxLen ∧ cur.size = cap * T.size ∧ Rows T h (cur.toList.take (xs.length * T.size)) xs
def ownS {α : Type} (T : Ty α) (E : TypeId) (o : Option Addr) (cap : Nat) (xs : List α) : Atom :=
  ⟨OwnP T E o cap xs, fun _ _ _ k e => e.imp id fun ⟨g, cur, e1, e2, e3, e4, e5, e6⟩ => ⟨g, cur, e1, e2, e3, e4, e5, e6.mono k⟩⟩

variable {E : TypeId} {o : Option Addr} {cap : Nat} {xs : List α}

theorem _root_.Go.Sl.St.ownNil (s : St h L w) (T : Ty α) (E : TypeId) : St h (ownS T E none 0 [] :: L) w := by
  obtain ⟨z, hz, hd, hb, hzw⟩ := s.sep
  exact ⟨⟨z, ⟨Hp.nil, z, .inl ⟨rfl, rfl, rfl, rfl⟩, hz, Hp.apart_comm (Hp.apart_nil _), rfl⟩, hd, hb, hzw⟩, s.os, s.tape, s.output⟩

/-- An atom is read otherwise. -/
theorem _root_.Go.Sl.St.conv (s : St h L w) {i : Nat} {A B : Atom} (hi : L[i]? = some A) (k : ∀ z, A.P h z → B.P h z) : St h (L.set i B) w := by
  obtain ⟨z, hz, hd, hb, hzw⟩ := s.sep
  obtain ⟨x, y, hx, dxy, e, hset⟩ := hz.focus hi
  subst e
  exact ⟨⟨_, hset h B x (Zone.le_refl h) (k x hx) dxy, hd, hb, hzw⟩, s.os, s.tape, s.output⟩

/-- A row that was built is an owned slice. -/
theorem _root_.Go.Sl.St.ownBox (s : St h L w) {i b : Nat} {cs : List Value} {n : Nat} (hi : L[i]? = some (box b cs E)) (hr : Rows T h cs xs) (hn : xs.length = n) (hmax : n ≤ maxLen) :
    St h (L.set i (ownS T E (some ⟨b, 0, none⟩) n xs)) w := by
  subst hn
  refine s.conv hi fun z hz => .inr ⟨b, cs.toArray, rfl, hz, Nat.le_refl _, hmax, by simp [hr.len], ?_⟩
  have := hr.len
  show Rows T h (cs.take (xs.length * T.size)) xs
  rw [← this, List.take_length]
  exact hr

theorem OwnP.read {z : Hp} (k : OwnP T E o cap xs h z) (hz : z.le (fun b => w.heap[b]?)) : (o = none → xs = [] ∧ cap = 0) ∧ xs.length ≤ cap ∧ cap ≤ maxLen ∧
    ∀ a, o = some a → ∃ cs, Rows T h cs xs ∧ ∀ j v, cs[j]? = some v → w.cell? (a.add j) = some v := by
  rcases k with ⟨rfl, rfl, rfl, rfl⟩ | ⟨g, cur, rfl, rfl, h1, h2, h3, h4⟩
  · exact ⟨fun _ => ⟨rfl, rfl⟩, by simp, by simp, fun a e => (by cases e)⟩
  · refine ⟨fun e => (by cases e), h1, h2, fun a e => ?_⟩
    cases e
    refine ⟨_, h4, fun j v hj => ?_⟩
    have hg : w.heap[g]? = some (.cells cur E (0, 0)) := Hp.one_le.1 hz
    rw [List.getElem?_take] at hj
    split at hj
    · have hadd : (⟨g, 0, none⟩ : Addr).add j = ⟨g, j, none⟩ := by unfold Addr.add; split <;> simp_all
      rw [hadd]
      simpa [World.cell?, hg] using hj
    · cases hj

/-- An index of an owned slice. -/
theorem _root_.Go.Sl.St.ownGet (s : St h L w) {j : Nat} (hj : L[j]? = some (ownS T E o cap xs)) {i : Int} {x : α} (e : Sx.getI xs i = some x) :
    ∃ a, o = some a ∧ (0 ≤ i ∧ i < xs.length) ∧ ∃ c, T.rep h c x ∧ ∀ k v, c[k]? = some v → w.cell? ((a.add (i.toNat * T.size)).add k) = some v := by
  obtain ⟨z, hz, hzw, _, _⟩ := s.focus hj
  obtain ⟨hnil, hcap, hmax, hat⟩ := OwnP.read hz hzw
  obtain ⟨hb, hx⟩ := getI_spec e
  cases o with
  | none => obtain ⟨rfl, _⟩ := hnil rfl; simp at hx
  | some a =>
    obtain ⟨cs, hr, hc⟩ := hat a rfl
    obtain ⟨c, hrep, hg⟩ := hr.get hx
    exact ⟨a, rfl, hb, c, hrep, fun k v hk => by rw [add_add]; exact hc _ _ (hg k v hk)⟩
theorem _root_.Go.Sl.St.ownNilOf (s : St h L w) {j : Nat} (hj : L[j]? = some (ownS T E o cap xs)) : (o = none → xs = [] ∧ cap = 0) ∧ xs.length ≤ cap ∧ cap ≤ maxLen := by
  obtain ⟨z, hz, hzw, _, _⟩ := s.focus hj
  obtain ⟨hnil, hcap, hmax, hat⟩ := OwnP.read hz hzw
  exact ⟨hnil, hcap, hmax⟩

/-- An owned slice becomes shared. -/
theorem _root_.Go.Sl.St.share (s : St h L w) {j : Nat} (hj : L[j]? = some (ownS T E o cap xs)) : ∃ h', h.le h' ∧ St h' (L.set j emp) w ∧ SliceR T h' o cap xs := by
  obtain ⟨h', x, hle, hx, hxb, hs⟩ := s.freeze hj
  refine ⟨h', hle, hs, ?_⟩
  have hx' : OwnP T E o cap xs h' x := hx
  rcases hx' with ⟨rfl, rfl, rfl, rfl⟩ | ⟨g, cur, rfl, rfl, h1, h2, h3, h4⟩
  · exact SliceR.nil' T h'
  · refine ⟨h1, h2, fun e => (by cases e), fun a e i y hy => ?_⟩
    cases e
    obtain ⟨c, hc, hg⟩ := h4.get hy
    refine ⟨c, hc, fun k v hk => ?_⟩
    have hblk : h'.blk g = some (.cells cur E (0, 0)) := Hp.one_le.1 hxb
    have := hg k v hk
    rw [List.getElem?_take] at this
    split at this
    · rw [add_add]
      have hadd : (⟨g, 0, none⟩ : Addr).add (i * T.size + k) = ⟨g, i * T.size + k, none⟩ := by unfold Addr.add; split <;> simp_all
      rw [hadd]
      simpa [Zone.cell?, hblk] using this
    · cases this

/-- The owned slice is cut at its end. -/
theorem _root_.Go.Sl.St.ownTake (s : St h L w) {j n : Nat} (hj : L[j]? = some (ownS T E o cap xs)) (hn : n ≤ xs.length) : St h (L.set j (ownS T E o cap (xs.take n))) w := by
  refine s.conv hj fun z hz => ?_
  rcases hz with ⟨rfl, rfl, rfl, rfl⟩ | ⟨g, cur, rfl, rfl, h1, h2, h3, h4⟩
  · exact .inl ⟨rfl, rfl, by simp, rfl⟩
  · have hl : (xs.take n).length = n := by rw [List.length_take]; omega
    refine .inr ⟨g, cur, rfl, rfl, by omega, h2, h3, ?_⟩
    have := h4.take n hn
    rw [List.take_take, Nat.min_eq_left (Nat.mul_le_mul_right _ hn)] at this
    rwa [hl]
/-- The head of an owned slice. -/
theorem _root_.Go.Sl.St.ownSub (s : St h L w) {j : Nat} (hj : L[j]? = some (ownS T E o cap xs)) {hi : Int} {ys : List α} (e : subI xs 0 hi = some ys) :
    (Value.slice o ys.length cap = .slice (subO o cap (Int.toNat 0) T.size) (hi.toNat - Int.toNat 0) (cap - Int.toNat 0)) ∧ (0 ≤ (0 : Int) ∧ 0 ≤ hi ∧ hi ≤ (cap : Int) ∧ xs.length ≤ cap) ∧ St h (L.set j (ownS T E o cap ys)) w := by
  obtain ⟨⟨h0, h1, h2⟩, hy⟩ := subI_spec e
  have hl := subI_len e
  obtain ⟨_, hc, _⟩ := s.ownNilOf hj
  refine ⟨by rw [hl]; simp [subO_zero], ⟨by omega, h1, by omega, hc⟩, ?_⟩
  have := s.ownTake hj (n := hi.toNat) (by omega)
  rw [hy]
  simpa using this
end Go.Sx
