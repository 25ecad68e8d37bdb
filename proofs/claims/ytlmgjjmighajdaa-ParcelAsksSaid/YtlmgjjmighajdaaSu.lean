/-
  Arrays of owned slices. Program-independent. No condition.
-/
import Derived.Test.YtlmgjjmighajdaaSv
set_option linter.unusedVariables false
namespace Go.Sx
open Go.Sl
variable {α : Type} {T : Ty α} {h h' : Zone} {L : List Atom} {w : World} {E : TypeId}

/-- An atom in two parts. -/
theorem _root_.Go.Sl.St.split (s : St h L w) {i : Nat} {A B C : Atom} (hi : L[i]? = some A) (k : ∀ z, A.P h z → ∃ x y, B.P h x ∧ C.P h y ∧ x.apart y ∧ z = x.add y) : St h (B :: L.set i C) w := by
  obtain ⟨z, hz, hd, hb, hzw⟩ := s.sep
  obtain ⟨u, v, hu, duv, e, hset⟩ := hz.focus hi
  obtain ⟨x, y, hx, hy, dxy, e'⟩ := k u hu
  subst e' e
  obtain ⟨d1, d2⟩ := Hp.add_apart.1 duv
  refine ⟨⟨x.add (y.add v), ⟨x, y.add v, hx, hset h C y (Zone.le_refl h) hy d2, Hp.apart_add.2 ⟨dxy, d1⟩, rfl⟩, ?_, hb, ?_⟩, s.os, s.tape, s.output⟩
  · rw [← Hp.add_assoc]; exact hd
  · rw [← Hp.add_assoc]; exact hzw
/-- Two atoms in one. -/
theorem _root_.Go.Sl.St.join (s : St h L w) {i j : Nat} {A B C : Atom} (hi : L[i]? = some A) (hj : L[j]? = some B) (hij : j ≠ i) (k : ∀ x y, A.P h x → B.P h y → x.apart y → C.P h (x.add y)) : St h ((L.set i C).set j emp) w := by
  obtain ⟨z, hz, hd, hb, hzw⟩ := s.sep
  obtain ⟨y, v, hy, dyv, e, hset⟩ := hz.focus hj
  have h1 := hset h emp Hp.nil (Zone.le_refl h) rfl (Hp.apart_comm (Hp.apart_nil _))
  rw [Hp.nil_add] at h1
  have hi' : (L.set j emp)[i]? = some A := by rw [List.getElem?_set_ne hij]; exact hi
  obtain ⟨x, u, hx, dxu, e', hset'⟩ := h1.focus hi'
  subst e' e
  obtain ⟨d1, d2⟩ := Hp.apart_add.1 dyv
  have h2 := hset' h C (x.add y) (Zone.le_refl h) (k x y hx hy (Hp.apart_comm d1)) (Hp.add_apart.2 ⟨dxu, d2⟩)
  rw [List.set_comm _ _ hij] at h2
  have ez : y.add (x.add u) = (x.add y).add u := by rw [← Hp.add_assoc, Hp.add_comm d1]
  rw [ez] at hd hzw
  exact ⟨⟨_, h2, hd, hb, hzw⟩, s.os, s.tape, s.output⟩

def ownL (T : Ty α) (E : TypeId) (os : List (Option Addr × Nat)) (D : List (List α)) : List Atom := List.zipWith (fun p d => ownS T E p.1 p.2 d) os D
def cellL (os : List (Option Addr × Nat)) (D : List (List α)) : List Value := List.zipWith (fun p d => Value.slice p.1 d.length p.2) os D
theorem Sep.monoL {L : List Atom} {z : Hp} (k : h.le h') (e : Sep h L z) : Sep h' L z := e.mono k
/-- Slices that stand in a row of cells, all owned. -/
def ownA (T : Ty α) (E : TypeId) (vs : List Value) (D : List (List α)) : Atom :=
  ⟨fun h z => ∃ os : List (Option Addr × Nat), os.length = D.length ∧ vs = cellL os D ∧ Sep h (ownL T E os D) z, fun _ _ _ k e => e.elim fun os e => ⟨os, e.1, e.2.1, e.2.2.mono k⟩⟩
/-- All but one of them. -/
def ownH (T : Ty α) (E : TypeId) (vs : List Value) (D : List (List α)) (n : Nat) : Atom :=
  ⟨fun h z => ∃ os : List (Option Addr × Nat), os.length = D.length ∧ vs = cellL os D ∧ Sep h ((ownL T E os D).set n emp) z, fun _ _ _ k e => e.elim fun os e => ⟨os, e.1, e.2.1, e.2.2.mono k⟩⟩

theorem ownL_get {os : List (Option Addr × Nat)} {D : List (List α)} {n : Nat} {p : Option Addr × Nat} {d : List α} (hp : os[n]? = some p) (hd : D[n]? = some d) : (ownL T E os D)[n]? = some (ownS T E p.1 p.2 d) := by
  unfold ownL; rw [List.getElem?_zipWith, hp, hd]
theorem cellL_get {os : List (Option Addr × Nat)} {D : List (List α)} {n : Nat} {p : Option Addr × Nat} {d : List α} (hp : os[n]? = some p) (hd : D[n]? = some d) : (cellL os D)[n]? = some (.slice p.1 d.length p.2) := by
  unfold cellL; rw [List.getElem?_zipWith, hp, hd]
theorem ownL_set : ∀ {os : List (Option Addr × Nat)} {D : List (List α)} {n : Nat} {p : Option Addr × Nat} {d : List α}, ownL T E (os.set n p) (D.set n d) = (ownL T E os D).set n (ownS T E p.1 p.2 d)
  | [], D, n, p, d => by simp [ownL]
  | _ :: _, [], n, p, d => by simp [ownL]
  | a :: os, b :: D, 0, p, d => by simp [ownL]
  | a :: os, b :: D, n + 1, p, d => by
    have := ownL_set (os := os) (D := D) (n := n) (p := p) (d := d)
    simpa [ownL] using this
theorem cellL_set : ∀ {os : List (Option Addr × Nat)} {D : List (List α)} {n : Nat} {p : Option Addr × Nat} {d : List α}, cellL (os.set n p) (D.set n d) = (cellL os D).set n (.slice p.1 d.length p.2)
  | [], D, n, p, d => by simp [cellL]
  | _ :: _, [], n, p, d => by simp [cellL]
  | a :: os, b :: D, 0, p, d => by simp [cellL]
  | a :: os, b :: D, n + 1, p, d => by
    have := cellL_set (os := os) (D := D) (n := n) (p := p) (d := d)
    simpa [cellL] using this
theorem ownA_len {vs : List Value} {D : List (List α)} {z : Hp} (k : (ownA T E vs D).P h z) : vs.length = D.length := by
  obtain ⟨os, e1, e2, _⟩ := k
  subst e2
  simp [cellL, e1]

theorem Sep.nils : ∀ n, Sep h (List.replicate n (ownS T E none 0 [])) Hp.nil
  | 0 => rfl
  | n + 1 => ⟨Hp.nil, Hp.nil, .inl ⟨rfl, rfl, rfl, rfl⟩, Sep.nils n, Hp.apart_nil _, rfl⟩
/-- An array of nil slices is owned. -/
theorem _root_.Go.Sl.St.ownNew (s : St h L w) (T : Ty α) (E : TypeId) (n : Nat) : St h (ownA T E (List.replicate n (.slice none 0 0)) (List.replicate n []) :: L) w := by
  obtain ⟨z, hz, hd, hb, hzw⟩ := s.sep
  refine ⟨⟨z, ⟨Hp.nil, z, ⟨List.replicate n (none, 0), by simp, by simp [cellL], ?_⟩, hz, Hp.apart_comm (Hp.apart_nil _), rfl⟩, hd, hb, hzw⟩, s.os, s.tape, s.output⟩
  have e : ownL T E (List.replicate n (none, 0)) (List.replicate n []) = List.replicate n (ownS T E none 0 []) := by simp [ownL]
  rw [e]
  exact Sep.nils n
/-- One of them is taken out. -/
theorem _root_.Go.Sl.St.ownOpen (s : St h L w) {j : Nat} {vs : List Value} {D : List (List α)} (hj : L[j]? = some (ownA T E vs D)) {i : Int} {d : List α} (e : getI D i = some d) :
    ∃ o cap, vs[i.toNat]? = some (.slice o d.length cap) ∧ (0 ≤ i ∧ i < vs.length) ∧ St h (ownS T E o cap d :: L.set j (ownH T E vs D i.toNat)) w := by
  obtain ⟨hb, hx⟩ := getI_spec e
  obtain ⟨z, hz, _, _, _⟩ := s.focus hj
  obtain ⟨os, e1, e2, e3⟩ := hz
  have hlt : i.toNat < os.length := by rw [e1]; exact (List.getElem?_eq_some_iff.1 hx).1
  have hlen : vs.length = D.length := by subst e2; simp [cellL, e1]
  refine ⟨os[i.toNat].1, os[i.toNat].2, by subst e2; exact cellL_get (List.getElem?_eq_getElem hlt) hx, ⟨hb.1, by rw [hlen]; exact hb.2⟩, s.split hj fun z' ⟨os', f1, f2, f3⟩ => ?_⟩
  have hlt' : i.toNat < os'.length := by rw [f1]; exact (List.getElem?_eq_some_iff.1 hx).1
  have hp : os'[i.toNat] = os[i.toNat] := by
    have c1 := cellL_get (List.getElem?_eq_getElem hlt) hx
    have c2 := cellL_get (List.getElem?_eq_getElem hlt') hx
    rw [← e2, f2, c2] at c1
    simp only [Option.some.injEq, Value.slice.injEq, true_and] at c1
    exact Prod.ext c1.1 c1.2
  obtain ⟨x, y, hx', dxy, ez, hset⟩ := f3.focus (ownL_get (List.getElem?_eq_getElem hlt') hx)
  rw [hp] at hx'
  refine ⟨x, y, hx', ⟨os', f1, f2, ?_⟩, dxy, ez⟩
  have := hset h emp Hp.nil (Zone.le_refl h) rfl (Hp.apart_comm (Hp.apart_nil _))
  rwa [Hp.nil_add] at this
/-- One is put in. -/
theorem _root_.Go.Sl.St.ownClose (s : St h L w) {j k : Nat} {vs : List Value} {D : List (List α)} {n : Nat} {o : Option Addr} {cap : Nat} {d : List α} (hj : L[j]? = some (ownH T E vs D n)) (hk : L[k]? = some (ownS T E o cap d)) (hjk : k ≠ j) (hn : n < D.length) :
    St h ((L.set j (ownA T E (vs.set n (.slice o d.length cap)) (D.set n d))).set k emp) w := by
  refine s.join hj hk hjk fun x y ⟨os, e1, e2, e3⟩ hy dxy => ⟨os.set n (o, cap), by simp [e1], by rw [cellL_set, e2], ?_⟩
  rw [ownL_set]
  have hnl : n < (ownL T E os D).length := by simp [ownL, e1]; exact hn
  have hg : ((ownL T E os D).set n emp)[n]? = some emp := by rw [List.getElem?_set_self hnl]
  obtain ⟨a, b, ha, dab, ez, hset⟩ := e3.focus hg
  have ha' : a = Hp.nil := ha
  subst ha'
  rw [Hp.nil_add] at ez
  subst ez
  have := hset h (ownS T E o cap d) y (Zone.le_refl h) hy (Hp.apart_comm dxy)
  rw [List.set_set] at this
  rw [Hp.add_comm dxy]
  exact this
theorem OwnP.shared {o : Option Addr} {cap : Nat} {xs : List α} {x : Hp} (hx : OwnP T E o cap xs h x) (hb : x.le h.blk) : SliceR T h o cap xs := by
  rcases hx with ⟨rfl, rfl, rfl, rfl⟩ | ⟨g, cur, rfl, rfl, h1, h2, h3, h4⟩
  · exact SliceR.nil' T h
  · refine ⟨h1, h2, fun e => (by cases e), fun a e i y hy => ?_⟩
    cases e
    obtain ⟨c, hc, hg⟩ := h4.get hy
    refine ⟨c, hc, fun k v hk => ?_⟩
    have hblk : h.blk g = some (.cells cur E (0, 0)) := Hp.one_le.1 hb
    have := hg k v hk
    rw [List.getElem?_take] at this
    split at this
    · rw [add_add]
      have hadd : (⟨g, 0, none⟩ : Addr).add (i * T.size + k) = ⟨g, i * T.size + k, none⟩ := by unfold Addr.add; split <;> simp_all
      rw [hadd]
      simpa [Zone.cell?, hblk] using this
    · cases this
theorem ownRows : ∀ {os : List (Option Addr × Nat)} {D : List (List α)} {x : Hp}, os.length = D.length → Sep h (ownL T E os D) x → x.le h.blk → Rows (Ty.slice T) h (cellL os D) D
  | [], [], _, _, _, _ => rfl
  | [], _ :: _, _, e, _, _ => by cases e
  | _ :: _, [], _, e, _, _ => by cases e
  | p :: os, d :: D, x, e, ⟨a, b, ha, hb, dab, ex⟩, hx => by
    subst ex
    have la : a.le h.blk := Hp.le_trans (Hp.le_add_left a b) hx
    have lb : b.le h.blk := Hp.le_trans (Hp.le_add_right dab) hx
    exact ⟨[.slice p.1 d.length p.2], cellL os D, rfl, ⟨p.1, p.2, rfl, OwnP.shared ha la⟩, ownRows (by simpa using e) hb lb⟩
/-- They become shared. -/
theorem _root_.Go.Sl.St.ownShareA (s : St h L w) {j : Nat} {vs : List Value} {D : List (List α)} (hj : L[j]? = some (ownA T E vs D)) :
    ∃ h', h.le h' ∧ St h' (L.set j emp) w ∧ (Ty.arr D.length (Ty.slice T)).rep h' vs D := by
  obtain ⟨h', x, hle, hx, hxb, hs⟩ := s.freeze hj
  obtain ⟨os, e1, e2, e3⟩ := hx
  exact ⟨h', hle, hs, rfl, by rw [e2]; exact ownRows e1 e3 hxb⟩
theorem cellL_ones : ∀ (os : List (Option Addr × Nat)) (D : List (List α)), oneCells (cellL os D) = true
  | [], _ => rfl
  | _ :: _, [] => rfl
  | _ :: os, _ :: D => cellL_ones os D
theorem _root_.Go.Sl.St.ownOnes (s : St h L w) {j : Nat} {vs : List Value} {D : List (List α)} (hj : L[j]? = some (ownA T E vs D)) : oneCells vs = true := by
  obtain ⟨z, ⟨os, _, e2, _⟩, _, _, _⟩ := s.focus hj
  rw [e2]
  exact cellL_ones os D
theorem set_same {β : Type} {l : List β} {n : Nat} {x : β} (e : l[n]? = some x) : l.set n x = l := by
  obtain ⟨hlt, rfl⟩ := List.getElem?_eq_some_iff.1 e
  exact List.set_getElem_self hlt
/-- What was taken out is put in again as it was. -/
theorem _root_.Go.Sl.St.ownClose' (s : St h L w) {j k : Nat} {vs : List Value} {D : List (List α)} {n : Nat} {o : Option Addr} {cap : Nat} {d : List α} (hj : L[j]? = some (ownH T E vs D n)) (hk : L[k]? = some (ownS T E o cap d)) (hjk : k ≠ j)
    (hv : vs[n]? = some (.slice o d.length cap)) (hd : D[n]? = some d) : St h ((L.set j (ownA T E vs D)).set k emp) w := by
  have hlt := (List.getElem?_eq_some_iff.1 hd)
  have hlv := (List.getElem?_eq_some_iff.1 hv)
  have := s.ownClose hj hk hjk hlt.1
  have e1 := set_same hv
  have e2 := set_same hd
  rwa [e1, e2] at this
theorem _root_.Go.Sl.St.ownShareN (s : St h L w) {j : Nat} {vs : List Value} {D : List (List α)} (hj : L[j]? = some (ownA T E vs D)) {n : Nat} (hn : vs.length = n) :
    ∃ h', h.le h' ∧ St h' (L.set j emp) w ∧ (Ty.arr n (Ty.slice T)).rep h' vs D := by
  obtain ⟨z, hz, _, _, _⟩ := s.focus hj
  have := ownA_len hz
  subst hn
  rw [this]
  exact s.ownShareA hj
theorem splice_mid (pre vs post : List Value) {n : Nat} (hn : n < vs.length) (v : Value) : splice (pre ++ vs ++ post) (pre.length + n) [v] = pre ++ vs.set n v ++ post := by
  unfold splice
  have e1 : (pre ++ vs ++ post).take (pre.length + n) = pre ++ vs.take n := by
    rw [List.append_assoc, List.take_append, List.take_of_length_le (by omega), Nat.add_sub_cancel_left, List.take_append_of_le_length (by omega)]
  have e2 : (pre ++ vs ++ post).drop (pre.length + n + [v].length) = vs.drop (n + 1) ++ post := by
    rw [List.append_assoc, List.drop_append, List.drop_of_length_le (by simp; omega), List.nil_append, show pre.length + n + [v].length - pre.length = n + 1 by simp; omega, List.drop_append_of_le_length (by omega)]
  rw [e1, e2, List.set_eq_take_append_cons_drop, if_pos hn]
  simp
section
variable {P : Program} {a : Act} {N : Nat} {fl : FL} {ds : List Nat} {R : Array Oper} {m : List Nat} {S : World → Prop} {K : Act → World → Prop} {pl : List (Nat × Bool)}
/-- A cell of an array in a box is written, its index a variable. -/
theorem p_storeA {i j : Nat} {b : Nat} {ix : Int} {pre vs post : List Value} {v : Value} {X : TypeId} (hS : St h L w) (hf : Fr a N fl ds) (hj : L[j]? = some (box b (pre ++ vs ++ post) X)) (hix : ix.toNat < vs.length)
    (ho : storeAt P R N pl fl = some (i, (⟨b, pre.length, none⟩ : Addr).add (ix.toNat * 1), [v])) (hone : oneCells [v] = true)
    (k : ∀ w' a', St h (L.set j (box b (pre ++ vs.set ix.toNat v ++ post) X)) w' → Fr a' N fl ds → (m.contains i = false → S w') ∧ wpPlan P R m S K pl.tail a' w') : wpPlan P R m S K pl a w := by
  rw [arrAddr] at ho
  refine p_store hS hf hj ho (by simp; omega) hone fun w' a' hS' hf' => ?_
  rw [splice_mid _ _ _ hix] at hS'
  exact k w' a' hS' hf'
end
theorem nine {vs : List Value} (e : vs.length = 9) : ∃ a0 a1 a2 a3 a4 a5 a6 a7 a8, vs = [a0, a1, a2, a3, a4, a5, a6, a7, a8] := by
  match vs, e with
  | [a0, a1, a2, a3, a4, a5, a6, a7, a8], _ => exact ⟨a0, a1, a2, a3, a4, a5, a6, a7, a8, rfl⟩
end Go.Sx
