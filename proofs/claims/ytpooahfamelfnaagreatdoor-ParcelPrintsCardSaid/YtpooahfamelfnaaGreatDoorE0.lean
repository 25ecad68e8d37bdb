/-
 A part of the walk and of the plain law of one given statement. No condition.
-/
import Derived.Test.YtpooahfamelfnaaGreatDoorDat
import Derived.Test.YtpooahfamelfnaaGreatDoorKl
import Derived.Test.YtpooahfamelfnaaGreatDoorProg
set_option linter.unusedVariables false
set_option linter.unusedSimpArgs false
namespace Go.Sx
open Go.Sl
section
variable {α : Type} {T : Ty α} {h h' : Zone} {L : List Atom} {w : World} {E : TypeId}
theorem _root_.Go.Sl.St.splitE (s : St h L w) {i : Nat} {A : Atom} (hi : L[i]? = some A) :
  ∃ x, A.P h x ∧ ∀ (B C : Atom) (x1 x2 : Hp), B.P h x1 → C.P h x2 → x1.apart x2 → x = x1.add x2 → St h (B :: L.set i C) w := by
 obtain ⟨z, hz, hd, hb, hzw⟩ := s.sep
 obtain ⟨u, v, hu, duv, e, hset⟩ := hz.focus hi
 subst e
 refine ⟨u, hu, fun B C x1 x2 h1 h2 d12 e' => ?_⟩
 subst e'
 obtain ⟨d1, d2⟩ := Hp.add_apart.1 duv
 refine ⟨⟨x1.add (x2.add v), ⟨x1, x2.add v, h1, hset h C x2 (Zone.le_refl h) h2 d2, Hp.apart_add.2 ⟨d12, d1⟩, rfl⟩, ?_, hb, ?_⟩, s.os, s.tape, s.output⟩
 ·rw [← Hp.add_assoc]; exact hd
 ·rw [← Hp.add_assoc]; exact hzw
def star (A B : Atom) : Atom := ⟨fun h z => ∃ x y, A.P h x ∧ B.P h y ∧ x.apart y ∧ z = x.add y, fun _ _ _ k ⟨x, y, hx, hy, d, e⟩ => ⟨x, y, A.mono _ _ _ k hx, B.mono _ _ _ k hy, d, e⟩⟩
structure Pl where
 lots : List Lot
 holds : List (List (List Part))
 may : List (List (List (Int × Bool)))
abbrev HeapT : Ty (List Part) := Ty.slice PartT
abbrev SetT : Ty (List (Int × Bool)) := Ty.map Value.bool
def plA (X E1 E2 : TypeId) (b : Nat) (P : Pl) : Atom :=
 ⟨fun h z => ∃ o c vs ms, SliceR LotT h o c P.lots ∧ vs.length = 9 ∧ ms.length = 9 ∧ (star (ownA SetT E2 ms P.may) (star (ownA HeapT E1 vs P.holds) (box b (.slice o P.lots.length c :: (vs ++ ms)) X))).P h z,
  fun _ _ _ k ⟨o, c, vs, ms, e1, e2, e3, e4⟩ => ⟨o, c, vs, ms, e1.mono k, e2, e3, (star _ _).mono _ _ _ k e4⟩⟩
theorem _root_.Go.Sl.St.plOpen (s : St h L w) {i : Nat} {X E1 E2 : TypeId} {b : Nat} {P : Pl} (hi : L[i]? = some (plA X E1 E2 b P)) :
  ∃ o c v0 v1 v2 v3 v4 v5 v6 v7 v8 m0 m1 m2 m3 m4 m5 m6 m7 m8, SliceR LotT h o c P.lots ∧
   St h (ownA HeapT E1 [v0, v1, v2, v3, v4, v5, v6, v7, v8] P.holds :: ownA SetT E2 [m0, m1, m2, m3, m4, m5, m6, m7, m8] P.may ::
    L.set i (box b [.slice o P.lots.length c, v0, v1, v2, v3, v4, v5, v6, v7, v8, m0, m1, m2, m3, m4, m5, m6, m7, m8] X)) w := by
 obtain ⟨x, ⟨o, c, vs, ms, e1, e2, e3, x1, x2, hx1, hx2, d12, e4⟩, hset⟩ := s.splitE hi
 obtain ⟨v0, v1, v2, v3, v4, v5, v6, v7, v8, rfl⟩ := nine e2
 obtain ⟨m0, m1, m2, m3, m4, m5, m6, m7, m8, rfl⟩ := nine e3
 have s1 := hset _ _ _ _ hx1 hx2 d12 e4
 have hlt : i < L.length := (List.getElem?_eq_some_iff.1 hi).1
 have hi1 : (ownA SetT E2 [m0, m1, m2, m3, m4, m5, m6, m7, m8] P.may :: L.set i (star (ownA HeapT E1 [v0, v1, v2, v3, v4, v5, v6, v7, v8] P.holds) (box b (.slice o P.lots.length c :: ([v0, v1, v2, v3, v4, v5, v6, v7, v8] ++ [m0, m1, m2, m3, m4, m5, m6, m7, m8])) X)))[i + 1]? = some (star (ownA HeapT E1 [v0, v1, v2, v3, v4, v5, v6, v7, v8] P.holds) (box b (.slice o P.lots.length c :: ([v0, v1, v2, v3, v4, v5, v6, v7, v8] ++ [m0, m1, m2, m3, m4, m5, m6, m7, m8])) X)) := by
  rw [List.getElem?_cons_succ, List.getElem?_set_self hlt]
 have s2 := s1.split hi1 fun z e => e
 rw [List.set_cons_succ, List.set_set] at s2
 exact ⟨o, c, v0, v1, v2, v3, v4, v5, v6, v7, v8, m0, m1, m2, m3, m4, m5, m6, m7, m8, e1, s2⟩
theorem _root_.Go.Sl.St.plClose (s : St h L w) {i j k : Nat} {X E1 E2 : TypeId} {b : Nat} {o : Option Addr} {c : Nat} {lots : List Lot} {holds : List (List (List Part))} {may : List (List (List (Int × Bool)))} {v0 v1 v2 v3 v4 v5 v6 v7 v8 m0 m1 m2 m3 m4 m5 m6 m7 m8 : Value}
  (hi : L[i]? = some (box b [.slice o lots.length c, v0, v1, v2, v3, v4, v5, v6, v7, v8, m0, m1, m2, m3, m4, m5, m6, m7, m8] X)) (hl : SliceR LotT h o c lots)
  (hj : L[j]? = some (ownA HeapT E1 [v0, v1, v2, v3, v4, v5, v6, v7, v8] holds)) (hk : L[k]? = some (ownA SetT E2 [m0, m1, m2, m3, m4, m5, m6, m7, m8] may)) (hji : j ≠ i) (hki : k ≠ i) (hkj : k ≠ j) :
  St h (((L.set i (plA X E1 E2 b ⟨lots, holds, may⟩)).set j emp).set k emp) w := by
 have s1 := s.join (C := star (ownA HeapT E1 [v0, v1, v2, v3, v4, v5, v6, v7, v8] holds) (box b [.slice o lots.length c, v0, v1, v2, v3, v4, v5, v6, v7, v8, m0, m1, m2, m3, m4, m5, m6, m7, m8] X)) hi hj hji
  fun x y hx hy d => ⟨y, x, hy, hx, Hp.apart_comm d, Hp.add_comm d⟩
 have hlt : i < L.length := (List.getElem?_eq_some_iff.1 hi).1
 have hi1 : ((L.set i (star (ownA HeapT E1 [v0, v1, v2, v3, v4, v5, v6, v7, v8] holds) (box b [.slice o lots.length c, v0, v1, v2, v3, v4, v5, v6, v7, v8, m0, m1, m2, m3, m4, m5, m6, m7, m8] X))).set j emp)[i]? = some (star (ownA HeapT E1 [v0, v1, v2, v3, v4, v5, v6, v7, v8] holds) (box b [.slice o lots.length c, v0, v1, v2, v3, v4, v5, v6, v7, v8, m0, m1, m2, m3, m4, m5, m6, m7, m8] X)) := by
  rw [List.getElem?_set_ne hji, List.getElem?_set_self hlt]
 have hk1 : ((L.set i (star (ownA HeapT E1 [v0, v1, v2, v3, v4, v5, v6, v7, v8] holds) (box b [.slice o lots.length c, v0, v1, v2, v3, v4, v5, v6, v7, v8, m0, m1, m2, m3, m4, m5, m6, m7, m8] X))).set j emp)[k]? = some (ownA SetT E2 [m0, m1, m2, m3, m4, m5, m6, m7, m8] may) := by
  rw [List.getElem?_set_ne (Ne.symm hkj), List.getElem?_set_ne (Ne.symm hki)]; exact hk
 have s2 := s1.join (C := plA X E1 E2 b ⟨lots, holds, may⟩) hi1 hk1 hki fun x y hx hy d => ⟨o, c, [v0, v1, v2, v3, v4, v5, v6, v7, v8], [m0, m1, m2, m3, m4, m5, m6, m7, m8], hl, rfl, rfl, y, x, hy, hx, Hp.apart_comm d, Hp.add_comm d⟩
 rw [List.set_comm _ _ hji, List.set_set] at s2
 exact s2
def plO (X E1 E2 : TypeId) (p : Option Addr) (x : Option Pl) : Atom :=
 ⟨fun h z => match x with | none => p = none ∧ z = Hp.nil | some P => ∃ b, p = some ⟨b, 0, none⟩ ∧ (plA X E1 E2 b P).P h z,
  fun _ _ _ k e => by
   cases x with
   | none => exact e
   | some P => obtain ⟨b, e1, e2⟩ := e; exact ⟨b, e1, (plA X E1 E2 b P).mono _ _ _ k e2⟩⟩
theorem _root_.Go.Sl.St.plNone (s : St h L w) (X E1 E2 : TypeId) : St h (plO X E1 E2 none none :: L) w := by
 obtain ⟨z, hz, hd, hb, hzw⟩ := s.sep
 exact ⟨⟨z, ⟨Hp.nil, z, ⟨rfl, rfl⟩, hz, Hp.apart_comm (Hp.apart_nil _), rfl⟩, hd, hb, hzw⟩, s.os, s.tape, s.output⟩
theorem _root_.Go.Sl.St.plSome (s : St h L w) {i : Nat} {X E1 E2 : TypeId} {b : Nat} {P : Pl} (hi : L[i]? = some (plA X E1 E2 b P)) : St h (L.set i (plO X E1 E2 (some ⟨b, 0, none⟩) (some P))) w :=
 s.conv hi fun z e => ⟨b, rfl, e⟩
theorem _root_.Go.Sl.St.plGet (s : St h L w) {i : Nat} {X E1 E2 : TypeId} {p : Option Addr} {P : Pl} (hi : L[i]? = some (plO X E1 E2 p (some P))) : ∃ b, p = some ⟨b, 0, none⟩ ∧ St h (L.set i (plA X E1 E2 b P)) w := by
 obtain ⟨x, ⟨b, e1, e2⟩, _, _, _⟩ := s.focus hi
 refine ⟨b, e1, s.conv hi fun z ⟨b', e1', e2'⟩ => ?_⟩
 rw [e1] at e1'
 simp only [zI, Addr.mk.injEq, and_true] at e1'
 rw [e1']; exact e2'
def rawA (y : Hp) : Atom := ⟨fun _ z => z = y, fun _ _ _ _ e => e⟩
theorem lend {P : Program} {f : FuncId} {args : Array Value} {v : Value} (s : St h L w) {j : Nat} {vs : List Value} {D : List (List α)} {n : Nat} (hj : L[j]? = some (ownA T E vs D)) (hn : vs.length = n)
  (k : ∀ h1 L1, h.le h1 → (Ty.arr n (Ty.slice T)).rep h1 vs D → St h1 L1 w → Calls P f args w fun e w' => ∃ u, e = .returned u ∧ ∃ h2, h1.le h2 ∧ u = v ∧ St h2 L1 w') :
  Calls P f args w fun e w' => ∃ u, e = .returned u ∧ ∃ h2, h.le h2 ∧ u = v ∧ St h2 L w' := by
 obtain ⟨z, hz, hd, hb, hzw⟩ := s.sep
 obtain ⟨x, y, hx, dxy, e, hset⟩ := hz.focus hj
 subst e
 obtain ⟨d1, d2⟩ := Hp.apart_add.1 hd
 let h1 : Zone := ⟨h.blk.add x, h.os, h.tape, h.output⟩
 have hle : h.le h1 := ⟨Hp.le_add_left _ _, rfl, rfl, rfl⟩
 have hxw : x.le (fun b => w.heap[b]?) := Hp.le_trans (Hp.le_add_left _ _) hzw
 have hyw : y.le (fun b => w.heap[b]?) := Hp.le_trans (Hp.le_add_right dxy) hzw
 have hx1 := (ownA T E vs D).mono _ _ _ hle hx
 obtain ⟨os, f1, f2, f3⟩ := hx1
 have hrep : (Ty.arr n (Ty.slice T)).rep h1 vs D := by
  subst hn
  have hl : vs.length = D.length := ownA_len hx
  have : (Ty.arr D.length (Ty.slice T)).rep h1 vs D := ⟨rfl, by rw [f2]; exact ownRows f1 f3 (Hp.le_add_right d1)⟩
  rw [hl]; exact this
 have s1 : St h1 [rawA y] w := ⟨⟨y, ⟨y, Hp.nil, rfl, rfl, Hp.apart_nil _, (Hp.add_nil y).symm⟩, Hp.add_apart.2 ⟨d2, dxy⟩, Hp.add_le hb hxw, hyw⟩, s.os, s.tape, s.output⟩
 refine (k h1 [rawA y] hle hrep s1).mono fun e w' ⟨u, he, h2, hle2, hu, s2⟩ => ⟨u, he, ?_⟩
 obtain ⟨z', ⟨y', q, hy', hq, _, e'⟩, hd', hb', hzw'⟩ := s2.sep
 have ey : y' = y := hy'
 have eq : q = Hp.nil := hq
 subst ey eq
 rw [Hp.add_nil] at e'
 subst e'
 let h3 : Zone := ⟨fun b => if (x b).isSome then none else h2.blk b, h2.os, h2.tape, h2.output⟩
 have hle3 : h.le h3 := by
  refine ⟨fun b o ho => ?_, hle2.os.trans hle.os, hle2.tape.trans hle.tape, hle2.output.trans hle.output⟩
  have hxb : x b = none := by
   rcases d1 b with e | e
   ·rw [e] at ho; cases ho
   ·exact e
  show (if (x b).isSome then none else h2.blk b) = some o
  rw [hxb]
  exact hle2.blk _ _ (hle.blk _ _ ho)
 have hx2 : x.le h2.blk := Hp.le_trans (Hp.le_add_right d1) hle2.blk
 have h32 : h3.blk.le h2.blk := fun b o ho => by
  have ho' : (if (x b).isSome then none else h2.blk b) = some o := ho
  split at ho'
  ·cases ho'
  ·exact ho'
 refine ⟨h3, hle3, hu, ⟨⟨x.add z', ?_, ?_, ?_, ?_⟩, s2.os, s2.tape, s2.output⟩⟩
 ·have := hset h3 (ownA T E vs D) x hle3 ((ownA T E vs D).mono _ _ _ hle3 hx) dxy
  have e0 : L.set j (ownA T E vs D) = L := set_same hj
  rwa [e0] at this
 ·refine Hp.apart_add.2 ⟨fun b => ?_, fun b => ?_⟩
  ·cases hxb : x b with
   | none => exact .inr rfl
   | some o => left; show (if (x b).isSome then none else h2.blk b) = none; rw [hxb]; rfl
  ·rcases hd' b with e | e
   ·left; show (if (x b).isSome then none else h2.blk b) = none; split
    ·rfl
    ·exact e
   ·exact .inr e
 ·exact Hp.le_trans h32 hb'
 ·exact Hp.add_le (Hp.le_trans hx2 hb') hzw'
def fnV : Option Nat → Value
 | some n => .func (.func n) #[] #[]
 | none => .nilFunc
structure DRow where
 lot : Bool
 frm : Bool
 «to» : Bool
 mass : Bool
 fn : Option Nat
def rowV (r : DRow) : Value := .agg #[.bool r.lot, .bool r.frm, .bool r.to, .bool r.mass, fnV r.fn]
def zrow : DRow := ⟨false, false, false, false, none⟩
structure Bag where
 parts : List Part
 may : List (Int × Bool)
def BagT : Ty Bag where
 size := 2
 rep h cs x := ∃ o c m, cs = [.slice o x.parts.length c, .map m] ∧ SliceR PartT h o c x.parts ∧ MapR Value.bool h m x.may
 len := by rintro h cs x ⟨o, c, m, rfl, _, _⟩; rfl
 one := by rintro h cs x ⟨o, c, m, rfl, _, _⟩ v hv; simp only [List.mem_cons, List.not_mem_nil, or_false] at hv; rcases hv with rfl | rfl <;> rfl
 mono := by rintro h h' cs x k ⟨o, c, m, e, s1, s2⟩; exact ⟨o, c, m, e, s1.mono k, s2.mono k⟩
theorem bagRep {x : Bag} {o : Option Addr} {c : Nat} {m : Option Nat} (s1 : SliceR PartT h o c x.parts) (s2 : MapR Value.bool h m x.may) : BagT.rep h [.slice o x.parts.length c, .map m] x := ⟨o, c, m, rfl, s1, s2⟩
theorem _root_.Go.Sl.St.addEmp (s : St h L w) : St h (emp :: L) w := by
 obtain ⟨z, hz, hd, hb, hzw⟩ := s.sep
 exact ⟨⟨z, ⟨Hp.nil, z, rfl, hz, Hp.apart_comm (Hp.apart_nil _), rfl⟩, hd, hb, hzw⟩, s.os, s.tape, s.output⟩
theorem _root_.Go.Sl.St.swapTo (s : St h L w) {i j : Nat} {A : Atom} (hi : L[i]? = some A) (hj : L[j]? = some emp) (hij : i ≠ j) : St h ((L.set j A).set i emp) w :=
 s.join hj hi hij fun x y hx hy d => by
  have ex : x = Hp.nil := hx
  subst ex
  rw [Hp.nil_add]; exact hy
def getO {γ : Type} (D : List (Option γ)) (i : Int) : Option γ := (getI D i).bind fun x => x
theorem getO_spec {γ : Type} {D : List (Option γ)} {i : Int} {d : γ} (e : getO D i = some d) : i.toNat < D.length ∧ (0 ≤ i ∧ i < D.length) ∧ D[i.toNat]? = some (some d) := by
 unfold getO at e
 cases hg : getI D i with
 | none => rw [hg] at e; cases e
 | some x =>
  rw [hg] at e
  simp only [zB] at e
  subst e
  obtain ⟨h1, h2⟩ := getI_spec hg
  exact ⟨(List.getElem?_eq_some_iff.1 h2).1, h1, h2⟩
def allS {γ : Type} : List (Option γ) → Option (List γ)
 | [] => some []
 | none :: _ => none
 | some d :: D => (allS D).map fun l => d :: l
theorem allS_spec {γ : Type} : ∀ {D : List (Option γ)} {l : List γ}, allS D = some l → D = l.map some
 | [], l, e => by simp only [allS, zI] at e; subst e; rfl
 | none :: _, l, e => by cases e
 | some d :: D, l, e => by
  simp only [allS] at e
  cases h : allS D with
  | none => rw [h] at e; cases e
  | some m =>
   rw [h] at e
   simp only [Option.map_some, zI] at e
   subst e
   rw [allS_spec h]; rfl
def cellO (T : Ty α) (E : TypeId) (p : Option Addr × Nat) : Option (List α) → Atom
 | none => emp
 | some d => ownS T E p.1 p.2 d
def ownOL (T : Ty α) (E : TypeId) (os : List (Option Addr × Nat)) (D : List (Option (List α))) : List Atom := List.zipWith (fun p d => cellO T E p d) os D
structure OShape (vs : List Value) (os : List (Option Addr × Nat)) (D : List (Option (List α))) : Prop where
 l1 : os.length = D.length
 l2 : vs.length = D.length
 one : oneCells vs = true
 at_ : ∀ (i : Nat) (d : List α) (p : Option Addr × Nat), D[i]? = some (some d) → os[i]? = some p → vs[i]? = some (Value.slice p.1 d.length p.2)
def ownO (T : Ty α) (E : TypeId) (vs : List Value) (D : List (Option (List α))) : Atom :=
 ⟨fun h z => ∃ os, OShape vs os D ∧ Sep h (ownOL T E os D) z, fun _ _ _ k e => e.elim fun os e => ⟨os, e.1, e.2.mono k⟩⟩
def ownP (T : Ty α) (E : TypeId) (vs : List Value) (D : List (Option (List α))) (n : Nat) : Atom :=
 ⟨fun h z => ∃ os, OShape vs os D ∧ Sep h ((ownOL T E os D).set n emp) z, fun _ _ _ k e => e.elim fun os e => ⟨os, e.1, e.2.mono k⟩⟩
theorem oneCells_of {vs : List Value} (h : ∀ v ∈ vs, v.oneCell' = true) : oneCells vs = true := by
 induction vs with
 | nil => rfl
 | cons v vs ih => simp only [oneCells, za]; exact ⟨h v (by simp), ih fun u hu => h u (by simp [hu])⟩
theorem oneCells_set : ∀ {vs : List Value} {n : Nat} {v : Value}, oneCells vs = true → v.oneCell' = true → oneCells (vs.set n v) = true
 | [], n, v, h, _ => h
 | u :: vs, 0, v, h, k => by simp only [oneCells, za, List.set_cons_zero] at h ⊢; exact ⟨k, h.2⟩
 | u :: vs, n + 1, v, h, k => by simp only [oneCells, za, List.set_cons_succ] at h ⊢; exact ⟨h.1, oneCells_set h.2 k⟩
theorem Sep.emps : ∀ n, Sep h (List.replicate n emp) Hp.nil
 | 0 => rfl
 | n + 1 => ⟨Hp.nil, Hp.nil, rfl, Sep.emps n, Hp.apart_nil _, rfl⟩
theorem ownOL_none (T : Ty α) (E : TypeId) : ∀ n (os : List (Option Addr × Nat)), os.length = n → ownOL T E os (List.replicate n none) = List.replicate n emp
 | 0, [], _ => rfl
 | n + 1, p :: os, e => by
  have := ownOL_none T E n os (by simpa using e)
  show cellO T E p none :: ownOL T E os (List.replicate n none) = emp :: List.replicate n emp
  rw [this]; rfl
theorem _root_.Go.Sl.St.ownNewO (s : St h L w) (T : Ty α) (E : TypeId) {n : Nat} {vs : List Value} (hn : vs.length = n) (h1 : oneCells vs = true) : St h (ownO T E vs (List.replicate n none) :: L) w := by
 obtain ⟨z, hz, hd, hb, hzw⟩ := s.sep
 refine ⟨⟨z, ⟨Hp.nil, z, ⟨List.replicate n (none, 0), ⟨by simp, by simp [hn], h1, fun i d p hd => ?_⟩, ?_⟩, hz, Hp.apart_comm (Hp.apart_nil _), rfl⟩, hd, hb, hzw⟩, s.os, s.tape, s.output⟩
 ·rw [List.getElem?_replicate] at hd; split at hd <;> cases hd
 ·rw [ownOL_none T E n _ (by simp)]; exact Sep.emps n
theorem ownOL_get {os : List (Option Addr × Nat)} {D : List (Option (List α))} {n : Nat} {p : Option Addr × Nat} {d : Option (List α)} (hp : os[n]? = some p) (hd : D[n]? = some d) : (ownOL T E os D)[n]? = some (cellO T E p d) := by
 unfold ownOL; rw [List.getElem?_zipWith, hp, hd]
theorem ownOL_set : ∀ {os : List (Option Addr × Nat)} {D : List (Option (List α))} {n : Nat} {p : Option Addr × Nat} {d : Option (List α)}, ownOL T E (os.set n p) (D.set n d) = (ownOL T E os D).set n (cellO T E p d)
 | [], D, n, p, d => by simp [ownOL]
 | _ :: _, [], n, p, d => by simp [ownOL]
 | a :: os, b :: D, 0, p, d => by simp [ownOL]
 | a :: os, b :: D, n + 1, p, d => by
  have := ownOL_set (os := os) (D := D) (n := n) (p := p) (d := d)
  simpa [ownOL] using this
theorem _root_.Go.Sl.St.ownOpenO (s : St h L w) {j : Nat} {vs : List Value} {D : List (Option (List α))} (hj : L[j]? = some (ownO T E vs D)) {i : Int} {d : List α} (e : getO D i = some d) :
  ∃ o cap, vs[i.toNat]? = some (.slice o d.length cap) ∧ (0 ≤ i ∧ i < vs.length) ∧ St h (ownS T E o cap d :: L.set j (ownP T E vs D i.toNat)) w := by
 obtain ⟨hlt, hb, hx⟩ := getO_spec e
 obtain ⟨x, ⟨os, sh, e3⟩, hset⟩ := s.splitE hj
 have hlt' : i.toNat < os.length := by rw [sh.l1]; exact hlt
 obtain ⟨x1, y, hx', dxy, ez, hset'⟩ := e3.focus (ownOL_get (List.getElem?_eq_getElem hlt') hx)
 refine ⟨os[i.toNat].1, os[i.toNat].2, sh.at_ _ _ _ hx (List.getElem?_eq_getElem hlt'), ⟨hb.1, by rw [sh.l2]; exact hb.2⟩, hset _ _ x1 y hx' ⟨os, sh, ?_⟩ dxy ez⟩
 have := hset' h emp Hp.nil (Zone.le_refl h) rfl (Hp.apart_comm (Hp.apart_nil _))
 rwa [Hp.nil_add] at this
theorem _root_.Go.Sl.St.ownOpenS (s : St h L w) {j : Nat} {vs : List Value} {D : List (Option (List α))} (hj : L[j]? = some (ownO T E vs D)) {i : Int} {y : Option (List α)} (e : getI D i = some y) :
  (0 ≤ i ∧ i < vs.length) ∧ St h (L.set j (ownP T E vs D i.toNat)) w := by
 obtain ⟨hb, hx⟩ := getI_spec e
 have hlt := (List.getElem?_eq_some_iff.1 hx).1
 obtain ⟨x, ⟨os, sh, e3⟩, hset⟩ := s.splitE hj
 have hlt' : i.toNat < os.length := by rw [sh.l1]; exact hlt
 obtain ⟨x1, y', hx', dxy, ez, hset'⟩ := e3.focus (ownOL_get (List.getElem?_eq_getElem hlt') hx)
 have h2 := hset' h emp Hp.nil (Zone.le_refl h) rfl (Hp.apart_comm (Hp.apart_nil _))
 rw [Hp.nil_add] at h2
 exact ⟨⟨hb.1, by rw [sh.l2]; exact hb.2⟩, (hset anyA (ownP T E vs D i.toNat) x1 y' trivial ⟨os, sh, h2⟩ dxy ez).tail⟩
theorem _root_.Go.Sl.St.ownCloseO (s : St h L w) {j k : Nat} {vs : List Value} {D : List (Option (List α))} {n : Nat} {o : Option Addr} {cap : Nat} {d : List α} (hj : L[j]? = some (ownP T E vs D n)) (hk : L[k]? = some (ownS T E o cap d)) (hjk : k ≠ j) (hn : n < D.length) :
  St h ((L.set j (ownO T E (vs.set n (.slice o d.length cap)) (D.set n (some d)))).set k emp) w := by
 refine s.join hj hk hjk fun x y ⟨os, sh, e3⟩ hy dxy => ⟨os.set n (o, cap), ⟨by simp [sh.l1], by simp [sh.l2], oneCells_set sh.one rfl, fun i d' p hd hp => ?_⟩, ?_⟩
 ·by_cases hi : i = n
  ·subst hi
   rw [List.getElem?_set_self hn] at hd
   rw [List.getElem?_set_self (by rw [sh.l1]; exact hn)] at hp
   simp only [zI] at hd hp
   subst hd hp
   rw [List.getElem?_set_self (by rw [sh.l2]; exact hn)]
  ·rw [List.getElem?_set_ne (Ne.symm hi)] at hd hp ⊢
   exact sh.at_ i d' p hd hp
 ·rw [ownOL_set]
  have hnl : n < (ownOL T E os D).length := by simp [ownOL, sh.l1]; exact hn
  have hg : ((ownOL T E os D).set n emp)[n]? = some emp := by rw [List.getElem?_set_self hnl]
  obtain ⟨a, b, ha, dab, ez, hset⟩ := e3.focus hg
  have ha' : a = Hp.nil := ha
  subst ha'
  rw [Hp.nil_add] at ez
  subst ez
  have := hset h (ownS T E o cap d) y (Zone.le_refl h) hy (Hp.apart_comm dxy)
  rw [List.set_set] at this
  rw [Hp.add_comm dxy]
  exact this
theorem ownOL_all (T : Ty α) (E : TypeId) : ∀ (os : List (Option Addr × Nat)) (l : List (List α)), ownOL T E os (l.map some) = ownL T E os l
 | [], _ => by simp [ownOL, ownL]
 | _ :: _, [] => by simp [ownOL, ownL]
 | p :: os, d :: l => by
  have := ownOL_all T E os l
  simpa [ownOL, ownL, cellO] using this
theorem cells_all : ∀ {vs : List Value} {os : List (Option Addr × Nat)} {l : List (List α)}, os.length = l.length → vs.length = l.length → (∀ (i : Nat) (d : List α) (p : Option Addr × Nat), l[i]? = some d → os[i]? = some p → vs[i]? = some (Value.slice p.1 d.length p.2)) → vs = cellL os l
 | [], os, [], _, _, _ => by cases os <;> rfl
 | [], _, _ :: _, _, e2, _ => by cases e2
 | _ :: _, _, [], _, e2, _ => by cases e2
 | _ :: _, [], _ :: _, e1, _, _ => by cases e1
 | v :: vs, p :: os, d :: l, e1, e2, k => by
  have h0 := k 0 d p rfl rfl
  simp only [List.getElem?_cons_zero, zI] at h0
  have := cells_all (vs := vs) (os := os) (l := l) (by simpa using e1) (by simpa using e2) fun i d' p' hd hp => k (i + 1) d' p' hd hp
  show v :: vs = Value.slice p.1 d.length p.2 :: cellL os l
  rw [h0, ← this]
theorem _root_.Go.Sl.St.ownAll (s : St h L w) {j : Nat} {vs : List Value} {D : List (Option (List α))} {l : List (List α)} (hj : L[j]? = some (ownO T E vs D)) (e : allS D = some l) : St h (L.set j (ownA T E vs l)) w := by
 have e' := allS_spec e
 subst e'
 refine s.conv hj fun z ⟨os, sh, e3⟩ => ⟨os, by simpa using sh.l1, cells_all (by simpa using sh.l1) (by simpa using sh.l2) fun i d p hd hp => sh.at_ i d p (by rw [List.getElem?_map, hd]; rfl) hp, ?_⟩
 rw [ownOL_all] at e3; exact e3
theorem _root_.Go.Sl.St.ownOnesO (s : St h L w) {j : Nat} {vs : List Value} {D : List (Option (List α))} (hj : L[j]? = some (ownO T E vs D)) : oneCells vs = true := by
 obtain ⟨z, ⟨os, sh, _⟩, _, _, _⟩ := s.focus hj
 exact sh.one
def cpC {γ : Type} (xs ys : List γ) : Option Unit := if xs.length = ys.length then some () else none
theorem cpC_spec {γ : Type} {xs ys : List γ} {u : Unit} (e : cpC xs ys = some u) : xs.length = ys.length := by
 unfold cpC at e
 split at e
 ·assumption
 ·cases e
section
variable {P : Program} {a : Act} {N : Nat} {fl : FL} {ds : List Deferred} {ε : Px} {R : Array Oper} {m : List Nat} {S : World → Prop} {K : Act → World → Prop} {pl : List (Nat × Bool)} {o : Option Addr} {cap : Nat} {xs ys : List α}
def cpAt (R : Array Oper) (N : Nat) (pl : List (Nat × Bool)) (fl : FL) : Option (Nat × Option Nat × TypeId × Value × Value) :=
 match opAt R N pl fl with
 | some (i, o) => match o.op with
  | .call { callee := .builtin .copy, args := ⟨[s, x]⟩, argTypes := ⟨[t, _]⟩ } => some (i, o.dst, t, ev fl s, ev fl x)
  | _ => none
 | none => none
theorem run_copy {t ty t' : TypeId} {z : Value} (hE : ElemOK P t E T.size z) {o2 : Option Addr} {c2 : Nat} (hS : St h L w) {j : Nat} (hj : L[j]? = some (ownS T E o cap xs))
  (hsrc : SrcR T h w o2 ys) (hlen : xs.length = ys.length) :
  ∃ w', (Builtin.copy_ #[t, t'] ty #[.slice o xs.length cap, .slice o2 ys.length c2]).run P w = .ok (.int .i64 ys.length) w' ∧ St h (L.set j (ownS T E o cap ys)) w' := by
 obtain ⟨x, hx, hxw, dx, hset⟩ := hS.focus hj
 obtain ⟨i, hi, hsize, hby, hz⟩ := hE.info
 have hx' : OwnP T E o cap xs h x := hx
 have hmin : Nat.min ys.length xs.length = ys.length := by rw [hlen]; exact Nat.min_self _
 have same : ys = [] → St h (L.set j (ownS T E o cap ys)) w := fun e => by
  have e2 : xs = [] := List.eq_nil_of_length_eq_zero (by rw [hlen, e]; rfl)
  subst e e2
  exact hset w _ x hx hxw (fun _ _ _ => rfl) (fun b o e => .inr (by rw [e]; rfl)) rfl rfl rfl
 rcases hsrc with ⟨rfl, rfl⟩ | ⟨ad, news, rfl, hnews, hcell⟩
 ·refine ⟨w, ?_, same rfl⟩
  simp only [Builtin.copy_]
  cases o <;> simp [run_underlying hE.und, sizeOf, typeInfo, hi, Builtin.lenOf, Builtin.firstCells, storeCells, Result.andThen, goInt, Sem.run]
 ·have hfc := run_firstCells_some (P := P) (w := w) T.size ys.length ad ys.length c2 news (by rw [hnews.len]) hcell
  rcases hx' with ⟨rfl, rfl, rfl, rfl⟩ | ⟨g, cur, rfl, rfl, h1, h2, h3, h4⟩
  ·have ey : ys = [] := List.eq_nil_of_length_eq_zero (by rw [← hlen]; rfl)
   refine ⟨w, ?_, same ey⟩
   subst ey
   have hfc' : (Builtin.firstCells T.size 0 (.slice (some ad) 0 c2)).run P w = .ok news.toArray w := hfc
   simp [Builtin.copy_, run_underlying hE.und, sizeOf, typeInfo, hi, Builtin.lenOf, hsize, hfc', Result.andThen, goInt, Sem.run]
  ·have hb : w.heap[g]? = some (.cells cur E (0, 0)) := Hp.one_le.1 hxw
   have hnl : news.length = ys.length * T.size := hnews.len
   have hfit : news.length ≤ cur.size := by
    rw [hnl, h3, ← hlen]
    exact Nat.mul_le_mul_right _ h1
   have hst := run_storeCells_at (P := P) g 0 E news 0 cur w hb (by simpa using hfit) hnews.one
   simp only [Nat.add_zero] at hst
   refine ⟨w.setRow g (cur.toList.take 0 ++ news ++ cur.toList.drop (0 + news.length)).toArray, ?_, ?_⟩
   ·simp only [Builtin.copy_]
    simp [run_underlying hE.und, sizeOf, typeInfo, hi, Builtin.lenOf, hsize, hlen, hfc, Result.andThen, goInt]
    simp only [List.take_zero, List.nil_append, Nat.zero_add] at hst ⊢
    rw [hst]
   ·have hn0 : news.length ≤ cur.toList.length := by simpa using hfit
    have hcur : (cur.toList.take 0 ++ news ++ cur.toList.drop (0 + news.length)).toArray.toList.take (ys.length * T.size) = news := by
     simp only [List.take_zero, List.nil_append, List.take_append, ← hnl, List.take_length, Nat.sub_self, List.append_nil]
    refine hset _ _ (Hp.one g (.cells (cur.toList.take 0 ++ news ++ cur.toList.drop (0 + news.length)).toArray E (0, 0))) (.inr ⟨g, _, rfl, rfl, by rw [← hlen]; exact h1, h2, ?_, by rw [hcur]; exact hnews⟩) (Hp.one_le.2 (setRow_heap w g _ _ E (0, 0) hb)) (fun k hk hne => setRow_other w g k _ fun e => by subst e; simp [Hp.one] at hne) (fun k o' hk => ?_) rfl rfl rfl
    ·rw [← h3]; simp; omega
    ·right; unfold Hp.one at hk ⊢; split at hk <;> simp_all
theorem p_copy {i j : Nat} {d : Option Nat} {t : TypeId} {z : Value} {o2 : Option Addr} {c2 : Nat} {u : Unit} (hE : ElemOK P t E T.size z) (hS : St h L w) (hf : Fr a N fl ds) (hj : L[j]? = some (ownS T E o cap xs))
  (ho : cpAt R N pl fl = some (i, d, t, .slice o xs.length cap, .slice o2 ys.length c2)) (hsrc : SrcR T h w o2 ys) (hz : cpC xs ys = some u)
  (k : ∀ w' a', St h (L.set j (ownS T E o cap ys)) w' → Fr a' N (putF fl d (.int .i64 ys.length)) ds → (m.contains i = false → S w') ∧ wpPlan ε P R m S K pl.tail a' w') : wpPlan ε P R m S K pl a w := by
 have hlen := cpC_spec hz
 unfold cpAt at ho
 cases h1 : opAt R N pl fl with
 | none => rw [h1] at ho; simp at ho
 | some q =>
  obtain ⟨i', op⟩ := q
  rw [h1] at ho
  simp only at ho
  split at ho
  ·rename_i s x t1 t2 hop
   simp only [zI, Prod.mk.injEq] at ho
   obtain ⟨rfl, rfl, rfl, hs, hx⟩ := ho
   obtain ⟨w', hrun, hS'⟩ := run_copy (ty := op.type) (c2 := c2) (t' := t2) hE hS hj hsrc hlen
   refine p_val (w' := w') (v := .int .i64 ys.length) hf h1 ?_ fun a' hf' => k w' a' hS' hf'
   simp only [execOp, hop, resolve, invoke, builtin, Sem.run_bind, Sem.run_pure, Result.andThen_ok, List.map_toArray, List.map_cons, List.map_nil, hs, hx, hrun]
  ·cases ho
end
end
end Go.Sx
namespace Go.Sx
open Go.Sl
variable {P : Program} {a : Act} {N : Nat} {fl : FL} {ds : List Deferred} {ε : Px} {w : World} {R : Array Oper} {m : List Nat} {S : World → Prop} {K K' : Act → World → Prop} {pl : List (Nat × Bool)} {ro : Option Nat} {c : Code} {Q : Exit → Act → World → Prop} {oF oC : List Obl} {h : Zone} {L : List Atom}
theorem look_sub {fl r : FL} (e : ∀ t v, look r t = some v → look fl t = some v) (hf : Fr a N fl ds) : Fr a N r ds := ⟨hf.size, hf.defers, fun t v hl => hf.look t v (e t v hl)⟩
theorem Fr.lit (hf : Fr a N fl ds) {b l : Bool} (k : Nat) (e : b = l) (hk : Sx.look fl k = some (.bool b) := by kernel_rfl) : Fr a N ((k, .bool l) :: fl) ds := by
 subst e
 refine look_sub (fun t v hl => ?_) hf
 simp only [Sx.look] at hl
 cases hb : Nat.beq k t with
 | true => rw [hb] at hl; have := zN hb; subst this; simpa [hk] using hl
 | false => rw [hb] at hl; exact hl
theorem Fr.to {r : FL} (hf : Fr a N fl ds) (hk : keepF fl (keys r) = some r := by kernel_rfl) : Fr a N r ds := hf.keep hk
def fr3 : Option (FL × List Obl × List Obl) → FL
 | some (r, _) => r
 | none => []
def ob3 : Option (FL × List Obl × List Obl) → Option (List Obl × List Obl)
 | some (_, o) => some o
 | none => none
theorem keepF_keys {fl : FL} : ∀ {ks : List Nat} {r : FL}, keepF fl ks = some r → keys r = ks
 | [], r, h => by simp only [keepF, zI] at h; subst h; rfl
 | k :: ks, r, h => by
  simp only [keepF] at h
  split at h
  ·rename_i h1 h2
   simp only [zI] at h
   subst h
   have := keepF_keys h2
   simp only [keys, List.map_cons] at this ⊢
   rw [this]
  ·cases h
def Keyed (X : List Nat → Option (FL × List Obl × List Obl)) : Prop := ∀ ks r o, X ks = some (r, o) → keys r = ks
theorem Keyed.use {X : List Nat → Option (FL × List Obl × List Obl)} (hX : Keyed X) {ks : List Nat} (e : ob3 (X ks) = some (oF, oC)) : X (keys (fr3 (X ks))) = some (fr3 (X ks), oF, oC) := by
 cases h1 : X ks with
 | none => rw [h1] at e; cases e
 | some t =>
  obtain ⟨r, o⟩ := t
  rw [h1] at e
  simp only [ob3, zI] at e
  subst e
  show X (keys r) = some (r, oF, oC)
  rw [hX _ _ _ h1, h1]
theorem keyed_XK {os : List Value} : Keyed (evXK P R N m pl fl os) := fun ks r o e => by
 obtain ⟨oF, oC⟩ := o
 obtain ⟨fl1, _, h2⟩ := evXK_spec e
 exact keepF_keys h2
theorem keyed_if {b : Bool} {X : List Nat → Option (FL × List Obl × List Obl)} (hX : Keyed X) : Keyed (fun ks => bif b then X ks else none) := fun ks r o e => by
 cases b with
 | false => cases e
 | true => exact hX ks r o e
theorem keyed_R {os : List Value} : Keyed (evR P c N fl os) := keyed_if keyed_XK
theorem keyed_SR {os : List Value} : Keyed (evSR P c N fl os) := keyed_if keyed_R
theorem keyed_RD {os : List Value} : Keyed (evRD P c pl m N fl os) := keyed_if keyed_XK
theorem keyed_SRD {os : List Value} : Keyed (evSRD P c pl m N fl os) := keyed_if keyed_RD
theorem c_S (n : Nat) (os : List Value) (ks : List Nat) (hSw : S w) (hf : Fr a N fl ds) (hF : ∀ w', S w' → HA w' oF) (hC : HA w oC)
  (k : ∀ a', Fr a' N (fr3 (evXK P R N m (pl.take n) fl os ks)) ds → wpPlan ε P R m S K (pl.drop n) a' w) (he : ob3 (evXK P R N m (pl.take n) fl os ks) = some (oF, oC) := by kernel_rfl) : wpPlan ε P R m S K pl a w :=
 p_qS n os _ oF oC hSw hf (keyed_XK.use he) hF hC k
theorem c_E (n : Nat) (os : List Value) (ks : List Nat) (hf : Fr a N fl ds) (hF : HA w oF) (hC : HA w oC)
  (k : ∀ a', Fr a' N (fr3 (evXK P R N m (pl.take n) fl os ks)) ds → wpPlan ε P R m (fun x => x = w) K (pl.drop n) a' w) (he : ob3 (evXK P R N m (pl.take n) fl os ks) = some (oF, oC) := by kernel_rfl) : wpPlan ε P R m (fun x => x = w) K pl a w :=
 p_qE n os _ oF oC hf (keyed_XK.use he) hF hC k
theorem c_n (n : Nat) (os : List Value) (ks : List Nat) (hf : Fr a N fl ds) (hC : HA w oC)
  (k : ∀ a', Fr a' N (fr3 (evXK P R N m (pl.take n) fl os ks)) ds → wpPlan ε P R m (fun _ => True) K (pl.drop n) a' w) (he : ob3 (evXK P R N m (pl.take n) fl os ks) = some ([], oC) := by kernel_rfl) : wpPlan ε P R m (fun _ => True) K pl a w :=
 p_qn n os _ oC hf (keyed_XK.use he) hC k
theorem c_z (os : List Value) (ks : List Nat) (hf : Fr a N fl ds) (hC : HA w oC)
  (k : ∀ a', Fr a' N (fr3 (evXK P R N m pl fl os ks)) ds → K a' w) (he : ob3 (evXK P R N m pl fl os ks) = some ([], oC) := by kernel_rfl) : wpPlan ε P R m (fun _ => True) K pl a w :=
 p_qz os _ oC hf (keyed_XK.use he) hC k
theorem c_t (os : List Value) (ks : List Nat) (hf : Fr a N fl ds) (hC : HA w oC)
  (k : ∀ a', Fr a' N (fr3 (evXK P R N m pl fl os ks)) ds → K' a' w) (he : ob3 (evXK P R N m pl fl os ks) = some ([], oC) := by kernel_rfl) : wpPlan ε P R m (fun _ => True) (fun a w => Exit.then K' Q .normal a w) pl a w :=
 p_qt os _ oC hf (keyed_XK.use he) hC k
theorem c_tE (os : List Value) (ks : List Nat) (hf : Fr a N fl ds) (hF : HA w oF) (hC : HA w oC)
  (k : ∀ a', Fr a' N (fr3 (evXK P R N m pl fl os ks)) ds → K' a' w) (he : ob3 (evXK P R N m pl fl os ks) = some (oF, oC) := by kernel_rfl) : wpPlan ε P R m (fun x => x = w) (fun a w => Exit.then K' Q .normal a w) pl a w :=
 p_qtE os _ oF oC hf (keyed_XK.use he) hF hC k
theorem c_q (os : List Value) (ks : List Nat) (hf : Fr a N fl ds) (hC : HA w oC)
  (k : ∀ a', Fr a' N (fr3 (evR P c N fl os ks)) ds → Q .normal a' w) (he : ob3 (evR P c N fl os ks) = some ([], oC) := by kernel_rfl) : c.cw ro P Q a w :=
 w_q os _ oC hf (keyed_R.use he) hC k
theorem c_sq (os : List Value) (ks : List Nat) (hf : Fr a N fl ds) (hC : HA w oC)
  (k : ∀ a', Fr a' N (fr3 (evSR P c N fl os ks)) ds → (cr c).cw ro P Q a' w) (he : ob3 (evSR P c N fl os ks) = some ([], oC) := by kernel_rfl) : c.cw ro P Q a w :=
 w_sq os _ oC hf (keyed_SR.use he) hC k
theorem c_qD (pl : List (Nat × Bool)) (m : List Nat) (os : List Value) (ks : List Nat) (hf : Fr a N fl ds) (hF : HA w.drew oF) (hC : HA w.drew oC)
  (k : ∀ a', Fr a' N (fr3 (evRD P c pl m N fl os ks)) ds → Q .normal a' w.drew) (he : ob3 (evRD P c pl m N fl os ks) = some (oF, oC) := by kernel_rfl) : c.cw ro P Q a w :=
 w_qD pl m os _ oF oC hf (keyed_RD.use he) hF hC k
theorem c_sqD (pl : List (Nat × Bool)) (m : List Nat) (os : List Value) (ks : List Nat) (hf : Fr a N fl ds) (hF : HA w.drew oF) (hC : HA w.drew oC)
  (k : ∀ a', Fr a' N (fr3 (evSRD P c pl m N fl os ks)) ds → (cr c).cw ro P Q a' w.drew) (he : ob3 (evSRD P c pl m N fl os ks) = some (oF, oC) := by kernel_rfl) : c.cw ro P Q a w :=
 w_sqD pl m os _ oF oC hf (keyed_SRD.use he) hF hC k
def iAt : List (Nat × Bool) → Nat
 | [] => 0
 | (i, _) :: _ => i
def dAt (R : Array Oper) (pl : List (Nat × Bool)) : Option Nat := match R[iAt pl]? with
 | some o => o.dst
 | none => none
theorem c_call {f : FuncId} {args : Array Value} (hf : Fr a N fl ds)
  {Φ : Value → World → Prop} (hc : Calls P f args w fun e w' => ∃ v, e = .returned v ∧ Φ v w')
  (k : ∀ v w' a', Φ v w' → Fr a' N (putF fl (dAt R pl) v) ds → (m.contains (iAt pl) = false → S w') ∧ wpPlan ε P R m S K pl.tail a' w')
  (ho : callAt P R N pl fl = some (iAt pl, dAt R pl, f, args) := by kernel_rfl) : wpPlan ε P R m S K pl a w := p_call hf ho hc k
theorem c_box (cs : List Value) (T : TypeId) (hS : St h L w) (hf : Fr a N fl ds)
  (k : ∀ b w' a', St h (box b cs T :: L) w' → Fr a' N (putF fl (dAt R pl) (.pointer (some ⟨b, 0, none⟩))) ds → (m.contains (iAt pl) = false → S w') ∧ wpPlan ε P R m S K pl.tail a' w')
  (he : ∀ b, newAt P R N pl fl b = some (iAt pl, dAt R pl, .cells cs.toArray T (0, 0), .pointer (some ⟨b, 0, none⟩)) := by intro b; kernel_rfl) : wpPlan ε P R m S K pl a w := p_box hS hf he k
def offAt (P : Program) (R : Array Oper) (N : Nat) (pl : List (Nat × Bool)) (fl : FL) : Nat := match storeAt P R N pl fl with
 | some (_, A, _) => A.off
 | none => 0
def vsAt (P : Program) (R : Array Oper) (N : Nat) (pl : List (Nat × Bool)) (fl : FL) : List Value := match storeAt P R N pl fl with
 | some (_, _, vs) => vs
 | none => []
theorem c_st (j : Nat) (cs' : List Value) {b : Nat} {cs : List Value} {T : TypeId} (hS : St h L w) (hf : Fr a N fl ds) (hj : L[j]? = some (box b cs T))
  (k : ∀ w' a', St h (L.set j (box b cs' T)) w' → Fr a' N fl ds → (m.contains (iAt pl) = false → S w') ∧ wpPlan ε P R m S K pl.tail a' w')
  (ho : storeAt P R N pl fl = some (iAt pl, ⟨b, offAt P R N pl fl, none⟩, vsAt P R N pl fl) := by kernel_rfl)
  (hfit : (Nat.ble (offAt P R N pl fl + (vsAt P R N pl fl).length) cs.length && oneCells (vsAt P R N pl fl)) = true := by kernel_rfl)
  (hcs : splice cs (offAt P R N pl fl) (vsAt P R N pl fl) = cs' := by kernel_rfl) : wpPlan ε P R m S K pl a w := p_store_eq hS hf hj ho hfit hcs k
theorem c_rt (os : List Value) (v : Value) {fn : Func} {R' : Ending → World → Prop} {obs : List Obl} (hf : Fr a N fl) (hob : HA w obs) (k : R' (.returned v) w) (he : resAt P fn fl os = some (v, obs) := by kernel_rfl) : postM P fn R' .ret a w := p_ret hf he hob k
theorem c_fall (os : List Value) (v : Value) {fn : Func} {R' : Ending → World → Prop} {obs : List Obl} (hf : Fr a N fl) (hob : HA w obs) (k : R' (.returned v) w) (he : resAt P fn fl os = some (v, obs) := by kernel_rfl) : postM P fn R' .normal a w := p_fall hf he hob k
theorem c_seq (k : (cl c).cw ro P (Exit.then (fun a w => (cr c).cw ro P Q a w) Q) a w) (hc : isSeq c = true := by kernel_rfl) : c.cw ro P Q a w := w_seq hc k
theorem c_block (id : Nat) (k : (cl c).cw ro P (Exit.inBlock id Q) a w) (hc : blockId c = some id := by kernel_rfl) : c.cw ro P Q a w := w_block hc k
theorem c_exit (id : Nat) (k : Q (.exit id) a w) (hc : exitId c = some id := by kernel_rfl) : c.cw ro P Q a w := w_exit hc k
theorem c_ret (k : Q .ret a w) (hc : isRet c = true := by kernel_rfl) : c.cw ro P Q a w := w_ret hc k
theorem c_skip (k : Q .normal a w) (hc : isSkip c = true := by kernel_rfl) : c.cw ro P Q a w := w_skip hc k
theorem c_if (b : Bool) (hf : Fr a N fl ds) (kt : b = true → (cl c).cw ro P Q a w) (ke : b = false → (cr c).cw ro P Q a w) (hc : condV c fl = some (.bool b) := by kernel_rfl) : c.cw ro P Q a w := w_if hf hc kt ke
theorem c_mid (M : Act → World → Prop) (k1 : (cl c).cw ro P (Exit.then M Q) a w) (k2 : ∀ a w, M a w → (cr c).cw ro P Q a w) (hc : isSeq c = true := by kernel_rfl) : c.cw ro P Q a w := w_mid hc M k1 k2
theorem c_sr (k : wpPlan noP P (cops (cl c)) [] (fun _ => True) (fun a w => Exit.then (fun a w => (cr c).cw ro P Q a w) Q .normal a w) (planSeq (cl c)) a w) (hc : (isSeq c && (isReg false (cl c) && noDefer (cops (cl c)))) = true := by kernel_rfl) : c.cw ro P Q a w := w_sr hc k
theorem c_reg (k : wpPlan noP P (cops c) [] (fun _ => True) (fun a w => Q .normal a w) (planSeq c) a w) (hc : (isReg false c && noDefer (cops c)) = true := by kernel_rfl) : c.cw ro P Q a w := w_reg hc k
theorem c_dt (k : K' a w) (hp : pl.isEmpty = true := by kernel_rfl) : wpPlan ε P R m S (fun a w => Exit.then K' Q .normal a w) pl a w := p_dt hp k
theorem c_done (k : K a w) (hp : pl.isEmpty = true := by kernel_rfl) : wpPlan ε P R m S K pl a w := p_done hp k
theorem c_loop (T : Nat → Act → World → Prop) (n : Nat) (h0 : T n a w)
  (k : ∀ n a w, T n a w → (cl c).cw ro P (Exit.then (fun a' w' => ∃ j, j < n ∧ T j a' w') Q) a w) (hc : isLoop c = true := by kernel_rfl) : c.cw ro P Q a w := w_loop hc T n h0 k
theorem c_regD (pl : List (Nat × Bool)) (m : List Nat) (S : World → Prop) (hS0 : S w.drew)
  (k : wpPlan noP P (cops c) m S (fun a w => Q .normal a w) pl a w.drew) (hm : P.follows .mixedOrders = true := by kernel_rfl) (hB : drawOK c pl m = true := by kernel_rfl) : c.cw ro P Q a w := w_regD hm pl m S hB hS0 k
theorem zr {h : Zone} : h.le h := Zone.le_refl _
theorem zt {a b c : Zone} (h : a.le b) (k : b.le c) : a.le c := Zone.le_trans h k
theorem bft (b : Bool) : b = true ∨ b = false := Bool.eq_false_or_eq_true b
end Go.Sx
namespace Go.Proofs.YtpooahfamelfnaaGreatDoor
open Go.Sl Go.Sx
theorem _root_.Go.Sx.ElemOK.up {P : Program} {t E : TypeId} {s : Nat} {z : Value} {a b : Nat} (h : ElemOK P t E s z a) (hab : a ≤ b) : ElemOK P t E s z b := by
 obtain ⟨h1, ⟨i, h2, h3, h4, h5⟩, h6, h7, h8⟩ := h
 exact ⟨h1, ⟨i, h2, h3, Nat.le_trans h4 hab, h5⟩, h6, h7, Nat.lt_of_lt_of_le h8 hab⟩
theorem el23 {nb : Nat} (hb : 32 ≤ nb := by decide) : ElemOK Tryz.prog 23 55 4 (.agg #[.int .i64 0, .int .i64 0, .int .i64 0, .int .i64 0]) nb := (ElemOK.of (nb := 32) (i := (Tryz.prog.info? 55).getD default) (by kernel_rfl) (by kernel_rfl) (by kernel_rfl) (by decide) (by kernel_rfl)).up hb
theorem el24 {nb : Nat} (hb : 24 ≤ nb := by decide) : ElemOK Tryz.prog 24 42 1 (.agg #[.slice none 0 0]) nb := (ElemOK.of (nb := 24) (i := (Tryz.prog.info? 42).getD default) (by kernel_rfl) (by kernel_rfl) (by kernel_rfl) (by decide) (by kernel_rfl)).up hb
theorem el40 {nb : Nat} (hb : 16 ≤ nb := by decide) : ElemOK Tryz.prog 40 46 2 (.agg #[.int .i64 0, .int .i64 0]) nb := (ElemOK.of (nb := 16) (i := (Tryz.prog.info? 46).getD default) (by kernel_rfl) (by kernel_rfl) (by kernel_rfl) (by decide) (by kernel_rfl)).up hb
theorem el62 {nb : Nat} (hb : 8 ≤ nb := by decide) : ElemOK Tryz.prog 62 3 1 (.int .i64 0) nb := (ElemOK.of (nb := 8) (i := (Tryz.prog.info? 3).getD default) (by kernel_rfl) (by kernel_rfl) (by kernel_rfl) (by decide) (by kernel_rfl)).up hb
theorem el82 {nb : Nat} (hb : 8 ≤ nb := by decide) : ElemOK Tryz.prog 82 97 1 (.map none) nb := (ElemOK.of (nb := 8) (i := (Tryz.prog.info? 97).getD default) (by kernel_rfl) (by kernel_rfl) (by kernel_rfl) (by decide) (by kernel_rfl)).up hb
theorem mp97 : MapOK Tryz.prog 97 (Value.bool false) := MapOK.of (kt := 3) (et := 4) (by kernel_rfl) (by kernel_rfl) (by kernel_rfl)
theorem mp143 : MapOK Tryz.prog 143 (rowV zrow) := MapOK.of (kt := 3) (et := 142) (by kernel_rfl) (by kernel_rfl) (by kernel_rfl)
end Go.Proofs.YtpooahfamelfnaaGreatDoor
