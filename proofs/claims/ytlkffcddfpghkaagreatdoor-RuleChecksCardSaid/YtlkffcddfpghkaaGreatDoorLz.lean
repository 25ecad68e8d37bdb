/-
  A part of the walk and of the plain law of one given statement. No condition.
-/
import Derived.Test.YtlkffcddfpghkaaGreatDoorRY
import Derived.Test.YtlkffcddfpghkaaGreatDoorProg
import Derived.Test.YtlkffcddfpghkaaGreatDoorK8
import Derived.Test.YtlkffcddfpghkaaGreatDoorG6
import Derived.Shelf.Sort.Plain
import Derived.Shelf.Slices.In.SortNone
import Derived.Shelf.SlicesG.CompactI
import Derived.Shelf.Spec.SlicesGrow
import Derived.Sort.OwnSortedInts
import Derived.Shelf.Slices.CompactS
import Derived.Sort.OwnSorted
import Derived.Shelf.Strings.OnBuilder
import Derived.Lib.Join
import Derived.WalkKit
import Derived.Test.YtlkffcddfpghkaaGreatDoorSh
import Derived.Shelf.RegionOpenPlain
import Derived.Lib.Slices
import Derived.Lib.Walk
import Derived.Laws.Externs
import Derived.ProofKit
import Derived.OpenShut
import Derived.Stop.Joined
import Derived.Deep.Slices
import Derived.SizedLaws
import Derived.Shelf.Vars
import Derived.Lay
import Derived.LaidMore
set_option linter.unusedVariables false
set_option maxRecDepth 100000
set_option maxHeartbeats 0
namespace Go.K
open Go.Sl Go.Sx Go.Proofs
def S54 : FuncId → Sp := fun g => match g with
  | 54 => { loops := [(4, [(.slot 13, .dat .i)])] }
  | 128 => { nz := [(11, [12])] }
  | _ => {}
noncomputable def F54 (P : Program) (lf : Nat) (x : tt [(false, (.sl (.pair .str (.pair .i .i)))), (false, (.sl (.pair .str (.pair .i .i))))]) : Option (tt [(false, .bool)]) := fnF P (C16 P lf) S54 54 [(false, (.sl (.pair .str (.pair .i .i)))), (false, (.sl (.pair .str (.pair .i .i))))] [(false, .bool)] lf x
noncomputable def C54 (P : Program) (lf : Nat) : FuncId → Option Con := extC (C16 P lf) 54 (dataCon [(false, (.sl (.pair .str (.pair .i .i)))), (false, (.sl (.pair .str (.pair .i .i))))] [(false, .bool)] (F54 P lf))
def S53 : FuncId → Sp := fun g => match g with
  | 53 => { joins := [(9, [(.slot 88, .dat .bool)]), (2, [(.slot 29, .dat .bool)])], loops := [(4, [(.slot 33, .dat .i)])] }
  | 128 => { nz := [(11, [12])] }
  | _ => {}
noncomputable def F53 (P : Program) (lf : Nat) (x : tt [(true, (.pair .str (.pair (.sl (.pair .str (.pair .i .i))) (.sl (.pair .str (.pair .i (.pair .i (.pair (.sl (.pair .i (.pair .i (.pair .i (.pair .str .i))))) (.pair (.sl (.pair .i (.pair .i (.pair .i (.pair .str .i))))) (.sl .str)))))))))), (true, (.pair .str (.pair (.sl (.pair .str (.pair .i .i))) (.sl (.pair .str (.pair .i (.pair .i (.pair (.sl (.pair .i (.pair .i (.pair .i (.pair .str .i))))) (.pair (.sl (.pair .i (.pair .i (.pair .i (.pair .str .i))))) (.sl .str))))))))))]) : Option (tt [(false, .bool)]) := fnF P (C54 P lf) S53 53 [(true, (.pair .str (.pair (.sl (.pair .str (.pair .i .i))) (.sl (.pair .str (.pair .i (.pair .i (.pair (.sl (.pair .i (.pair .i (.pair .i (.pair .str .i))))) (.pair (.sl (.pair .i (.pair .i (.pair .i (.pair .str .i))))) (.sl .str)))))))))), (true, (.pair .str (.pair (.sl (.pair .str (.pair .i .i))) (.sl (.pair .str (.pair .i (.pair .i (.pair (.sl (.pair .i (.pair .i (.pair .i (.pair .str .i))))) (.pair (.sl (.pair .i (.pair .i (.pair .i (.pair .str .i))))) (.sl .str))))))))))] [(false, .bool)] lf x
noncomputable def C53 (P : Program) (lf : Nat) : FuncId → Option Con := extC (C54 P lf) 53 (dataCon [(true, (.pair .str (.pair (.sl (.pair .str (.pair .i .i))) (.sl (.pair .str (.pair .i (.pair .i (.pair (.sl (.pair .i (.pair .i (.pair .i (.pair .str .i))))) (.pair (.sl (.pair .i (.pair .i (.pair .i (.pair .str .i))))) (.sl .str)))))))))), (true, (.pair .str (.pair (.sl (.pair .str (.pair .i .i))) (.sl (.pair .str (.pair .i (.pair .i (.pair (.sl (.pair .i (.pair .i (.pair .i (.pair .str .i))))) (.pair (.sl (.pair .i (.pair .i (.pair .i (.pair .str .i))))) (.sl .str))))))))))] [(false, .bool)] (F53 P lf))
def S210 : FuncId → Sp := fun g => match g with
  | 128 => { nz := [(11, [12])] }
  | _ => {}
noncomputable def F210 (P : Program) (lf : Nat) (x : tt [(false, (.sl (.pair .str (.pair .i .i))))]) : Option (tt [(false, (.sl (.pair .str (.pair .i .i))))]) := fnF P (C53 P lf) S210 210 [(false, (.sl (.pair .str (.pair .i .i))))] [(false, (.sl (.pair .str (.pair .i .i))))] lf x
noncomputable def C210 (P : Program) (lf : Nat) : FuncId → Option Con := extC (C53 P lf) 210 (dataCon [(false, (.sl (.pair .str (.pair .i .i))))] [(false, (.sl (.pair .str (.pair .i .i))))] (F210 P lf))
def S211 : FuncId → Sp := fun g => match g with
  | 128 => { nz := [(11, [12])] }
  | _ => {}
noncomputable def F211 (P : Program) (lf : Nat) (x : tt [(false, (.sl (.pair .i (.pair .i (.pair .i (.pair .str .i))))))]) : Option (tt [(false, (.sl (.pair .i (.pair .i (.pair .i (.pair .str .i))))))]) := fnF P (C210 P lf) S211 211 [(false, (.sl (.pair .i (.pair .i (.pair .i (.pair .str .i))))))] [(false, (.sl (.pair .i (.pair .i (.pair .i (.pair .str .i))))))] lf x
noncomputable def C211 (P : Program) (lf : Nat) : FuncId → Option Con := extC (C210 P lf) 211 (dataCon [(false, (.sl (.pair .i (.pair .i (.pair .i (.pair .str .i))))))] [(false, (.sl (.pair .i (.pair .i (.pair .i (.pair .str .i))))))] (F211 P lf))
def S212 : FuncId → Sp := fun g => match g with
  | 128 => { nz := [(11, [12])] }
  | _ => {}
noncomputable def F212 (P : Program) (lf : Nat) (x : tt [(false, (.sl .str))]) : Option (tt [(false, (.sl .str))]) := fnF P (C211 P lf) S212 212 [(false, (.sl .str))] [(false, (.sl .str))] lf x
noncomputable def C212 (P : Program) (lf : Nat) : FuncId → Option Con := extC (C211 P lf) 212 (dataCon [(false, (.sl .str))] [(false, (.sl .str))] (F212 P lf))
def S153 : FuncId → Sp := fun g => match g with
  | 153 => { loops := [(3, [(.slot 15, .dat .i), (.cell 3 2, .own (.pair .str (.pair .i (.pair .i (.pair (.sl (.pair .i (.pair .i (.pair .i (.pair .str .i))))) (.pair (.sl (.pair .i (.pair .i (.pair .i (.pair .str .i))))) (.sl .str)))))) 60)])] }
  | 128 => { nz := [(11, [12])] }
  | _ => {}
noncomputable def F153 (P : Program) (lf : Nat) (x : tt [(true, (.pair .str (.pair (.sl (.pair .str (.pair .i .i))) (.sl (.pair .str (.pair .i (.pair .i (.pair (.sl (.pair .i (.pair .i (.pair .i (.pair .str .i))))) (.pair (.sl (.pair .i (.pair .i (.pair .i (.pair .str .i))))) (.sl .str))))))))))]) : Option (tt [(true, (.pair .str (.pair (.sl (.pair .str (.pair .i .i))) (.sl (.pair .str (.pair .i (.pair .i (.pair (.sl (.pair .i (.pair .i (.pair .i (.pair .str .i))))) (.pair (.sl (.pair .i (.pair .i (.pair .i (.pair .str .i))))) (.sl .str))))))))))]) := fnF P (C212 P lf) S153 153 [(true, (.pair .str (.pair (.sl (.pair .str (.pair .i .i))) (.sl (.pair .str (.pair .i (.pair .i (.pair (.sl (.pair .i (.pair .i (.pair .i (.pair .str .i))))) (.pair (.sl (.pair .i (.pair .i (.pair .i (.pair .str .i))))) (.sl .str))))))))))] [(true, (.pair .str (.pair (.sl (.pair .str (.pair .i .i))) (.sl (.pair .str (.pair .i (.pair .i (.pair (.sl (.pair .i (.pair .i (.pair .i (.pair .str .i))))) (.pair (.sl (.pair .i (.pair .i (.pair .i (.pair .str .i))))) (.sl .str))))))))))] lf x
noncomputable def C153 (P : Program) (lf : Nat) : FuncId → Option Con := extC (C212 P lf) 153 (dataCon [(true, (.pair .str (.pair (.sl (.pair .str (.pair .i .i))) (.sl (.pair .str (.pair .i (.pair .i (.pair (.sl (.pair .i (.pair .i (.pair .i (.pair .str .i))))) (.pair (.sl (.pair .i (.pair .i (.pair .i (.pair .str .i))))) (.sl .str))))))))))] [(true, (.pair .str (.pair (.sl (.pair .str (.pair .i .i))) (.sl (.pair .str (.pair .i (.pair .i (.pair (.sl (.pair .i (.pair .i (.pair .i (.pair .str .i))))) (.pair (.sl (.pair .i (.pair .i (.pair .i (.pair .str .i))))) (.sl .str))))))))))] (F153 P lf))
def S71 : FuncId → Sp := fun g => match g with
  | 71 => { joins := [(5, [(.cell 2 2, .own (.pair .str (.pair .i (.pair .i (.pair (.sl (.pair .i (.pair .i (.pair .i (.pair .str .i))))) (.pair (.sl (.pair .i (.pair .i (.pair .i (.pair .str .i))))) (.sl .str)))))) 60)])], wr := [4] }
  | 128 => { nz := [(11, [12])] }
  | _ => {}
noncomputable def F71 (P : Program) (lf : Nat) (x : tt [(true, (.pair .str (.pair (.sl (.pair .str (.pair .i .i))) (.sl (.pair .str (.pair .i (.pair .i (.pair (.sl (.pair .i (.pair .i (.pair .i (.pair .str .i))))) (.pair (.sl (.pair .i (.pair .i (.pair .i (.pair .str .i))))) (.sl .str)))))))))), (true, (.pair .str (.pair .i (.pair .i (.pair (.sl (.pair .i (.pair .i (.pair .i (.pair .str .i))))) (.pair (.sl (.pair .i (.pair .i (.pair .i (.pair .str .i))))) (.sl .str)))))))]) : Option (tt [(true, (.pair .str (.pair (.sl (.pair .str (.pair .i .i))) (.sl (.pair .str (.pair .i (.pair .i (.pair (.sl (.pair .i (.pair .i (.pair .i (.pair .str .i))))) (.pair (.sl (.pair .i (.pair .i (.pair .i (.pair .str .i))))) (.sl .str)))))))))), (false, .i)]) := fnF P (C153 P lf) S71 71 [(true, (.pair .str (.pair (.sl (.pair .str (.pair .i .i))) (.sl (.pair .str (.pair .i (.pair .i (.pair (.sl (.pair .i (.pair .i (.pair .i (.pair .str .i))))) (.pair (.sl (.pair .i (.pair .i (.pair .i (.pair .str .i))))) (.sl .str)))))))))), (true, (.pair .str (.pair .i (.pair .i (.pair (.sl (.pair .i (.pair .i (.pair .i (.pair .str .i))))) (.pair (.sl (.pair .i (.pair .i (.pair .i (.pair .str .i))))) (.sl .str)))))))] [(true, (.pair .str (.pair (.sl (.pair .str (.pair .i .i))) (.sl (.pair .str (.pair .i (.pair .i (.pair (.sl (.pair .i (.pair .i (.pair .i (.pair .str .i))))) (.pair (.sl (.pair .i (.pair .i (.pair .i (.pair .str .i))))) (.sl .str)))))))))), (false, .i)] lf x
noncomputable def C71 (P : Program) (lf : Nat) : FuncId → Option Con := extC (C153 P lf) 71 (dataCon [(true, (.pair .str (.pair (.sl (.pair .str (.pair .i .i))) (.sl (.pair .str (.pair .i (.pair .i (.pair (.sl (.pair .i (.pair .i (.pair .i (.pair .str .i))))) (.pair (.sl (.pair .i (.pair .i (.pair .i (.pair .str .i))))) (.sl .str)))))))))), (true, (.pair .str (.pair .i (.pair .i (.pair (.sl (.pair .i (.pair .i (.pair .i (.pair .str .i))))) (.pair (.sl (.pair .i (.pair .i (.pair .i (.pair .str .i))))) (.sl .str)))))))] [(true, (.pair .str (.pair (.sl (.pair .str (.pair .i .i))) (.sl (.pair .str (.pair .i (.pair .i (.pair (.sl (.pair .i (.pair .i (.pair .i (.pair .str .i))))) (.pair (.sl (.pair .i (.pair .i (.pair .i (.pair .str .i))))) (.sl .str)))))))))), (false, .i)] (F71 P lf))
def S213 : FuncId → Sp := fun g => match g with
  | 128 => { nz := [(11, [12])] }
  | _ => {}
noncomputable def F213 (P : Program) (lf : Nat) (x : tt [(true, (.sl (.pair .i (.pair .i (.pair .i (.pair .str .i))))))]) : Option (tt [(true, (.sl (.pair .i (.pair .i (.pair .i (.pair .str .i))))))]) := fnF P (C71 P lf) S213 213 [(true, (.sl (.pair .i (.pair .i (.pair .i (.pair .str .i))))))] [(true, (.sl (.pair .i (.pair .i (.pair .i (.pair .str .i))))))] lf x
noncomputable def C213 (P : Program) (lf : Nat) : FuncId → Option Con := extC (C71 P lf) 213 (dataCon [(true, (.sl (.pair .i (.pair .i (.pair .i (.pair .str .i))))))] [(true, (.sl (.pair .i (.pair .i (.pair .i (.pair .str .i))))))] (F213 P lf))
def S155 : FuncId → Sp := fun g => match g with
  | 128 => { nz := [(11, [12])] }
  | _ => {}
noncomputable def F155 (P : Program) (lf : Nat) (x : tt [(true, (.pair .str (.pair .i (.pair .i (.pair (.sl (.pair .i (.pair .i (.pair .i (.pair .str .i))))) (.pair (.sl (.pair .i (.pair .i (.pair .i (.pair .str .i))))) (.sl .str)))))))]) : Option (tt [(true, (.pair .str (.pair .i (.pair .i (.pair (.sl (.pair .i (.pair .i (.pair .i (.pair .str .i))))) (.pair (.sl (.pair .i (.pair .i (.pair .i (.pair .str .i))))) (.sl .str)))))))]) := fnF P (C213 P lf) S155 155 [(true, (.pair .str (.pair .i (.pair .i (.pair (.sl (.pair .i (.pair .i (.pair .i (.pair .str .i))))) (.pair (.sl (.pair .i (.pair .i (.pair .i (.pair .str .i))))) (.sl .str)))))))] [(true, (.pair .str (.pair .i (.pair .i (.pair (.sl (.pair .i (.pair .i (.pair .i (.pair .str .i))))) (.pair (.sl (.pair .i (.pair .i (.pair .i (.pair .str .i))))) (.sl .str)))))))] lf x
noncomputable def C155 (P : Program) (lf : Nat) : FuncId → Option Con := extC (C213 P lf) 155 (dataCon [(true, (.pair .str (.pair .i (.pair .i (.pair (.sl (.pair .i (.pair .i (.pair .i (.pair .str .i))))) (.pair (.sl (.pair .i (.pair .i (.pair .i (.pair .str .i))))) (.sl .str)))))))] [(true, (.pair .str (.pair .i (.pair .i (.pair (.sl (.pair .i (.pair .i (.pair .i (.pair .str .i))))) (.pair (.sl (.pair .i (.pair .i (.pair .i (.pair .str .i))))) (.sl .str)))))))] (F155 P lf))
def S72 : FuncId → Sp := fun g => match g with
  | 154 => { loops := [(3, [(.slot 16, .dat .i), (.cell 3 2, .own (.pair .str (.pair .i (.pair .i (.pair (.sl (.pair .i (.pair .i (.pair .i (.pair .str .i))))) (.pair (.sl (.pair .i (.pair .i (.pair .i (.pair .str .i))))) (.sl .str)))))) 60)])] }
  | 128 => { nz := [(11, [12])] }
  | _ => {}
noncomputable def F72 (P : Program) (lf : Nat) (x : tt [(true, (.pair .str (.pair (.sl (.pair .str (.pair .i .i))) (.sl (.pair .str (.pair .i (.pair .i (.pair (.sl (.pair .i (.pair .i (.pair .i (.pair .str .i))))) (.pair (.sl (.pair .i (.pair .i (.pair .i (.pair .str .i))))) (.sl .str)))))))))), (true, (.pair .str (.pair .i (.pair .i (.pair (.sl (.pair .i (.pair .i (.pair .i (.pair .str .i))))) (.pair (.sl (.pair .i (.pair .i (.pair .i (.pair .str .i))))) (.sl .str)))))))]) : Option (tt [(true, (.pair .str (.pair (.sl (.pair .str (.pair .i .i))) (.sl (.pair .str (.pair .i (.pair .i (.pair (.sl (.pair .i (.pair .i (.pair .i (.pair .str .i))))) (.pair (.sl (.pair .i (.pair .i (.pair .i (.pair .str .i))))) (.sl .str)))))))))), (false, .i)]) := fnF P (C155 P lf) S72 72 [(true, (.pair .str (.pair (.sl (.pair .str (.pair .i .i))) (.sl (.pair .str (.pair .i (.pair .i (.pair (.sl (.pair .i (.pair .i (.pair .i (.pair .str .i))))) (.pair (.sl (.pair .i (.pair .i (.pair .i (.pair .str .i))))) (.sl .str)))))))))), (true, (.pair .str (.pair .i (.pair .i (.pair (.sl (.pair .i (.pair .i (.pair .i (.pair .str .i))))) (.pair (.sl (.pair .i (.pair .i (.pair .i (.pair .str .i))))) (.sl .str)))))))] [(true, (.pair .str (.pair (.sl (.pair .str (.pair .i .i))) (.sl (.pair .str (.pair .i (.pair .i (.pair (.sl (.pair .i (.pair .i (.pair .i (.pair .str .i))))) (.pair (.sl (.pair .i (.pair .i (.pair .i (.pair .str .i))))) (.sl .str)))))))))), (false, .i)] lf x
noncomputable def C72 (P : Program) (lf : Nat) : FuncId → Option Con := extC (C155 P lf) 72 (dataCon [(true, (.pair .str (.pair (.sl (.pair .str (.pair .i .i))) (.sl (.pair .str (.pair .i (.pair .i (.pair (.sl (.pair .i (.pair .i (.pair .i (.pair .str .i))))) (.pair (.sl (.pair .i (.pair .i (.pair .i (.pair .str .i))))) (.sl .str)))))))))), (true, (.pair .str (.pair .i (.pair .i (.pair (.sl (.pair .i (.pair .i (.pair .i (.pair .str .i))))) (.pair (.sl (.pair .i (.pair .i (.pair .i (.pair .str .i))))) (.sl .str)))))))] [(true, (.pair .str (.pair (.sl (.pair .str (.pair .i .i))) (.sl (.pair .str (.pair .i (.pair .i (.pair (.sl (.pair .i (.pair .i (.pair .i (.pair .str .i))))) (.pair (.sl (.pair .i (.pair .i (.pair .i (.pair .str .i))))) (.sl .str)))))))))), (false, .i)] (F72 P lf))
def S14 : FuncId → Sp := fun g => match g with
  | 14 => { joins := [(10, [(.slot 110, .dat .bool)])], loops := [(12, [(.slot 113, .dat .i)])] }
  | 128 => { nz := [(11, [12])] }
  | _ => {}
noncomputable def F14 (P : Program) (lf : Nat) (x : tt [(true, (.pair .str (.pair (.sl (.pair .str (.pair .i .i))) (.sl (.pair .str (.pair .i (.pair .i (.pair (.sl (.pair .i (.pair .i (.pair .i (.pair .str .i))))) (.pair (.sl (.pair .i (.pair .i (.pair .i (.pair .str .i))))) (.sl .str)))))))))), (true, (.pair .str (.pair .i (.pair .i (.pair (.sl (.pair .i (.pair .i (.pair .i (.pair .str .i))))) (.pair (.sl (.pair .i (.pair .i (.pair .i (.pair .str .i))))) (.sl .str))))))), (false, .i)]) : Option (tt [(false, .bool)]) := fnF P (C72 P lf) S14 14 [(true, (.pair .str (.pair (.sl (.pair .str (.pair .i .i))) (.sl (.pair .str (.pair .i (.pair .i (.pair (.sl (.pair .i (.pair .i (.pair .i (.pair .str .i))))) (.pair (.sl (.pair .i (.pair .i (.pair .i (.pair .str .i))))) (.sl .str)))))))))), (true, (.pair .str (.pair .i (.pair .i (.pair (.sl (.pair .i (.pair .i (.pair .i (.pair .str .i))))) (.pair (.sl (.pair .i (.pair .i (.pair .i (.pair .str .i))))) (.sl .str))))))), (false, .i)] [(false, .bool)] lf x
noncomputable def C14 (P : Program) (lf : Nat) : FuncId → Option Con := extC (C72 P lf) 14 (dataCon [(true, (.pair .str (.pair (.sl (.pair .str (.pair .i .i))) (.sl (.pair .str (.pair .i (.pair .i (.pair (.sl (.pair .i (.pair .i (.pair .i (.pair .str .i))))) (.pair (.sl (.pair .i (.pair .i (.pair .i (.pair .str .i))))) (.sl .str)))))))))), (true, (.pair .str (.pair .i (.pair .i (.pair (.sl (.pair .i (.pair .i (.pair .i (.pair .str .i))))) (.pair (.sl (.pair .i (.pair .i (.pair .i (.pair .str .i))))) (.sl .str))))))), (false, .i)] [(false, .bool)] (F14 P lf))
end Go.K
set_option linter.unusedVariables false
set_option linter.unusedSimpArgs false
set_option maxRecDepth 100000
namespace Go.K
open Go.Sl Go.Sx Go.Proofs
theorem cond_len {f : List Fct} {c : Cnd} (h : condE f c = 0) : List.length c ≤ 30 := by
  unfold condE at h
  split at h
  · cases h
  · omega
theorem VC.lens {c : Cd} (h : VC c) {i : Nat} {r : Rl} (hr : c.2.2[i]? = some r) : List.length r.2.2.2.1 ≤ 30 ∧ List.length r.2.2.2.2.1 ≤ 30 ∧ r.2.2.2.2.2.length ≤ 6 := by
  obtain ⟨h1, h2⟩ := h.conds (List.mem_of_getElem? hr)
  exact ⟨cond_len h1, cond_len h2, (h.rule hr).2.2.2.2.2.1⟩
end Go.K
namespace Go.Sx
open Go.Sl Go.Shelf Go.Proofs
variable {P : Program} {ρ : Ren} {h : Zone} {L : List Atom} {w : World} {E : TypeId} {o : Option Addr} {cap : Nat} {xs : List Int}
theorem rows_int : ∀ {xs : List Int} {cs : List Value}, Rows Ty.int h cs xs ↔ cs = xs.map (Value.int .i64)
  | [], cs => by simp [Rows]
  | x :: xs, cs => by
    constructor
    · rintro ⟨c, d, rfl, hc, hd⟩
      have hc' : c = [.int .i64 x] := hc
      rw [hc', (rows_int (xs := xs)).1 hd]
      rfl
    · intro e
      subst e
      exact ⟨[.int .i64 x], xs.map (Value.int .i64), rfl, rfl, rows_int.2 rfl⟩
theorem own_ints {cur : Array Value} (hr : Rows Ty.int h (cur.toList.take (xs.length * Ty.int.size)) xs) : cur.toList.take xs.length = xs.map (Value.int .i64) := by
  have := rows_int.1 hr
  simpa [Ty.int] using this
theorem St.ownPut (hS : St h L w) {j : Nat} {g : Nat} {ys : List Int} (hj : L[j]? = some (ownS Ty.int E (some ⟨g, 0, none⟩) cap xs)) (hl : ys.length = xs.length) (n : Nat) (os : Array Obj) :
    St h (L.set j (ownS Ty.int E (some ⟨g, 0, none⟩) cap ys)) (Sort.grow (Sort.putRow (Value.int .i64) (Sort.ahead w n) g 0 ys.toArray) os) := by
  obtain ⟨x, hx, hxw, dx, hset⟩ := hS.focus hj
  rcases hx with ⟨e, _⟩ | ⟨g', cur, e, rfl, h1, h2, h3, h4⟩
  · cases e
  · have hg : g' = g := by cases e; rfl
    subst hg
    have hb : w.heap[g']? = some (.cells cur E (0, 0)) := Hp.one_le.1 hxw
    have hsz : cur.size = cap := by simpa [Ty.int] using h3
    have hlen : ys.length ≤ cur.size := by omega
    have hgr := grownBy_sortedI (w := w) (g := g') (n := n) (os := os) ys.toArray
    refine hset _ (ownS Ty.int E (some ⟨g', 0, none⟩) cap ys) (Hp.one g' (.cells (Sort.putCells (Value.int .i64) 0 ys.toArray cur) E (0, 0)))
      (.inr ⟨g', _, rfl, rfl, by omega, h2, by simp [Sort.putCells, h3], ?_⟩) (Hp.one_le.2 (heap_sortedI ys.toArray hb)) (fun b hb' hn => hgr.block b hb' fun e => ?_) (fun b o' e => .inr ?_) hgr.os hgr.tape hgr.output
    · have := take_putCellsI cur ys hlen
      have e1 : ys.length * Ty.int.size = ys.length := by simp [Ty.int]
      rw [e1, this]
      exact rows_int.2 rfl
    · cases e; simp [Hp.one] at hn
    · unfold Hp.one at e ⊢
      split at e
      · rename_i hbg; simp [hbg]
      · cases e
theorem sortOwn (Ly : Lays.n189 P ρ) (hS : St h L w) {j : Nat} (hj : L[j]? = some (ownS Ty.int E o cap xs)) (hsz : xs.length ≤ 4398046511104) :
    Calls P (ρ.f 189) #[.slice o xs.length cap] w fun e w' => ∃ v, e = .returned v ∧ v = .tuple #[] ∧ St h (L.set j (ownS Ty.int E o cap (sortL xs))) w' := by
  obtain ⟨x, hx, hxw, dx, hset⟩ := hS.focus hj
  rcases hx with ⟨rfl, rfl, rfl, rfl⟩ | ⟨g, cur, rfl, rfl, h1, h2, h3, h4⟩
  · refine (Any.slices_Sort_int_none Ly none 0 w).mono ?_
    rintro e w' ⟨rfl, rfl⟩
    refine ⟨_, rfl, rfl, ?_⟩
    have : sortL [] = [] := rfl
    rw [this]
    exact hset w' (ownS Ty.int E none 0 []) Hp.nil (.inl ⟨rfl, rfl, rfl, rfl⟩) (Hp.nil_le _) (fun _ _ _ => rfl) (fun b o e => by simp [Hp.nil] at e) rfl rfl rfl
  · have hb : w.heap[g]? = some (.cells cur E (0, 0)) := Hp.one_le.1 hxw
    have hH := holds_of_blockI hb (own_ints h4)
    refine (Any.slices_Sort_int Ly g 0 cap xs w hH (Array.getElem?_eq_some_iff.1 hb).1 (by omega)).mono ?_
    rintro e w' ⟨rfl, n, os, rfl⟩
    rw [sortL_eq]
    exact ⟨_, rfl, rfl, St.ownPut hS hj (sortL_len xs).symm n os⟩
theorem compactOwn (Ly : SlLaysN.n43 P ρ) (hS : St h L w) {j : Nat} (hj : L[j]? = some (ownS Ty.int E o cap xs)) (hsz : xs.length ≤ 4398046511104) :
    Calls P (ρ.f 43) #[.slice o xs.length cap] w fun e w' => ∃ v, e = .returned v ∧ v = .slice o (compL xs).length cap ∧ St h (L.set j (ownS Ty.int E o cap (compL xs))) w' := by
  obtain ⟨x, hx, hxw, dx, hset⟩ := hS.focus hj
  rcases hx with ⟨rfl, rfl, rfl, rfl⟩ | ⟨g, cur, rfl, rfl, h1, h2, h3, h4⟩
  · refine (AnyG.slices_Compact_int_empty Ly none 0 w).mono ?_
    rintro e w' ⟨rfl, rfl⟩
    have hc : compL [] = [] := by simp [compL, Lib.compact, Lib.compactUpTo]
    rw [hc]
    exact ⟨_, rfl, rfl, hset w' (ownS Ty.int E none 0 []) Hp.nil (.inl ⟨rfl, rfl, rfl, rfl⟩) (Hp.nil_le _) (fun _ _ _ => rfl) (fun b o e => by simp [Hp.nil] at e) rfl rfl rfl⟩
  · have hb : w.heap[g]? = some (.cells cur E (0, 0)) := Hp.one_le.1 hxw
    have hH := holds_of_blockI hb (own_ints h4)
    refine (AnyG.slices_Compact_int Ly g 0 cap xs w hH (by omega) h1).mono ?_
    rintro e w' ⟨rfl, q, rfl⟩
    have hle : (Lib.compact xs).length ≤ xs.length := by
      unfold Lib.compact Lib.compactUpTo
      rw [List.length_map]
      exact Nat.le_trans (List.length_filter_le _ _) (by simp)
    have hlen : (Lib.compact xs ++ List.replicate (xs.length - (Lib.compact xs).length) 0).length = xs.length := by
      rw [List.length_append, List.length_replicate]; omega
    have h5 := St.ownPut hS hj hlen q #[]
    rw [Sort.grow_empty] at h5
    refine ⟨_, rfl, rfl, ?_⟩
    have hlt := (List.getElem?_eq_some_iff.1 hj).1
    have h6 := h5.ownTake (j := j) (T := Ty.int) (E := E) (o := some ⟨g, 0, none⟩) (cap := cap) (xs := Lib.compact xs ++ List.replicate (xs.length - (Lib.compact xs).length) 0) (by simp [hlt]) (n := (Lib.compact xs).length) (by rw [hlen]; exact hle)
    have h7 : (Lib.compact xs ++ List.replicate (xs.length - (Lib.compact xs).length) 0).take (Lib.compact xs).length = compL xs := by simp [compL]
    rw [h7] at h6
    simpa using h6
def lenC {α : Type} (xs : List α) : Option Unit := if xs.length ≤ 1099511627776 then some () else none
theorem lenC_spec {α : Type} {xs : List α} {u : Unit} (e : lenC xs = some u) : xs.length ≤ 1099511627776 := by
  unfold lenC at e
  split at e
  · assumption
  · cases e
end Go.Sx
set_option linter.unusedVariables false
set_option linter.unusedSimpArgs false
namespace Go.Sx
open Go.Sl Go.Shelf Go.Proofs
variable {P : Program} {ρ : Ren} {h : Zone} {L : List Atom} {w : World} {E : TypeId} {o : Option Addr} {cap : Nat} {xs : List ByteArray}
abbrev bL (s : ByteArray) : List UInt8 := s.data.toList
abbrev lB (l : List UInt8) : ByteArray := ⟨l.toArray⟩
theorem lB_bL (s : ByteArray) : lB (bL s) = s := by cases s; simp [lB, bL]
theorem bL_lB (l : List UInt8) : bL (lB l) = l := by simp [lB, bL]
theorem map_lB_bL : ∀ xs : List ByteArray, (xs.map bL).map lB = xs
  | [] => rfl
  | x :: xs => by rw [List.map_cons, List.map_cons, lB_bL, map_lB_bL xs]
theorem map_enc (ys : List (List UInt8)) : (ys.map lB).map Value.string = ys.map encStr := by rw [List.map_map]; rfl
theorem enc_map (xs : List ByteArray) : (xs.map bL).map encStr = xs.map Value.string := by rw [← map_enc, map_lB_bL]
def sortB (xs : List ByteArray) : List ByteArray := ((xs.map bL).mergeSort fun x y => decide (x ≤ y)).map lB
def compB (xs : List ByteArray) : List ByteArray := (Lib.compact (xs.map bL)).map lB
theorem sortB_len (xs : List ByteArray) : (sortB xs).length = xs.length := by simp [sortB]
theorem rows_strs : ∀ {xs : List ByteArray} {cs : List Value}, Rows Ty.str h cs xs ↔ cs = xs.map Value.string
  | [], cs => by simp [Rows]
  | x :: xs, cs => by
    constructor
    · rintro ⟨c, d, rfl, hc, hd⟩
      have hc' : c = [.string x] := hc
      rw [hc', (rows_strs (xs := xs)).1 hd]
      rfl
    · intro e
      subst e
      exact ⟨[.string x], xs.map Value.string, rfl, rfl, rows_strs.2 rfl⟩
theorem own_strs {cur : Array Value} (hr : Rows Ty.str h (cur.toList.take (xs.length * Ty.str.size)) xs) : cur.toList.take (xs.map bL).length = (xs.map bL).map encStr := by
  have := rows_strs.1 hr
  rw [enc_map, List.length_map]
  simpa [Ty.str] using this
theorem St.ownPutS (hS : St h L w) {j : Nat} {g : Nat} {ys : List (List UInt8)} (hj : L[j]? = some (ownS Ty.str E (some ⟨g, 0, none⟩) cap xs)) (hl : ys.length = xs.length) (n : Nat) (os : Array Obj) :
    St h (L.set j (ownS Ty.str E (some ⟨g, 0, none⟩) cap (ys.map lB))) (Sort.grow (Sort.putRow encStr (Sort.ahead w n) g 0 ys.toArray) os) := by
  obtain ⟨x, hx, hxw, dx, hset⟩ := hS.focus hj
  rcases hx with ⟨e, _⟩ | ⟨g', cur, e, rfl, h1, h2, h3, h4⟩
  · cases e
  · have hg : g' = g := by cases e; rfl
    subst hg
    have hb : w.heap[g']? = some (.cells cur E (0, 0)) := Hp.one_le.1 hxw
    have hsz : cur.size = cap := by simpa [Ty.str] using h3
    have hlen : ys.length ≤ cur.size := by omega
    have hgr := grownBy_sorted (w := w) (g := g') (n := n) (os := os) ys.toArray
    refine hset _ (ownS Ty.str E (some ⟨g', 0, none⟩) cap (ys.map lB)) (Hp.one g' (.cells (Sort.putCells encStr 0 ys.toArray cur) E (0, 0)))
      (.inr ⟨g', _, rfl, rfl, by rw [List.length_map]; omega, h2, by simp [Sort.putCells, h3], ?_⟩) (Hp.one_le.2 (heap_sorted ys.toArray hb)) (fun b hb' hn => hgr.block b hb' fun e => ?_) (fun b o' e => .inr ?_) hgr.os hgr.tape hgr.output
    · have := take_putCells cur ys hlen
      have e1 : (ys.map lB).length * Ty.str.size = ys.length := by simp [Ty.str]
      rw [e1, this]
      exact rows_strs.2 (map_enc ys).symm
    · cases e; simp [Hp.one] at hn
    · unfold Hp.one at e ⊢
      split at e
      · rename_i hbg; simp [hbg]
      · cases e
theorem sortOwnS (Ly : Lays.n190 P ρ) (hS : St h L w) {j : Nat} (hj : L[j]? = some (ownS Ty.str E o cap xs)) (hsz : xs.length ≤ 4398046511104) :
    Calls P (ρ.f 190) #[.slice o xs.length cap] w fun e w' => ∃ v, e = .returned v ∧ v = .tuple #[] ∧ St h (L.set j (ownS Ty.str E o cap (sortB xs))) w' := by
  obtain ⟨x, hx, hxw, dx, hset⟩ := hS.focus hj
  rcases hx with ⟨rfl, rfl, rfl, rfl⟩ | ⟨g, cur, rfl, rfl, h1, h2, h3, h4⟩
  · refine (Any.slices_Sort_string_none Ly none 0 w).mono ?_
    rintro e w' ⟨rfl, rfl⟩
    refine ⟨_, rfl, rfl, ?_⟩
    have : sortB [] = [] := by simp [sortB]
    rw [this]
    exact hset w' (ownS Ty.str E none 0 []) Hp.nil (.inl ⟨rfl, rfl, rfl, rfl⟩) (Hp.nil_le _) (fun _ _ _ => rfl) (fun b o e => by simp [Hp.nil] at e) rfl rfl rfl
  · have hb : w.heap[g]? = some (.cells cur E (0, 0)) := Hp.one_le.1 hxw
    have hH := holds_of_block hb (own_strs h4)
    have hl : (xs.map bL).length = xs.length := List.length_map ..
    have hc := Any.slices_Sort_string Ly g 0 cap (xs.map bL) w hH (Array.getElem?_eq_some_iff.1 hb).1 (by omega)
    rw [hl] at hc
    refine hc.mono ?_
    rintro e w' ⟨rfl, n, os, rfl⟩
    exact ⟨_, rfl, rfl, St.ownPutS hS hj (by simp) n os⟩
theorem compactOwnS (Ly : Lays.n194 P ρ) (hS : St h L w) {j : Nat} (hj : L[j]? = some (ownS Ty.str E o cap xs)) (hsz : xs.length ≤ 4398046511104) :
    Calls P (ρ.f 194) #[.slice o xs.length cap] w fun e w' => ∃ v, e = .returned v ∧ v = .slice o (compB xs).length cap ∧ St h (L.set j (ownS Ty.str E o cap (compB xs))) w' := by
  obtain ⟨x, hx, hxw, dx, hset⟩ := hS.focus hj
  rcases hx with ⟨rfl, rfl, rfl, rfl⟩ | ⟨g, cur, rfl, rfl, h1, h2, h3, h4⟩
  · refine (Any.slices_Compact_string_empty Ly none 0 w).mono ?_
    rintro e w' ⟨rfl, rfl⟩
    have hc : compB [] = [] := by simp [compB, Lib.compact, Lib.compactUpTo]
    rw [hc]
    exact ⟨_, rfl, rfl, hset w' (ownS Ty.str E none 0 []) Hp.nil (.inl ⟨rfl, rfl, rfl, rfl⟩) (Hp.nil_le _) (fun _ _ _ => rfl) (fun b o e => by simp [Hp.nil] at e) rfl rfl rfl⟩
  · have hb : w.heap[g]? = some (.cells cur E (0, 0)) := Hp.one_le.1 hxw
    have hH := holds_of_block hb (own_strs h4)
    have hl : (xs.map bL).length = xs.length := List.length_map ..
    have hcc := Any.slices_Compact_string Ly g 0 cap (xs.map bL) w hH (by omega) (by omega)
    rw [hl] at hcc
    refine hcc.mono ?_
    rintro e w' ⟨rfl, q, rfl⟩
    have hle : (Lib.compact (xs.map bL)).length ≤ xs.length := by
      unfold Lib.compact Lib.compactUpTo
      rw [List.length_map]
      exact Nat.le_trans (List.length_filter_le _ _) (by simp)
    have hlen : (Lib.compact (xs.map bL) ++ List.replicate (xs.length - (Lib.compact (xs.map bL)).length) []).length = xs.length := by
      rw [List.length_append, List.length_replicate]; omega
    have h5 := St.ownPutS hS hj hlen q #[]
    rw [Sort.grow_empty] at h5
    have hk : (compB xs).length = (Lib.compact (xs.map bL)).length := List.length_map ..
    refine ⟨_, rfl, by rw [hk], ?_⟩
    have hlt := (List.getElem?_eq_some_iff.1 hj).1
    have h6 := h5.ownTake (j := j) (T := Ty.str) (E := E) (o := some ⟨g, 0, none⟩) (cap := cap) (xs := (Lib.compact (xs.map bL) ++ List.replicate (xs.length - (Lib.compact (xs.map bL)).length) []).map lB) (by simp [hlt]) (n := (Lib.compact (xs.map bL)).length) (by rw [List.length_map, hlen]; exact hle)
    have h7 : ((Lib.compact (xs.map bL) ++ List.replicate (xs.length - (Lib.compact (xs.map bL)).length) []).map lB).take (Lib.compact (xs.map bL)).length = compB xs := by
      rw [← List.map_take, List.take_left' rfl]; rfl
    rw [h7] at h6
    simpa using h6
end Go.Sx
set_option linter.unusedVariables false
set_option linter.unusedSimpArgs false
namespace Go.Sx
open Go.Sl Go.Proofs
def ltB (s t : ByteArray) : Prop := bL s < bL t
instance (s t : ByteArray) : Decidable (ltB s t) := inferInstanceAs (Decidable (bL s < bL t))
theorem ltB_irr (s : ByteArray) : ¬ ltB s s := List.lt_irrefl _
theorem bL_inj {s t : ByteArray} (h : bL s = bL t) : s = t := by rw [← lB_bL s, h, lB_bL]
theorem ltB_trans {s t u : ByteArray} (h1 : ltB s t) (h2 : ltB t u) : ltB s u := List.lt_trans h1 h2
theorem ltB_tri (s t : ByteArray) : ltB s t ∨ s = t ∨ ltB t s := by
  by_cases h1 : bL s < bL t
  · exact .inl h1
  · by_cases h2 : bL t < bL s
    · exact .inr (.inr h2)
    · exact .inr (.inl (bL_inj (List.le_antisymm (List.not_lt.1 h2) (List.not_lt.1 h1))))
theorem ltB_asymm {s t : ByteArray} (h1 : ltB s t) (h2 : ltB t s) : False := ltB_irr _ (ltB_trans h1 h2)
def RiseB (l : List ByteArray) : Prop := l.Pairwise ltB
theorem riseB_ext : ∀ {l m : List ByteArray}, RiseB l → RiseB m → (∀ x, x ∈ l ↔ x ∈ m) → l = m
  | [], [], _, _, _ => rfl
  | [], b :: m, _, _, h => absurd ((h b).2 (List.mem_cons_self ..)) (List.not_mem_nil)
  | a :: l, [], _, _, h => absurd ((h a).1 (List.mem_cons_self ..)) (List.not_mem_nil)
  | a :: l, b :: m, hl, hm, h => by
    obtain ⟨h1, h2⟩ := List.pairwise_cons.1 hl
    obtain ⟨k1, k2⟩ := List.pairwise_cons.1 hm
    have e : a = b := by
      rcases List.mem_cons.1 ((h a).1 (List.mem_cons_self ..)) with e | e
      · exact e
      · rcases List.mem_cons.1 ((h b).2 (List.mem_cons_self ..)) with e' | e'
        · exact e'.symm
        · exact (ltB_asymm (k1 a e) (h1 b e')).elim
    subst e
    congr 1
    refine riseB_ext h2 k2 fun x => ⟨fun hx => ?_, fun hx => ?_⟩
    · rcases List.mem_cons.1 ((h x).1 (List.mem_cons_of_mem _ hx)) with e | e
      · subst e; exact absurd (h1 x hx) (ltB_irr _)
      · exact e
    · rcases List.mem_cons.1 ((h x).2 (List.mem_cons_of_mem _ hx)) with e | e
      · subst e; exact absurd (k1 x hx) (ltB_irr _)
      · exact e
theorem compUS {d : Array (List UInt8)} (hs : ∀ i j, i < j → j < d.size → d[i]! ≤ d[j]!) : ∀ m, m ≤ d.size → (Lib.compactUpTo d m).Pairwise (· < ·) ∧ ∀ x, x ∈ Lib.compactUpTo d m ↔ ∃ j, j < m ∧ d[j]! = x
  | 0, _ => by simp [Lib.compactUpTo]
  | m + 1, hm => by
    obtain ⟨h1, h2⟩ := compUS hs m (by omega)
    rw [Lib.compactUpTo_succ]
    by_cases hk : Lib.keeps d m = true
    · rw [if_pos hk]
      have hlt : ∀ x ∈ Lib.compactUpTo d m, x < d[m]! := fun x hx => by
        obtain ⟨j, hj, rfl⟩ := (h2 x).1 hx
        unfold Lib.keeps at hk
        have hk' := of_decide_eq_true hk
        have hne := hk'.resolve_left (by omega)
        have a1 : d[m - 1]! ≤ d[m]! := hs (m - 1) m (by omega) (by omega)
        have a2 : d[j]! ≤ d[m - 1]! := by
          rcases Nat.eq_or_lt_of_le (show j ≤ m - 1 by omega) with e | e
          · rw [e]; exact List.le_refl _
          · exact hs j (m - 1) e (by omega)
        have a3 := List.le_trans a2 a1
        refine Classical.byContradiction fun hn => hne ?_
        have e : d[j]! = d[m]! := List.le_antisymm a3 (List.not_lt.1 hn)
        rw [e] at a2
        exact List.le_antisymm a2 a1
      refine ⟨List.pairwise_append.2 ⟨h1, List.pairwise_singleton _ _, fun x hx y hy => ?_⟩, fun x => ?_⟩
      · simp only [List.mem_singleton] at hy; subst hy; exact hlt x hx
      · rw [List.mem_append, h2, List.mem_singleton]
        refine ⟨fun h => ?_, fun ⟨j, hj, e⟩ => ?_⟩
        · rcases h with ⟨j, hj, e⟩ | e
          · exact ⟨j, by omega, e⟩
          · exact ⟨m, by omega, e.symm⟩
        · rcases Nat.eq_or_lt_of_le (Nat.le_of_lt_succ hj) with e' | e'
          · subst e'; exact .inr e.symm
          · exact .inl ⟨j, e', e⟩
    · rw [if_neg hk, List.append_nil]
      refine ⟨h1, fun x => ?_⟩
      rw [h2]
      refine ⟨fun ⟨j, hj, e⟩ => ⟨j, by omega, e⟩, fun ⟨j, hj, e⟩ => ?_⟩
      rcases Nat.eq_or_lt_of_le (Nat.le_of_lt_succ hj) with e' | e'
      · subst e'
        unfold Lib.keeps at hk
        have hk' : ¬ (j = 0 ∨ d[j]! ≠ d[j - 1]!) := fun h => hk (decide_eq_true h)
        have h0 : j ≠ 0 := fun h => hk' (.inl h)
        have he : d[j]! = d[j - 1]! := Classical.byContradiction fun h => hk' (.inr h)
        exact ⟨j - 1, by omega, he ▸ e⟩
      · exact ⟨j, e', e⟩
theorem scB_rise (xs : List ByteArray) : RiseB (compB (sortB xs)) ∧ ∀ x, x ∈ compB (sortB xs) ↔ x ∈ xs := by
  have tr : ∀ a b c : List UInt8, decide (a ≤ b) = true → decide (b ≤ c) = true → decide (a ≤ c) = true := fun a b c h1 h2 => by simp only [decide_eq_true_eq] at *; exact List.le_trans h1 h2
  have hto : ∀ a b : List UInt8, (decide (a ≤ b) || decide (b ≤ a)) = true := fun a b => by simp only [Bool.or_eq_true, decide_eq_true_eq]; exact List.le_total a b
  unfold compB sortB
  have e : ∀ l : List (List UInt8), (l.map lB).map bL = l := fun l => by
    induction l with
    | nil => rfl
    | cons a l ih => rw [List.map_cons, List.map_cons, bL_lB, ih]
  rw [e]
  have hp := List.mergeSort_perm (xs.map bL) (fun x y => decide (x ≤ y))
  have hsd := List.pairwise_mergeSort tr hto (xs.map bL)
  generalize (xs.map bL).mergeSort (fun x y => decide (x ≤ y)) = ys at hp hsd ⊢
  have hs : ∀ i j, i < j → j < ys.toArray.size → ys.toArray[i]! ≤ ys.toArray[j]! := fun i j hij hj => by
    simp only [List.size_toArray] at hj
    have hi : i < ys.length := by omega
    have := List.pairwise_iff_getElem.1 hsd i j hi hj hij
    simpa [hi, hj] using this
  obtain ⟨h1, h2⟩ := compUS hs ys.length (by simp)
  refine ⟨?_, fun x => ?_⟩
  · refine List.pairwise_map.2 (List.Pairwise.imp (fun {a b} hab => ?_) h1)
    show bL (lB a) < bL (lB b)
    rw [bL_lB, bL_lB]; exact hab
  · rw [List.mem_map]
    constructor
    · rintro ⟨a, ha, rfl⟩
      obtain ⟨j, hj, ej⟩ := (h2 a).1 ha
      have hm : a ∈ ys := by
        have : ys.toArray[j]! = ys[j] := by simp [hj]
        rw [← ej, this]; exact List.getElem_mem hj
      obtain ⟨s, hs1, rfl⟩ := List.mem_map.1 (hp.mem_iff.1 hm)
      rw [lB_bL]; exact hs1
    · intro hx
      have hm : bL x ∈ ys := hp.mem_iff.2 (List.mem_map.2 ⟨x, hx, rfl⟩)
      obtain ⟨j, hj, ej⟩ := List.mem_iff_getElem.1 hm
      refine ⟨bL x, (h2 _).2 ⟨j, hj, ?_⟩, lB_bL x⟩
      rw [← ej]; simp [hj]
theorem compB_len (xs : List ByteArray) : (compB xs).length ≤ xs.length := by
  unfold compB Lib.compact Lib.compactUpTo
  rw [List.length_map, List.length_map]
  exact Nat.le_trans (List.length_filter_le _ _) (by simp)
def cutB (l : List ByteArray) (s : ByteArray) : Nat → Nat
  | 0 => 0
  | k + 1 => if ltB s (l.getD k ByteArray.empty) then cutB l s k else k + 1
def memB (l : List ByteArray) (s : ByteArray) : Bool := l.any fun x => x.data.toList == s.data.toList
theorem memB_iff {l : List ByteArray} {s : ByteArray} : memB l s = true ↔ s ∈ l := by
  unfold memB
  rw [List.any_eq_true]
  constructor
  · rintro ⟨x, hx, e⟩
    have : x = s := bL_inj (by simpa using e)
    exact this ▸ hx
  · intro h
    exact ⟨s, h, by simp⟩
def putB (l : List ByteArray) (s : ByteArray) : List ByteArray := if memB l s = true then l else l.take (cutB l s l.length) ++ s :: l.drop (cutB l s l.length)
theorem cutB_le (l : List ByteArray) (s : ByteArray) : ∀ k, cutB l s k ≤ k
  | 0 => Nat.le_refl _
  | k + 1 => by
    unfold cutB
    split
    · exact Nat.le_succ_of_le (cutB_le l s k)
    · exact Nat.le_refl _
theorem RiseB.get {l : List ByteArray} (h : RiseB l) {i j : Nat} (hi : i < j) (hj : j < l.length) : ltB l[i] l[j] := List.pairwise_iff_getElem.1 h i j (by omega) hj hi
theorem getD_at {l : List ByteArray} {i : Nat} (h : i < l.length) (d : ByteArray) : l.getD i d = l[i] := by
  rw [List.getD_eq_getElem?_getD, List.getElem?_eq_getElem h]; rfl
theorem cutB_rise {l : List ByteArray} (hr : RiseB l) (s : ByteArray) : ∀ k, k ≤ l.length → (∀ i, i < cutB l s k → ¬ ltB s (l.getD i ByteArray.empty)) ∧ ∀ i, cutB l s k ≤ i → i < k → ltB s (l.getD i ByteArray.empty)
  | 0, _ => ⟨fun i hi => by simp [cutB] at hi, fun i _ hi => by omega⟩
  | k + 1, hk => by
    unfold cutB
    split
    · rename_i h
      obtain ⟨h1, h2⟩ := cutB_rise hr s k (by omega)
      refine ⟨h1, fun i hi hlt => ?_⟩
      by_cases e : i = k
      · subst e; exact h
      · exact h2 i hi (by omega)
    · rename_i h
      refine ⟨fun i hi hn => ?_, fun i hi hlt => by omega⟩
      by_cases e : i = k
      · subst e; exact h hn
      · have := hr.get (i := i) (j := k) (by omega) (by omega)
        rw [getD_at (by omega)] at h hn
        exact h (ltB_trans hn this)
theorem putB_len (l : List ByteArray) (s : ByteArray) : (putB l s).length ≤ l.length + 1 := by
  unfold putB
  split
  · omega
  · have := cutB_le l s l.length
    simp; omega
theorem putB_rise {l : List ByteArray} (hr : RiseB l) (s : ByteArray) : RiseB (putB l s) ∧ ∀ x, x ∈ putB l s ↔ x ∈ l ∨ x = s := by
  obtain ⟨h1, h2⟩ := cutB_rise hr s l.length (Nat.le_refl _)
  have hle := cutB_le l s l.length
  unfold putB
  generalize cutB l s l.length = k at *
  split
  · rename_i hk
    refine ⟨hr, fun x => ⟨.inl, fun h => ?_⟩⟩
    rcases h with h | h
    · exact h
    · subst h; exact memB_iff.1 hk
  · rename_i hk
    have hlt : ∀ x ∈ l.take k, ltB x s := fun x hx => by
      have hm := List.mem_of_mem_take hx
      obtain ⟨i, hi, rfl⟩ := List.mem_iff_getElem.1 hx
      rw [List.length_take] at hi
      have := h1 i (by omega)
      rw [getD_at (by omega)] at this
      rw [List.getElem_take] at hm ⊢
      rcases ltB_tri l[i] s with h | h | h
      · exact h
      · rw [h] at hm; exact absurd (memB_iff.2 hm) hk
      · exact absurd h this
    have hgt : ∀ x ∈ l.drop k, ltB s x := fun x hx => by
      obtain ⟨i, hi, rfl⟩ := List.mem_iff_getElem.1 hx
      rw [List.length_drop] at hi
      rw [List.getElem_drop]
      have h0 := h2 (k + i) (by omega) (by omega)
      rwa [getD_at (by omega)] at h0
    have htd : l.take k ++ l.drop k = l := List.take_append_drop k l
    have hp := hr
    unfold RiseB at hp ⊢
    rw [← htd, List.pairwise_append] at hp
    refine ⟨List.pairwise_append.2 ⟨hp.1, List.pairwise_cons.2 ⟨hgt, hp.2.1⟩, fun a ha b hb => ?_⟩, fun x => ?_⟩
    · rcases List.mem_cons.1 hb with e | e
      · subst e; exact hlt a ha
      · exact hp.2.2 a ha b e
    · constructor
      · intro hx
        rcases List.mem_append.1 hx with h | h
        · exact .inl (List.mem_of_mem_take h)
        · rcases List.mem_cons.1 h with e | e
          · exact .inr e
          · exact .inl (List.mem_of_mem_drop e)
      · intro hx
        rcases hx with h | h
        · rw [← htd] at h
          rcases List.mem_append.1 h with e | e
          · exact List.mem_append_left _ e
          · exact List.mem_append_right _ (List.mem_cons_of_mem _ e)
        · subst h; exact List.mem_append_right _ (List.mem_cons_self ..)
theorem putBF_rise : ∀ (ns : List ByteArray) {l : List ByteArray}, RiseB l → RiseB (ns.foldl putB l) ∧ ∀ x, x ∈ ns.foldl putB l ↔ x ∈ l ∨ x ∈ ns
  | [], l, h => ⟨h, fun x => by simp⟩
  | n :: ns, l, h => by
    obtain ⟨h1, h2⟩ := putB_rise h n
    obtain ⟨h3, h4⟩ := putBF_rise ns h1
    refine ⟨h3, fun x => ?_⟩
    rw [List.foldl_cons, h4, h2, List.mem_cons, or_assoc]
theorem putBF_sort (ns : List ByteArray) : ns.foldl putB [] = compB (sortB ns) := by
  obtain ⟨h1, h2⟩ := putBF_rise ns (l := []) List.Pairwise.nil
  obtain ⟨h3, h4⟩ := scB_rise ns
  exact riseB_ext h1 h3 fun x => by rw [h2, h4]; simp
end Go.Sx
set_option linter.unusedVariables false
namespace Go.K
open Go.Sl Go.Sx Go.Proofs
noncomputable def C122 (P : Program) (lf : Nat) : FuncId → Option Con := extC (extC (C14 P lf) 121 (rowCon .str sortB)) 122 (cutCon .str compB)
end Go.K
set_option linter.unusedVariables false
set_option maxRecDepth 100000
set_option maxHeartbeats 0
namespace Go.K
open Go.Sl Go.Sx Go.Proofs
open Go.Op (bytesLess)
def S34 : FuncId → Sp := fun g => match g with
  | 34 => { loops := [(3, [(.slot 3, .own .str 9), (.slot 9, .dat .i)])] }
  | 128 => { nz := [(11, [12])] }
  | _ => {}
noncomputable def F34 (P : Program) (lf : Nat) (x : tt [(true, (.sl (.pair .i (.pair .i (.pair .i (.pair .str .i))))))]) : Option (tt [(false, (.sl .str))]) := fnF P (C122 P lf) S34 34 [(true, (.sl (.pair .i (.pair .i (.pair .i (.pair .str .i))))))] [(false, (.sl .str))] lf x
noncomputable def C34 (P : Program) (lf : Nat) : FuncId → Option Con := extC (C122 P lf) 34 (dataCon [(true, (.sl (.pair .i (.pair .i (.pair .i (.pair .str .i))))))] [(false, (.sl .str))] (F34 P lf))
theorem F34_eq (lf : Nat) (a0 : (List (Int × (Int × (Int × (ByteArray × Int)))))) : F34 Tryz.prog lf a0 =
  iter lf (fun y8 : ((List ByteArray) × Int) => cond (decide (y8.2 < (a0.length : Int))) (((getI a0 y8.2)).bind fun r9 => ((F93 Tryz.prog lf r9.1)).bind fun r10 => cond r10 (((appC y8.1 [r9.2.2.2.1])).bind fun r11 => some (.inl (r11, (w64 (y8.2 + (1 : Int)))))) (some (.inl (y8.1, (w64 (y8.2 + (1 : Int))))))) (outR (((ltC y8.1)).bind fun r12 => ((ltC (sortB y8.1))).bind fun r13 => some (compB (sortB y8.1))))) (([] : List ByteArray), (0 : Int)) := by kernel_rfl
def S35 : FuncId → Sp := fun g => match g with
  | 35 => { joins := [(9, [(.slot 6, .dat .i)])], loops := [(7, [(.slot 6, .dat .i)]), (3, [(.slot 3, .dat (.sl .str)), (.slot 11, .dat .i)])] }
  | 128 => { nz := [(11, [12])] }
  | _ => {}
noncomputable def F35 (P : Program) (lf : Nat) (x : tt [(true, (.sl (.pair .i (.pair .i (.pair .i (.pair .str .i))))))]) : Option (tt [(false, (.sl .str))]) := fnF P (C34 P lf) S35 35 [(true, (.sl (.pair .i (.pair .i (.pair .i (.pair .str .i))))))] [(false, (.sl .str))] lf x
noncomputable def C35 (P : Program) (lf : Nat) : FuncId → Option Con := extC (C34 P lf) 35 (dataCon [(true, (.sl (.pair .i (.pair .i (.pair .i (.pair .str .i))))))] [(false, (.sl .str))] (F35 P lf))
theorem F35_eq (lf : Nat) (a0 : (List (Int × (Int × (Int × (ByteArray × Int)))))) : F35 Tryz.prog lf a0 =
  iter lf (fun y14 : ((List ByteArray) × Int) => cond (decide (y14.2 < (a0.length : Int))) (((getI a0 y14.2)).bind fun r15 => ((F98 Tryz.prog lf r15.1)).bind fun r16 => cond (!r16) (some (.inl (y14.1, (w64 (y14.2 + (1 : Int)))))) (((F84 Tryz.prog lf (y14.1, r15.2.2.2.1))).bind fun r17 => cond r17 (some (.inl (y14.1, (w64 (y14.2 + (1 : Int)))))) (jn (iter lf (fun y18 : Int => cond (decide (y18 > (0 : Int))) (((getI y14.1 (w64 (y18 - (1 : Int))))).bind fun r19 => cond (!((bytesLess (ByteArray.toList r19) (ByteArray.toList r15.2.2.2.1)) || ((ByteArray.toList r19) == (ByteArray.toList r15.2.2.2.1)))) (some (.inl (w64 (y18 - (1 : Int))))) (some (.inr (.inl y18)))) (some (.inr (.inl y18)))) (y14.1.length : Int)) (fun y20 : Int => ((subI y14.1 (0 : Int) y20)).bind fun r21 => ((appC ([] : List ByteArray) r21)).bind fun r22 => ((appC r22 [r15.2.2.2.1])).bind fun r23 => ((subI y14.1 y20 (y14.1.length : Int))).bind fun r24 => ((appC r23 r24)).bind fun r25 => some (.inl (r25, (w64 (y14.2 + (1 : Int))))))))) (some (.inr y14.1))) (([] : List ByteArray), (0 : Int)) := by kernel_rfl
def S5 : FuncId → Sp := fun g => match g with
  | 5 => { joins := [(2, [(.slot 30, .dat .bool)])], loops := [(4, [(.slot 34, .dat .i)])] }
  | 128 => { nz := [(11, [12])] }
  | _ => {}
noncomputable def F5 (P : Program) (lf : Nat) (x : tt [(true, (.pair .str (.pair (.sl (.pair .str (.pair .i .i))) (.sl (.pair .str (.pair .i (.pair .i (.pair (.sl (.pair .i (.pair .i (.pair .i (.pair .str .i))))) (.pair (.sl (.pair .i (.pair .i (.pair .i (.pair .str .i))))) (.sl .str)))))))))), (true, (.sl (.pair .i (.pair .i (.pair .i (.pair .str .i))))))]) : Option (tt [(false, .bool)]) := fnF P (C35 P lf) S5 5 [(true, (.pair .str (.pair (.sl (.pair .str (.pair .i .i))) (.sl (.pair .str (.pair .i (.pair .i (.pair (.sl (.pair .i (.pair .i (.pair .i (.pair .str .i))))) (.pair (.sl (.pair .i (.pair .i (.pair .i (.pair .str .i))))) (.sl .str)))))))))), (true, (.sl (.pair .i (.pair .i (.pair .i (.pair .str .i))))))] [(false, .bool)] lf x
theorem F5_eq (lf : Nat) (a0 : ByteArray) (a1 : (List (ByteArray × (Int × Int)))) (a2 : (List (ByteArray × (Int × (Int × ((List (Int × (Int × (Int × (ByteArray × Int))))) × ((List (Int × (Int × (Int × (ByteArray × Int))))) × (List ByteArray)))))))) (a3 : (List (Int × (Int × (Int × (ByteArray × Int)))))) : F5 Tryz.prog lf ((a0, (a1, a2)), a3) =
  jn (((F29 Tryz.prog lf (a1, a3))).bind fun r19 => ((F30 Tryz.prog lf (a1, a3))).bind fun r20 => cond (!(decide (r19 = r20))) (some (.inl true)) (((F31 Tryz.prog lf (a0, (a1, a2)))).bind fun r21 => ((F32 Tryz.prog lf (a0, (a1, a2)))).bind fun r22 => cond (!(decide (r21 = r22))) (some (.inl true)) (((F34 Tryz.prog lf a3)).bind fun r23 => ((F35 Tryz.prog lf a3)).bind fun r24 => ((F33 Tryz.prog lf (r23, r24))).bind fun r25 => some (.inl (!r25))))) (fun y26 : Bool => cond y26 (some false) (iter lf (fun y27 : Int => cond (decide (y27 < (a2.length : Int))) (((getI a2 y27)).bind fun r28 => ((F36 Tryz.prog lf ((a0, (a1, a2)), r28.1))).bind fun r29 => ((F37 Tryz.prog lf ((a0, (a1, a2)), r28.1))).bind fun r30 => cond (!(decide (r29 = r30))) (some (.inr false)) (some (.inl (w64 (y27 + (1 : Int)))))) (outR (((F36 Tryz.prog lf ((a0, (a1, a2)), a0))).bind fun r31 => ((F37 Tryz.prog lf ((a0, (a1, a2)), a0))).bind fun r32 => cond (decide (r31 = r32)) (((F22 Tryz.prog lf ())).bind fun r33 => some r33) (some false)))) (0 : Int))) := by kernel_rfl
end Go.K
set_option linter.unusedVariables false
set_option linter.unusedSimpArgs false
set_option maxRecDepth 100000
set_option maxHeartbeats 0
namespace Go.K
open Go.Sl Go.Sx Go.Proofs
open Go.Op (bytesLess)
noncomputable def G34 (lf : Nat) (x : (List (Int × (Int × (Int × (ByteArray × Int)))))) : Option ((List ByteArray)) :=
  iter lf (fun y8 : ((List ByteArray) × Int) => cond (decide (y8.2 < (x.length : Int))) (((getI x y8.2)).bind fun r9 => ((G93 lf r9.1)).bind fun r10 => cond r10 (((appC y8.1 [r9.2.2.2.1])).bind fun r11 => some (.inl (r11, (w64 (y8.2 + (1 : Int)))))) (some (.inl (y8.1, (w64 (y8.2 + (1 : Int))))))) (outR (((ltC y8.1)).bind fun r12 => ((ltC (sortB y8.1))).bind fun r13 => some (compB (sortB y8.1))))) (([] : List ByteArray), (0 : Int))
theorem F34_G (lf : Nat) (x : (List (Int × (Int × (Int × (ByteArray × Int)))))) : F34 Tryz.prog lf x = G34 lf x := (F34_eq lf x).trans (by
  unfold G34
  (try simp only [F93_G, agree_self, Lib.toList_data]); first | done | rfl)
noncomputable def G35 (lf : Nat) (x : (List (Int × (Int × (Int × (ByteArray × Int)))))) : Option ((List ByteArray)) :=
  iter lf (fun y14 : ((List ByteArray) × Int) => cond (decide (y14.2 < (x.length : Int))) (((getI x y14.2)).bind fun r15 => ((G98 lf r15.1)).bind fun r16 => cond (!r16) (some (.inl (y14.1, (w64 (y14.2 + (1 : Int)))))) (((G84 lf (y14.1, r15.2.2.2.1))).bind fun r17 => cond r17 (some (.inl (y14.1, (w64 (y14.2 + (1 : Int)))))) (jn (iter lf (fun y18 : Int => cond (decide (y18 > (0 : Int))) (((getI y14.1 (w64 (y18 - (1 : Int))))).bind fun r19 => cond (!((bytesLess r19.data.toList r15.2.2.2.1.data.toList) || (r19.data.toList == r15.2.2.2.1.data.toList))) (some (.inl (w64 (y18 - (1 : Int))))) (some (.inr (.inl y18)))) (some (.inr (.inl y18)))) (y14.1.length : Int)) (fun y20 : Int => ((subI y14.1 (0 : Int) y20)).bind fun r21 => ((appC ([] : List ByteArray) r21)).bind fun r22 => ((appC r22 [r15.2.2.2.1])).bind fun r23 => ((subI y14.1 y20 (y14.1.length : Int))).bind fun r24 => ((appC r23 r24)).bind fun r25 => some (.inl (r25, (w64 (y14.2 + (1 : Int))))))))) (some (.inr y14.1))) (([] : List ByteArray), (0 : Int))
theorem F35_G (lf : Nat) (x : (List (Int × (Int × (Int × (ByteArray × Int)))))) : F35 Tryz.prog lf x = G35 lf x := (F35_eq lf x).trans (by
  unfold G35
  (try simp only [F84_G, F98_G, agree_self, Lib.toList_data]); first | done | rfl)
noncomputable def G5 (lf : Nat) (x : ((ByteArray × ((List (ByteArray × (Int × Int))) × (List (ByteArray × (Int × (Int × ((List (Int × (Int × (Int × (ByteArray × Int))))) × ((List (Int × (Int × (Int × (ByteArray × Int))))) × (List ByteArray))))))))) × (List (Int × (Int × (Int × (ByteArray × Int))))))) : Option (Bool) :=
  jn (((G29 lf (x.1.2.1, x.2))).bind fun r19 => ((G30 lf (x.1.2.1, x.2))).bind fun r20 => cond (!(decide (r19 = r20))) (some (.inl true)) (((G31 lf (x.1.1, (x.1.2.1, x.1.2.2)))).bind fun r21 => ((G32 lf (x.1.1, (x.1.2.1, x.1.2.2)))).bind fun r22 => cond (!(decide (r21 = r22))) (some (.inl true)) (((G34 lf x.2)).bind fun r23 => ((G35 lf x.2)).bind fun r24 => ((G33 lf (r23, r24))).bind fun r25 => some (.inl (!r25))))) (fun y26 : Bool => cond y26 (some false) (iter lf (fun y27 : Int => cond (decide (y27 < (x.1.2.2.length : Int))) (((getI x.1.2.2 y27)).bind fun r28 => ((G36 lf ((x.1.1, (x.1.2.1, x.1.2.2)), r28.1))).bind fun r29 => ((G37 lf ((x.1.1, (x.1.2.1, x.1.2.2)), r28.1))).bind fun r30 => cond (!(decide (r29 = r30))) (some (.inr false)) (some (.inl (w64 (y27 + (1 : Int)))))) (outR (((G36 lf ((x.1.1, (x.1.2.1, x.1.2.2)), x.1.1))).bind fun r31 => ((G37 lf ((x.1.1, (x.1.2.1, x.1.2.2)), x.1.1))).bind fun r32 => cond (decide (r31 = r32)) (((G22 lf ())).bind fun r33 => some r33) (some false)))) (0 : Int)))
theorem F5_G (lf : Nat) (x : ((ByteArray × ((List (ByteArray × (Int × Int))) × (List (ByteArray × (Int × (Int × ((List (Int × (Int × (Int × (ByteArray × Int))))) × ((List (Int × (Int × (Int × (ByteArray × Int))))) × (List ByteArray))))))))) × (List (Int × (Int × (Int × (ByteArray × Int))))))) : F5 Tryz.prog lf x = G5 lf x := (F5_eq lf x.1.1 x.1.2.1 x.1.2.2 x.2).trans (by
  unfold G5
  (try simp only [F22_G, F29_G, F30_G, F31_G, F32_G, F33_G, F34_G, F35_G, F36_G, F37_G, agree_self, Lib.toList_data]); first | done | rfl)
end Go.K
set_option linter.unusedVariables false
set_option linter.unusedSimpArgs false
set_option maxRecDepth 100000
namespace Go.K
open Go.Sl Go.Sx Go.Proofs
open Go.Op (bytesLess)
def nm1 (t : Tm) : List ByteArray := bif cmpK t.1 then [t.2.2.2.1] else []
def nmsOf (c : Cnd) : List ByteArray := c.flatMap nm1
theorem nm1_len (t : Tm) : (nm1 t).length ≤ 1 := by unfold nm1; cases cmpK t.1 <;> simp
theorem G34_names (c : Cnd) (h : List.length c * 48 ≤ 140737488355328) : G34 LF c = some (compB (sortB (nmsOf c))) := by
  unfold G34
  have hl : List.length c < LF := by show List.length c < 9223372036854775808; omega
  refine (iter_app (fun i a => (a, i)) nm1 c (fun a => some (compB (sortB a))) 1 (fun t _ => nm1_len t) [] ?_ ?_ hl).trans ?_
  · intro i t a ht ha hi
    simp only [List.length_nil, Nat.zero_add, Nat.one_mul] at ha
    simp only [dlt hi, cond_true, getI_nat ht, Option.bind_some, G93_cmp, succ_W (show i + 1 < 9223372036854775808 by omega)]
    unfold nm1
    cases cmpK t.1 with
    | false => simp only [cond_false, List.append_nil]
    | true =>
      simp only [cond_true, appC_len (xs := a) (ys := [t.2.2.2.1]) (by show (a.length + 1) * 16 ≤ 140737488355328; omega), Option.bind_some]
  · intro a ha
    simp only [List.length_nil, Nat.zero_add, Nat.one_mul] at ha
    simp only [dnlt, cond_false, ltC_big (show a.length ≤ 4398046511104 by omega), ltC_big (show (sortB a).length ≤ 4398046511104 by rw [sortB_len]; omega), Option.bind_some]
  · rw [List.nil_append]; rfl
theorem gtB_eq (x s : ByteArray) : (!(bytesLess x.data.toList s.data.toList || x.data.toList == s.data.toList)) = decide (ltB s x) := by
  rw [bytesLess_eq]
  have e : (x.data.toList == s.data.toList) = decide (x = s) := eqD x s
  rw [e]
  have hi : decide (x.data.toList < s.data.toList) = decide (ltB x s) := rfl
  rw [hi]
  rcases ltB_tri x s with h | h | h
  · have h2 : ¬ ltB s x := fun k => ltB_asymm h k
    simp [h, h2]
  · subst h
    have h2 : ¬ ltB x x := ltB_irr x
    simp [h2]
  · have h2 : ¬ ltB x s := fun k => ltB_asymm h k
    have h3 : ¬ x = s := fun k => by subst k; exact ltB_irr _ h
    simp [h, h2, h3]
theorem subI_drop {α : Type} {xs : List α} {i : Nat} (h : i ≤ xs.length) : subI xs (i : Int) (xs.length : Int) = some (xs.drop i) := by
  unfold subI
  rw [if_pos (by omega)]
  simp
theorem cutB_loop (l : List ByteArray) (s : ByteArray) (hl : l.length < LF) : iter (ρ := Int ⊕ List ByteArray × Int ⊕ List ByteArray) LF (fun y18 : Int => cond (decide (y18 > (0 : Int))) (((getI l (w64 (y18 - (1 : Int))))).bind fun r19 => cond (!((bytesLess r19.data.toList s.data.toList) || (r19.data.toList == s.data.toList))) (some (.inl (w64 (y18 - (1 : Int))))) (some (.inr (.inl y18)))) (some (.inr (.inl y18)))) (l.length : Int) = some (.inl (cutB l s l.length : Nat)) := by
  have loop : ∀ (k lf : Nat), k ≤ l.length → k < lf → iter (ρ := Int ⊕ List ByteArray × Int ⊕ List ByteArray) lf (fun y18 : Int => cond (decide (y18 > (0 : Int))) (((getI l (w64 (y18 - (1 : Int))))).bind fun r19 => cond (!((bytesLess r19.data.toList s.data.toList) || (r19.data.toList == s.data.toList))) (some (.inl (w64 (y18 - (1 : Int))))) (some (.inr (.inl y18)))) (some (.inr (.inl y18)))) (k : Int) = some (.inl (cutB l s k : Nat)) := by
    intro k
    induction k with
    | zero =>
      intro lf _ hlf
      obtain ⟨lf, rfl⟩ : ∃ q, lf = q + 1 := ⟨lf - 1, by omega⟩
      simp [iter, cutB]
    | succ k ih =>
      intro lf hk hlf
      obtain ⟨lf, rfl⟩ : ∃ q, lf = q + 1 := ⟨lf - 1, by omega⟩
      have hl' : l.length < 9223372036854775808 := hl
      have e1 : decide (((k + 1 : Nat) : Int) > 0) = true := decide_eq_true (by omega)
      have e2 : w64 (((k + 1 : Nat) : Int) - 1) = (k : Int) := by rw [w64_in (by omega)]; omega
      have e3 : l[k]? = some (l.getD k ByteArray.empty) := by rw [List.getD_eq_getElem?_getD, List.getElem?_eq_getElem (by omega)]; rfl
      simp only [iter, e1, e2, getI_nat e3, cond_true, Option.bind_some, cutB, gtB_eq (l.getD k ByteArray.empty) s]
      by_cases h : ltB s (l.getD k ByteArray.empty)
      · simp only [decide_eq_true h, cond_true, if_pos h]
        exact ih lf (by omega) (by omega)
      · simp only [decide_eq_false h, cond_false, if_neg h]
  exact loop l.length LF (Nat.le_refl _) hl
theorem memB_any (l : List ByteArray) (s : ByteArray) : (l.any fun x => decide (x = s)) = memB l s := by
  unfold memB
  congr 1
  funext x
  exact (eqD x s).symm
theorem G35_names (c : Cnd) (h : List.length c * 48 ≤ 140737488355328) : G35 LF c = some (compB (sortB (nmsOf c))) := by
  unfold G35
  have hl : List.length c < LF := by show List.length c < 9223372036854775808; omega
  refine (iter_foldI (fun i a => (a, i)) (fun (t : Tm) i a => (nm1 t).foldl putB a) (fun i a => a.length ≤ i) c (fun a => some a) [] ?_ ?_ ?_ hl (by simp)).trans ?_
  · intro i t a ht ha
    have hi := lt_of_get ht
    have hal : a.length < LF := by show a.length < 9223372036854775808; omega
    simp only [dlt hi, cond_true, getI_nat ht, Option.bind_some, G98_cmp, succ_W (show i + 1 < 9223372036854775808 by omega), G84_any a _ hal, memB_any]
    unfold nm1
    cases cmpK t.1 with
    | false => simp only [Bool.not_false, cond_true, cond_false, List.foldl_nil]
    | true =>
      simp only [Bool.not_true, cond_false, cond_true, List.foldl_cons, List.foldl_nil]
      unfold putB
      cases hm : memB a t.2.2.2.1 with
      | true => simp only [cond_true, if_true]
      | false =>
        have hle := cutB_le a t.2.2.2.1 a.length
        simp only [cond_false, Bool.false_eq_true, if_false]
        refine (congrArg (fun z => jn z _) (cutB_loop a t.2.2.2.1 hal)).trans ?_
        rw [jl]
        generalize cutB a t.2.2.2.1 a.length = k at hle
        have l1 : (a.take k).length = k := by rw [List.length_take]; omega
        have l2 : (a.drop k).length = a.length - k := List.length_drop ..
        simp only [subI_take hle, subI_drop hle, Option.bind_some, appC_len (xs := ([] : List ByteArray)) (ys := a.take k) (by show (0 + (a.take k).length) * 16 ≤ 140737488355328; rw [l1]; omega), List.nil_append,
          appC_len (xs := a.take k) (ys := [t.2.2.2.1]) (by show ((a.take k).length + 1) * 16 ≤ 140737488355328; rw [l1]; omega),
          appC_len (xs := a.take k ++ [t.2.2.2.1]) (ys := a.drop k) (by show ((a.take k ++ [t.2.2.2.1]).length + (a.drop k).length) * 16 ≤ 140737488355328; rw [List.length_append, l1, l2]; simp only [List.length_cons, List.length_nil]; omega)]
        simp
  · intro i t a ht ha
    have h1 := nm1_len t
    unfold nm1 at h1 ⊢
    cases cmpK t.1 with
    | false => simp only [cond_false, List.foldl_nil]; omega
    | true =>
      simp only [cond_true, List.foldl_cons, List.foldl_nil]
      have := putB_len a t.2.2.2.1
      omega
  · intro a ha
    simp only [dnlt, cond_false]; rfl
  · rw [← putBF_sort, foldI_const]
    congr 1
    unfold nmsOf
    generalize ([] : List ByteArray) = a0
    clear hl h
    induction c generalizing a0 with
    | nil => rfl
    | cons t c ih => rw [List.foldl_cons, ih, List.flatMap_cons, List.foldl_append]
theorem G5_true (c : Cd) (x : Cnd) (h1 : c.2.1.length * 32 ≤ 140737488355328) (h2 : c.2.2.length * 104 ≤ 140737488355328) (h3 : List.length x * 48 ≤ 140737488355328) : G5 LF (c, x) = some true := by
  unfold G5
  have f1 : c.2.1.length < LF := by show c.2.1.length < 9223372036854775808; omega
  have f2 : c.2.2.length < LF := by show c.2.2.length < 9223372036854775808; omega
  have f3 : (compB (sortB (nmsOf x))).length < LF := by
    have e1 := compB_len (sortB (nmsOf x))
    rw [sortB_len] at e1
    have e2 : (nmsOf x).length ≤ List.length x := by
      unfold nmsOf
      clear h3 e1
      induction x with
      | nil => simp
      | cons t x ih => rw [List.flatMap_cons, List.length_append, List.length_cons]; have := nm1_len t; omega
    show (compB (sortB (nmsOf x))).length < 9223372036854775808
    omega
  simp only [G29_cond c.2.1 x f1, G30_cond c.2.1 x f1, Option.bind_some, decide_true, Bool.not_true, cond_false, show G31 LF (c.1, (c.2.1, c.2.2)) = some (codeE c) from G31_code c, show G32 LF (c.1, (c.2.1, c.2.2)) = some (codeE c) from G32_code c,
    G34_names x h3, G35_names x h3, G33_same _ f3, jl]
  refine same_loop c.2.2 (fun i r hr => ?_) ?_ f2
  · have hi := lt_of_get hr
    simp only [dlt hi, cond_true, getI_nat hr, Option.bind_some, G36_fnd c.1 c.2.1 c.2.2 r.1 f2, show G37 LF ((c.1, (c.2.1, c.2.2)), r.1) = some (fnd c.2.2 r.1) from G37_fnd c r.1 f2, decide_true, Bool.not_true, cond_false, succ_W (Nat.lt_of_le_of_lt hi f2)]
  · simp only [dnlt, cond_false, G36_fnd c.1 c.2.1 c.2.2 c.1 f2, show G37 LF ((c.1, (c.2.1, c.2.2)), c.1) = some (fnd c.2.2 c.1) from G37_fnd c c.1 f2, Option.bind_some, decide_true, cond_true, sane_true]
    rfl
end Go.K
set_option linter.unusedVariables false
set_option linter.unusedSimpArgs false
set_option maxRecDepth 100000
namespace Go.K
open Go.Sl Go.Sx Go.Proofs Go.Shelf Go.RowKit
variable {P : Program} {ρ' : Ren} {E : Env}
theorem foldl_sum (k : Nat) : ∀ (xs : List ByteArray) (n : Nat), xs.foldl (fun n x => n + x.size + k) n = n + (xs.map fun x => x.size + k).sum
  | [], n => by simp
  | x :: xs, n => by rw [List.foldl_cons, foldl_sum k xs]; simp; omega
theorem join_data (sep : ByteArray) : ∀ (xs : List ByteArray) (r : ByteArray), (xs.foldl (fun r y => r ++ sep ++ y) r).data.toList = r.data.toList ++ (xs.map fun y => sep.data.toList ++ y.data.toList).flatten
  | [], r => by simp
  | y :: xs, r => by rw [List.foldl_cons, join_data sep xs]; simp [ByteArray.data_append]
theorem size_len' (s : ByteArray) : s.size = s.data.toList.length := by simp
theorem lens_eq : ∀ xs : List ByteArray, Lib.lens (xs.map (·.data.toList)) = (xs.map (·.size)).sum
  | [] => rfl
  | x :: xs => by
    have := lens_eq xs
    simp only [Lib.lens, List.map_cons, List.flatten_cons, List.length_append, List.sum_cons] at this ⊢
    rw [this, size_len']
theorem sum_add (k : Nat) : ∀ xs : List ByteArray, (xs.map fun x => x.size + (k + 1)).sum = (xs.map (·.size)).sum + k * xs.length + xs.length
  | [] => by simp
  | x :: xs => by
    simp only [List.map_cons, List.sum_cons, sum_add k xs, List.length_cons, Nat.mul_add]; omega
theorem joinC_lib {sep : ByteArray} {xs : List ByteArray} {y : ByteArray} (h : joinC sep xs = some y) : y = ⟨(Lib.join (xs.map (·.data.toList)) sep.data.toList).toArray⟩ ∧ (Lib.join (xs.map (·.data.toList)) sep.data.toList).length ≤ 140737488355328 ∧ xs.length ≤ 140737488355328 := by
  unfold joinC at h
  split at h
  · rename_i hc
    rw [foldl_sum, sum_add] at hc
    have hll := lens_eq xs
    cases xs with
    | nil =>
      simp only [Option.some.injEq] at h
      subst h
      exact ⟨rfl, by simp [Lib.join_nil], by simp⟩
    | cons x xs =>
      simp only [Option.some.injEq] at h
      have hj : (Lib.join ((x :: xs).map (·.data.toList)) sep.data.toList) = y.data.toList := by
        rw [← h, join_data, List.map_cons, Lib.join_cons]
        congr 1
        unfold Lib.joinTail
        rw [List.map_map]
        rfl
      have hlen := Lib.join_length x.data.toList (xs.map (·.data.toList)) sep.data.toList
      rw [List.map_cons] at hj hll
      simp only [List.length_cons, List.length_map] at hc hlen
      rw [hll] at hlen
      refine ⟨?_, ?_, ?_⟩
      · rw [List.map_cons, hj]
      · rw [List.map_cons, hlen]
        have hs : sep.data.toList.length = sep.size := (size_len' sep).symm
        rw [hs]
        have := Nat.mul_le_mul (Nat.le_refl sep.size) (show xs.length ≤ xs.length + 1 by omega)
        omega
      · simp only [List.length_cons]; omega
  · cases h
theorem join_valid (Ly : Lays.n156 P ρ') (X : Builder.Extra P ρ') : Valid E P (ρ'.f 156) [aSs, aS] [aS] fun x => joinC x.2 x.1 := by
  intro x y hx z L w vs hz hrep hs
  obtain ⟨v, r, rfl, hv, u, rfl, hu⟩ := hrep
  have h2 := rep_str hu
  subst h2
  obtain ⟨rfl, hl, hn⟩ := joinC_lib hx
  have hv' := rep1 hv
  obtain ⟨o, c, e1, hsl⟩ := hv'
  simp only [List.cons.injEq, and_true] at e1
  subst e1
  have fin : ∀ (o : Option Addr), (o = none → x.1 = []) → (∀ a, o = some a → ∀ j s, x.1[j]? = some s → z.cell? (a.add j) = some (.string s)) → x.1.length ≤ c → Calls P (ρ'.f 156) #[.slice o x.1.length c, .string x.2] w fun e w' => e = .returned (.string ⟨(Lib.join (x.1.map (·.data.toList)) x.2.data.toList).toArray⟩) ∧ Below w.heap.size w w' := by
    intro o h0 h1 hcap
    cases hx1 : x.1 with
    | nil =>
      simp only [List.length_nil]
      refine (Any.strings_Join_none Ly X o c x.2 w).mono fun e w' ⟨he, hw⟩ => ⟨he, hw ▸ Below.refl _ _⟩
    | cons s0 ss =>
      cases o with
      | none => rw [h0 rfl] at hx1; cases hx1
      | some a =>
        have hc0 := h1 a rfl 0 s0 (by rw [hx1]; rfl)
        have hspot : a.spot = none ∧ (a.add 0) = a := by
          constructor
          · unfold Zone.cell? at hc0
            split at hc0
            · split at hc0
              · cases hc0
              · rename_i hsp
                rw [add_zero' a] at hsp
                cases hs : a.spot with
                | none => rfl
                | some q => rw [hs] at hsp; simp at hsp
            · cases hc0
          · exact add_zero' a
        obtain ⟨bk, off, sp⟩ := a
        obtain ⟨hsp, _⟩ := hspot
        simp only at hsp
        subst hsp
        have hcell : ∀ (j : Nat) s, (s0 :: ss)[j]? = some s → w.cell? ⟨bk, off + j, none⟩ = some (.string s) := fun j s hj => by
          have := h1 _ rfl j s (by rw [hx1]; exact hj)
          have := hs.cell this
          have ha : (⟨bk, off, none⟩ : Addr).add j = ⟨bk, off + j, none⟩ := by unfold Addr.add; split <;> simp_all
          rwa [ha] at this
        have hbk : bk < w.heap.size := by
          have := hcell 0 s0 rfl
          unfold World.cell? at this
          cases hb : w.heap[bk]? with
          | none => rw [hb] at this; cases this
          | some ob => exact (Array.getElem?_eq_some_iff.1 hb).1
        rw [hx1] at hl hn hcap
        exact Any.strings_Join Ly X bk off c (s0 :: ss) x.2 w hcell hbk hn hcap hl
  refine (fin o (fun e => (hsl.hnil e).1) (fun a e j s hj => ?_) hsl.hcap).mono ?_
  · obtain ⟨cs, hr, hc⟩ := hsl.hat a e j s hj
    have hr' : cs = [.string s] := hr
    have := hc 0 (.string s) (by rw [hr']; rfl)
    have e1 : j * (TC.str.ty).size = j := by show j * 1 = j; omega
    rw [e1] at this
    rwa [add_zero'] at this
  · rintro en w' ⟨rfl, hb⟩
    exact ⟨_, z, rfl, Zone.le_refl _, ⟨[.string _], rfl, _, rfl, .inr ⟨rfl, rfl⟩⟩, hs.of_below hb⟩
end Go.K
set_option linter.unusedVariables false
set_option linter.unusedSimpArgs false
set_option maxRecDepth 100000
namespace Go.Proofs
open Go.Shelf Go.RowKit Go.Lib
theorem Tryz.isBlank (W : World) (r : Nat) : FnGives Tryz.prog 158 #[] #[encR r] (.bool (Nat.beq r 32)) W := by
  unfold FnGives
  have e : Nat.beq r 32 = decide ((r : Int) = 32) := by
    cases h : Nat.beq r 32 with
    | true => have := Nat.eq_of_beq_eq_true h; simp; omega
    | false => have := Nat.ne_of_beq_eq_false h; simp; omega
  rw [e]
  go_enter Tryz.func158, Tryz.ntmps158
  go_wp2
  go_ret
  exact ⟨rfl, 0, rfl⟩
theorem Tryz.extraB : Builder.Extra Tryz.prog Tryz.join_ren := {
  sizeBuilder := by kernel_rfl
  liesBuilder := by kernel_rfl
  t5 := Tryz.underlying5
  a5 := Tryz.isAgg5
  z5 := Tryz.sizeOf5
  v5 := Tryz.zeroValue5
  infoByte := by kernel_rfl
  cellsByte := by kernel_rfl
  sizeByte := by kernel_rfl
  neB5 := by decide }
end Go.Proofs
namespace Go.K
open Go.Sl Go.Sx Go.Proofs Go.Shelf Go.RowKit
theorem mixedT : Tryz.prog.follows .mixedOrders = true := by kernel_rfl
abbrev HC (E : Env) (C : FuncId → Option Con) : Prop := ∀ L, envA E ∈ L → ∀ g con, C g = some con → ConOk Tryz.prog L con g
theorem sort_row : RowOk Tryz.prog 182 .i sortL := ⟨fun xs => (sortL_len xs).symm, fun hS hj hl => sortOwn Tryz.sortI hS hj hl⟩
theorem comp_cut : CutOk Tryz.prog 183 .i compL := fun hS hj hl => compactOwn Tryz.compactI hS hj hl
theorem ct_ok (lf : Nat) : HC (envT Tryz.prog 0) (CT Tryz.prog lf) := by
  intro L hL
  unfold CT
  refine extC_ok (extC_ok (extC_ok (extC_ok (extC_ok (extC_ok (extC_ok (extC_ok (fun g con h => by cases h) ?a) ?b) ?c) ?d) ?e) ?f) ?g) ?h
  case a => exact dataCon_ok (itoa_valid Tryz.itoa) hL
  case b => exact dataCon_ok (trim_valid Tryz.trim (by kernel_rfl)) hL
  case c => exact rowCon_ok sort_row
  case d => exact cutCon_ok comp_cut
  case e => exact dataCon_ok (split_valid Tryz.split (by kernel_rfl)) hL
  case f => exact atoiCon_ok Tryz.atoi
  case g => exact fieldsCon_ok Tryz.fields (enters_of Tryz.func158 (by kernel_rfl) rfl) (fun W x => Tryz.isBlank W x) (by kernel_rfl) (by kernel_rfl)
  case h => exact dataCon_ok (join_valid Tryz.join Tryz.extraB) hL
end Go.K
set_option linter.unusedVariables false
set_option maxRecDepth 100000
namespace Go.K
open Go.Sl Go.Sx Go.Proofs
theorem kcCT : HC (envT Tryz.prog 0) (CT Tryz.prog LF) := ct_ok LF
theorem kc91 : HC (envT Tryz.prog 0) (C91 Tryz.prog LF) := fun L hL => extC_ok (kcCT L hL) (dataCon_ok (fnF_valid mixedT kcCT 91 _ _ LF) hL)
theorem kc223 : HC (envT Tryz.prog 0) (C223 Tryz.prog LF) := fun L hL => extC_ok (kc91 L hL) (dataCon_ok (fnF_valid mixedT kc91 223 _ _ LF) hL)
theorem kc180 : HC (envT Tryz.prog 0) (C180 Tryz.prog LF) := fun L hL => extC_ok (kc223 L hL) (dataCon_ok (fnF_valid mixedT kc223 180 _ _ LF) hL)
theorem kc165 : HC (envT Tryz.prog 0) (C165 Tryz.prog LF) := fun L hL => extC_ok (kc180 L hL) (dataCon_ok (fnF_valid mixedT kc180 165 _ _ LF) hL)
theorem kc94 : HC (envT Tryz.prog 0) (C94 Tryz.prog LF) := fun L hL => extC_ok (kc165 L hL) (dataCon_ok (fnF_valid mixedT kc165 94 _ _ LF) hL)
theorem kc158 : HC (envT Tryz.prog 0) (C158 Tryz.prog LF) := fun L hL => extC_ok (kc94 L hL) (dataCon_ok (fnF_valid mixedT kc94 158 _ _ LF) hL)
theorem kc86 : HC (envT Tryz.prog 0) (C86 Tryz.prog LF) := fun L hL => extC_ok (kc158 L hL) (dataCon_ok (fnF_valid mixedT kc158 86 _ _ LF) hL)
theorem kc244 : HC (envT Tryz.prog 0) (C244 Tryz.prog LF) := fun L hL => extC_ok (kc86 L hL) (dataCon_ok (fnF_valid mixedT kc86 244 _ _ LF) hL)
theorem kc215 : HC (envT Tryz.prog 0) (C215 Tryz.prog LF) := fun L hL => extC_ok (kc244 L hL) (refCon_ok (fnR_valid mixedT kc244 215 _ _ _ _ _ _ LF) hL)
theorem kc216 : HC (envT Tryz.prog 0) (C216 Tryz.prog LF) := fun L hL => extC_ok (kc215 L hL) (refCon_ok (fnR_valid mixedT kc215 216 _ _ _ _ _ _ LF) hL)
theorem kc162 : HC (envT Tryz.prog 0) (C162 Tryz.prog LF) := fun L hL => extC_ok (kc216 L hL) (refCon_ok (recR_valid mixedT kc216 (fun _ => rfl) (fun _ _ => rfl) LF) hL)
theorem kc17 : HC (envT Tryz.prog 0) (C17 Tryz.prog LF) := fun L hL => extC_ok (kc162 L hL) (dataCon_ok (fnF_valid mixedT kc162 17 _ _ LF) hL)
theorem kc110 : HC (envT Tryz.prog 0) (C110 Tryz.prog LF) := fun L hL => extC_ok (kc17 L hL) (dataCon_ok (fnF_valid mixedT kc17 110 _ _ LF) hL)
theorem kc190 : HC (envT Tryz.prog 0) (C190 Tryz.prog LF) := fun L hL => extC_ok (kc110 L hL) (dataCon_ok (fnF_valid mixedT kc110 190 _ _ LF) hL)
theorem kc188 : HC (envT Tryz.prog 0) (C188 Tryz.prog LF) := fun L hL => extC_ok (kc190 L hL) (dataCon_ok (fnF_valid mixedT kc190 188 _ _ LF) hL)
theorem kc189 : HC (envT Tryz.prog 0) (C189 Tryz.prog LF) := fun L hL => extC_ok (kc188 L hL) (dataCon_ok (fnF_valid mixedT kc188 189 _ _ LF) hL)
theorem kc191 : HC (envT Tryz.prog 0) (C191 Tryz.prog LF) := fun L hL => extC_ok (kc189 L hL) (dataCon_ok (fnF_valid mixedT kc189 191 _ _ LF) hL)
theorem kc192 : HC (envT Tryz.prog 0) (C192 Tryz.prog LF) := fun L hL => extC_ok (kc191 L hL) (dataCon_ok (fnF_valid mixedT kc191 192 _ _ LF) hL)
theorem kc193 : HC (envT Tryz.prog 0) (C193 Tryz.prog LF) := fun L hL => extC_ok (kc192 L hL) (dataCon_ok (fnF_valid mixedT kc192 193 _ _ LF) hL)
theorem kc194 : HC (envT Tryz.prog 0) (C194 Tryz.prog LF) := fun L hL => extC_ok (kc193 L hL) (dataCon_ok (fnF_valid mixedT kc193 194 _ _ LF) hL)
theorem kc195 : HC (envT Tryz.prog 0) (C195 Tryz.prog LF) := fun L hL => extC_ok (kc194 L hL) (dataCon_ok (fnF_valid mixedT kc194 195 _ _ LF) hL)
theorem kc131 : HC (envT Tryz.prog 0) (C131 Tryz.prog LF) := fun L hL => extC_ok (kc195 L hL) (dataCon_ok (fnF_valid mixedT kc195 131 _ _ LF) hL)
theorem kc147 : HC (envT Tryz.prog 0) (C147 Tryz.prog LF) := fun L hL => extC_ok (kc131 L hL) (dataCon_ok (fnF_valid mixedT kc131 147 _ _ LF) hL)
theorem kc36 : HC (envT Tryz.prog 0) (C36 Tryz.prog LF) := fun L hL => extC_ok (kc147 L hL) (dataCon_ok (fnF_valid mixedT kc147 36 _ _ LF) hL)
theorem kc130 : HC (envT Tryz.prog 0) (C130 Tryz.prog LF) := fun L hL => extC_ok (kc36 L hL) (dataCon_ok (fnF_valid mixedT kc36 130 _ _ LF) hL)
theorem kc116 : HC (envT Tryz.prog 0) (C116 Tryz.prog LF) := fun L hL => extC_ok (kc130 L hL) (dataCon_ok (fnF_valid mixedT kc130 116 _ _ LF) hL)
theorem kc181 : HC (envT Tryz.prog 0) (C181 Tryz.prog LF) := fun L hL => extC_ok (kc116 L hL) (dataCon_ok (fnF_valid mixedT kc116 181 _ _ LF) hL)
theorem kc115 : HC (envT Tryz.prog 0) (C115 Tryz.prog LF) := fun L hL => extC_ok (kc181 L hL) (dataCon_ok (fnF_valid mixedT kc181 115 _ _ LF) hL)
theorem kc106 : HC (envT Tryz.prog 0) (C106 Tryz.prog LF) := fun L hL => extC_ok (kc115 L hL) (dataCon_ok (fnF_valid mixedT kc115 106 _ _ LF) hL)
theorem kc174 : HC (envT Tryz.prog 0) (C174 Tryz.prog LF) := fun L hL => extC_ok (kc106 L hL) (dataCon_ok (fnF_valid mixedT kc106 174 _ _ LF) hL)
theorem kc125 : HC (envT Tryz.prog 0) (C125 Tryz.prog LF) := fun L hL => extC_ok (kc174 L hL) (dataCon_ok (fnF_valid mixedT kc174 125 _ _ LF) hL)
theorem kc133 : HC (envT Tryz.prog 0) (C133 Tryz.prog LF) := fun L hL => extC_ok (kc125 L hL) (dataCon_ok (fnF_valid mixedT kc125 133 _ _ LF) hL)
theorem kc104 : HC (envT Tryz.prog 0) (C104 Tryz.prog LF) := fun L hL => extC_ok (kc133 L hL) (dataCon_ok (fnF_valid mixedT kc133 104 _ _ LF) hL)
theorem kc266 : HC (envT Tryz.prog 0) (C266 Tryz.prog LF) := fun L hL => extC_ok (kc104 L hL) (dataCon_ok (fnF_valid mixedT kc104 266 _ _ LF) hL)
theorem kc199 : HC (envT Tryz.prog 0) (C199 Tryz.prog LF) := fun L hL => extC_ok (kc266 L hL) (panCon_ok (fnP_valid mixedT kc266 199 _ _ _ _ LF) hL)
theorem kc198 : HC (envT Tryz.prog 0) (C198 Tryz.prog LF) := fun L hL => extC_ok (kc199 L hL) (refCon_ok (fnR_valid mixedT kc199 198 _ _ _ _ _ _ LF) hL)
theorem kc200 : HC (envT Tryz.prog 0) (C200 Tryz.prog LF) := fun L hL => extC_ok (kc198 L hL) (refCon_ok (fnR_valid mixedT kc198 200 _ _ _ _ _ _ LF) hL)
theorem kc239 : HC (envT Tryz.prog 0) (C239 Tryz.prog LF) := fun L hL => extC_ok (kc200 L hL) (refCon_ok (fnR_valid mixedT kc200 239 _ _ _ _ _ _ LF) hL)
theorem kc201 : HC (envT Tryz.prog 0) (C201 Tryz.prog LF) := fun L hL => extC_ok (kc239 L hL) (refCon_ok (fnR_valid mixedT kc239 201 _ _ _ _ _ _ LF) hL)
theorem kc240 : HC (envT Tryz.prog 0) (C240 Tryz.prog LF) := fun L hL => extC_ok (kc201 L hL) (refCon_ok (fnR_valid mixedT kc201 240 _ _ _ _ _ _ LF) hL)
theorem kc202 : HC (envT Tryz.prog 0) (C202 Tryz.prog LF) := fun L hL => extC_ok (kc240 L hL) (refCon_ok (fnR_valid mixedT kc240 202 _ _ _ _ _ _ LF) hL)
theorem kc93 : HC (envT Tryz.prog 0) (C93 Tryz.prog LF) := fun L hL => extC_ok (kc202 L hL) (dataCon_ok (fnF_valid mixedT kc202 93 _ _ LF) hL)
theorem kc92 : HC (envT Tryz.prog 0) (C92 Tryz.prog LF) := fun L hL => extC_ok (kc93 L hL) (dataCon_ok (fnF_valid mixedT kc93 92 _ _ LF) hL)
theorem kc29 : HC (envT Tryz.prog 0) (C29 Tryz.prog LF) := fun L hL => extC_ok (kc92 L hL) (dataCon_ok (fnF_valid mixedT kc92 29 _ _ LF) hL)
theorem kc112 : HC (envT Tryz.prog 0) (C112 Tryz.prog LF) := fun L hL => extC_ok (kc29 L hL) (dataCon_ok (fnF_valid mixedT kc29 112 _ _ LF) hL)
theorem kc113 : HC (envT Tryz.prog 0) (C113 Tryz.prog LF) := fun L hL => extC_ok (kc112 L hL) (dataCon_ok (fnF_valid mixedT kc112 113 _ _ LF) hL)
theorem kc114 : HC (envT Tryz.prog 0) (C114 Tryz.prog LF) := fun L hL => extC_ok (kc113 L hL) (dataCon_ok (fnF_valid mixedT kc113 114 _ _ LF) hL)
theorem kc31 : HC (envT Tryz.prog 0) (C31 Tryz.prog LF) := fun L hL => extC_ok (kc114 L hL) (dataCon_ok (fnF_valid mixedT kc114 31 _ _ LF) hL)
theorem kc62 : HC (envT Tryz.prog 0) (C62 Tryz.prog LF) := fun L hL => extC_ok (kc31 L hL) (dataCon_ok (fnF_valid mixedT kc31 62 _ _ LF) hL)
theorem kc61 : HC (envT Tryz.prog 0) (C61 Tryz.prog LF) := fun L hL => extC_ok (kc62 L hL) (dataCon_ok (fnF_valid mixedT kc62 61 _ _ LF) hL)
theorem kc222 : HC (envT Tryz.prog 0) (C222 Tryz.prog LF) := fun L hL => extC_ok (kc61 L hL) (dataCon_ok (fnF_valid mixedT kc61 222 _ _ LF) hL)
theorem kc173 : HC (envT Tryz.prog 0) (C173 Tryz.prog LF) := fun L hL => extC_ok (kc222 L hL) (dataCon_ok (fnF_valid mixedT kc222 173 _ _ LF) hL)
theorem kc23 : HC (envT Tryz.prog 0) (C23 Tryz.prog LF) := fun L hL => extC_ok (kc173 L hL) (dataCon_ok (fnF_valid mixedT kc173 23 _ _ LF) hL)
theorem kc24 : HC (envT Tryz.prog 0) (C24 Tryz.prog LF) := fun L hL => extC_ok (kc23 L hL) (dataCon_ok (fnF_valid mixedT kc23 24 _ _ LF) hL)
theorem kc127 : HC (envT Tryz.prog 0) (C127 Tryz.prog LF) := fun L hL => extC_ok (kc24 L hL) (dataCon_ok (fnF_valid mixedT kc24 127 _ _ LF) hL)
theorem kc132 : HC (envT Tryz.prog 0) (C132 Tryz.prog LF) := fun L hL => extC_ok (kc127 L hL) (dataCon_ok (fnF_valid mixedT kc127 132 _ _ LF) hL)
theorem kc47 : HC (envT Tryz.prog 0) (C47 Tryz.prog LF) := fun L hL => extC_ok (kc132 L hL) (dataCon_ok (fnF_valid mixedT kc132 47 _ _ LF) hL)
theorem kc49 : HC (envT Tryz.prog 0) (C49 Tryz.prog LF) := fun L hL => extC_ok (kc47 L hL) (dataCon_ok (fnF_valid mixedT kc47 49 _ _ LF) hL)
theorem kc167 : HC (envT Tryz.prog 0) (C167 Tryz.prog LF) := fun L hL => extC_ok (kc49 L hL) (dataCon_ok (fnF_valid mixedT kc49 167 _ _ LF) hL)
theorem kc246 : HC (envT Tryz.prog 0) (C246 Tryz.prog LF) := fun L hL => extC_ok (kc167 L hL) (dataCon_ok (fnF_valid mixedT kc167 246 _ _ LF) hL)
theorem kc220 : HC (envT Tryz.prog 0) (C220 Tryz.prog LF) := fun L hL => extC_ok (kc246 L hL) (dataCon_ok (fnF_valid mixedT kc246 220 _ _ LF) hL)
theorem kc166 : HC (envT Tryz.prog 0) (C166 Tryz.prog LF) := fun L hL => extC_ok (kc220 L hL) (dataCon_ok (fnF_valid mixedT kc220 166 _ _ LF) hL)
theorem kc95 : HC (envT Tryz.prog 0) (C95 Tryz.prog LF) := fun L hL => extC_ok (kc166 L hL) (dataCon_ok (fnF_valid mixedT kc166 95 _ _ LF) hL)
theorem kc96 : HC (envT Tryz.prog 0) (C96 Tryz.prog LF) := fun L hL => extC_ok (kc95 L hL) (dataCon_ok (rec_valid mixedT kc95 (fun _ => rfl) (fun _ _ => rfl) LF) hL)
theorem kc19 : HC (envT Tryz.prog 0) (C19 Tryz.prog LF) := fun L hL => extC_ok (kc96 L hL) (dataCon_ok (fnF_valid mixedT kc96 19 _ _ LF) hL)
theorem kc128 : HC (envT Tryz.prog 0) (C128 Tryz.prog LF) := fun L hL => extC_ok (kc19 L hL) (dataCon_ok (fnF_valid mixedT kc19 128 _ _ LF) hL)
theorem kc41 : HC (envT Tryz.prog 0) (C41 Tryz.prog LF) := fun L hL => extC_ok (kc128 L hL) (dataCon_ok (fnF_valid mixedT kc128 41 _ _ LF) hL)
theorem kc102 : HC (envT Tryz.prog 0) (C102 Tryz.prog LF) := fun L hL => extC_ok (kc41 L hL) (dataCon_ok (fnF_valid mixedT kc41 102 _ _ LF) hL)
theorem kc22 : HC (envT Tryz.prog 0) (C22 Tryz.prog LF) := fun L hL => extC_ok (kc102 L hL) (dataCon_ok (fnF_valid mixedT kc102 22 _ _ LF) hL)
theorem kc126 : HC (envT Tryz.prog 0) (C126 Tryz.prog LF) := fun L hL => extC_ok (kc22 L hL) (dataCon_ok (fnF_valid mixedT kc22 126 _ _ LF) hL)
theorem kc168 : HC (envT Tryz.prog 0) (C168 Tryz.prog LF) := fun L hL => extC_ok (kc126 L hL) (dataCon_ok (fnF_valid mixedT kc126 168 _ _ LF) hL)
theorem kc84 : HC (envT Tryz.prog 0) (C84 Tryz.prog LF) := fun L hL => extC_ok (kc168 L hL) (dataCon_ok (fnF_valid mixedT kc168 84 _ _ LF) hL)
theorem kc99 : HC (envT Tryz.prog 0) (C99 Tryz.prog LF) := fun L hL => extC_ok (kc84 L hL) (dataCon_ok (fnF_valid mixedT kc84 99 _ _ LF) hL)
theorem kc117 : HC (envT Tryz.prog 0) (C117 Tryz.prog LF) := fun L hL => extC_ok (kc99 L hL) (dataCon_ok (fnF_valid mixedT kc99 117 _ _ LF) hL)
theorem kc98 : HC (envT Tryz.prog 0) (C98 Tryz.prog LF) := fun L hL => extC_ok (kc117 L hL) (dataCon_ok (fnF_valid mixedT kc117 98 _ _ LF) hL)
theorem kc97 : HC (envT Tryz.prog 0) (C97 Tryz.prog LF) := fun L hL => extC_ok (kc98 L hL) (dataCon_ok (fnF_valid mixedT kc98 97 _ _ LF) hL)
theorem kc111 : HC (envT Tryz.prog 0) (C111 Tryz.prog LF) := fun L hL => extC_ok (kc97 L hL) (dataCon_ok (fnF_valid mixedT kc97 111 _ _ LF) hL)
theorem kc30 : HC (envT Tryz.prog 0) (C30 Tryz.prog LF) := fun L hL => extC_ok (kc111 L hL) (dataCon_ok (fnF_valid mixedT kc111 30 _ _ LF) hL)
theorem kc37 : HC (envT Tryz.prog 0) (C37 Tryz.prog LF) := fun L hL => extC_ok (kc30 L hL) (dataCon_ok (fnF_valid mixedT kc30 37 _ _ LF) hL)
theorem kc118 : HC (envT Tryz.prog 0) (C118 Tryz.prog LF) := fun L hL => extC_ok (kc37 L hL) (dataCon_ok (fnF_valid mixedT kc37 118 _ _ LF) hL)
theorem kc109 : HC (envT Tryz.prog 0) (C109 Tryz.prog LF) := fun L hL => extC_ok (kc118 L hL) (dataCon_ok (fnF_valid mixedT kc118 109 _ _ LF) hL)
theorem kc176 : HC (envT Tryz.prog 0) (C176 Tryz.prog LF) := fun L hL => extC_ok (kc109 L hL) (dataCon_ok (fnF_valid mixedT kc109 176 _ _ LF) hL)
theorem kc177 : HC (envT Tryz.prog 0) (C177 Tryz.prog LF) := fun L hL => extC_ok (kc176 L hL) (dataCon_ok (fnF_valid mixedT kc176 177 _ _ LF) hL)
theorem kc108 : HC (envT Tryz.prog 0) (C108 Tryz.prog LF) := fun L hL => extC_ok (kc177 L hL) (dataCon_ok (fnF_valid mixedT kc177 108 _ _ LF) hL)
theorem kc120 : HC (envT Tryz.prog 0) (C120 Tryz.prog LF) := fun L hL => extC_ok (kc108 L hL) (dataCon_ok (fnF_valid mixedT kc108 120 _ _ LF) hL)
theorem kc119 : HC (envT Tryz.prog 0) (C119 Tryz.prog LF) := fun L hL => extC_ok (kc120 L hL) (dataCon_ok (fnF_valid mixedT kc120 119 _ _ LF) hL)
theorem kc32 : HC (envT Tryz.prog 0) (C32 Tryz.prog LF) := fun L hL => extC_ok (kc119 L hL) (dataCon_ok (fnF_valid mixedT kc119 32 _ _ LF) hL)
theorem kc33 : HC (envT Tryz.prog 0) (C33 Tryz.prog LF) := fun L hL => extC_ok (kc32 L hL) (dataCon_ok (fnF_valid mixedT kc32 33 _ _ LF) hL)
theorem kc107 : HC (envT Tryz.prog 0) (C107 Tryz.prog LF) := fun L hL => extC_ok (kc33 L hL) (dataCon_ok (fnF_valid mixedT kc33 107 _ _ LF) hL)
theorem kc56 : HC (envT Tryz.prog 0) (C56 Tryz.prog LF) := fun L hL => extC_ok (kc107 L hL) (dataCon_ok (fnF_valid mixedT kc107 56 _ _ LF) hL)
theorem kc57 : HC (envT Tryz.prog 0) (C57 Tryz.prog LF) := fun L hL => extC_ok (kc56 L hL) (dataCon_ok (fnF_valid mixedT kc56 57 _ _ LF) hL)
theorem kc40 : HC (envT Tryz.prog 0) (C40 Tryz.prog LF) := fun L hL => extC_ok (kc57 L hL) (dataCon_ok (fnF_valid mixedT kc57 40 _ _ LF) hL)
theorem kc28 : HC (envT Tryz.prog 0) (C28 Tryz.prog LF) := fun L hL => extC_ok (kc40 L hL) (dataCon_ok (fnF_valid mixedT kc40 28 _ _ LF) hL)
theorem kc148 : HC (envT Tryz.prog 0) (C148 Tryz.prog LF) := fun L hL => extC_ok (kc28 L hL) (dataCon_ok (fnF_valid mixedT kc28 148 _ _ LF) hL)
theorem kc149 : HC (envT Tryz.prog 0) (C149 Tryz.prog LF) := fun L hL => extC_ok (kc148 L hL) (dataCon_ok (fnF_valid mixedT kc148 149 _ _ LF) hL)
theorem kc27 : HC (envT Tryz.prog 0) (C27 Tryz.prog LF) := fun L hL => extC_ok (kc149 L hL) (dataCon_ok (fnF_valid mixedT kc149 27 _ _ LF) hL)
theorem kc150 : HC (envT Tryz.prog 0) (C150 Tryz.prog LF) := fun L hL => extC_ok (kc27 L hL) (dataCon_ok (fnF_valid mixedT kc27 150 _ _ LF) hL)
theorem kc142 : HC (envT Tryz.prog 0) (C142 Tryz.prog LF) := fun L hL => extC_ok (kc150 L hL) (dataCon_ok (fnF_valid mixedT kc150 142 _ _ LF) hL)
theorem kc145 : HC (envT Tryz.prog 0) (C145 Tryz.prog LF) := fun L hL => extC_ok (kc142 L hL) (dataCon_ok (fnF_valid mixedT kc142 145 _ _ LF) hL)
theorem kc83 : HC (envT Tryz.prog 0) (C83 Tryz.prog LF) := fun L hL => extC_ok (kc145 L hL) (dataCon_ok (fnF_valid mixedT kc145 83 _ _ LF) hL)
theorem kc129 : HC (envT Tryz.prog 0) (C129 Tryz.prog LF) := fun L hL => extC_ok (kc83 L hL) (dataCon_ok (fnF_valid mixedT kc83 129 _ _ LF) hL)
theorem kc156 : HC (envT Tryz.prog 0) (C156 Tryz.prog LF) := fun L hL => extC_ok (kc129 L hL) (dataCon_ok (fnF_valid mixedT kc129 156 _ _ LF) hL)
theorem kc43 : HC (envT Tryz.prog 0) (C43 Tryz.prog LF) := fun L hL => extC_ok (kc156 L hL) (dataCon_ok (fnF_valid mixedT kc156 43 _ _ LF) hL)
theorem kc39 : HC (envT Tryz.prog 0) (C39 Tryz.prog LF) := fun L hL => extC_ok (kc43 L hL) (dataCon_ok (fnF_valid mixedT kc43 39 _ _ LF) hL)
theorem kc25 : HC (envT Tryz.prog 0) (C25 Tryz.prog LF) := fun L hL => extC_ok (kc39 L hL) (dataCon_ok (fnF_valid mixedT kc39 25 _ _ LF) hL)
theorem kc45 : HC (envT Tryz.prog 0) (C45 Tryz.prog LF) := fun L hL => extC_ok (kc25 L hL) (dataCon_ok (fnF_valid mixedT kc25 45 _ _ LF) hL)
theorem kc21 : HC (envT Tryz.prog 0) (C21 Tryz.prog LF) := fun L hL => extC_ok (kc45 L hL) (dataCon_ok (fnF_valid mixedT kc45 21 _ _ LF) hL)
theorem kc82 : HC (envT Tryz.prog 0) (C82 Tryz.prog LF) := fun L hL => extC_ok (kc21 L hL) (dataCon_ok (fnF_valid mixedT kc21 82 _ _ LF) hL)
theorem kcD26 : HC (envT Tryz.prog 0) (D26 Tryz.prog LF) := fun L hL => extC_ok (kc82 L hL) (dataCon_ok (fnF_valid mixedT kc57 26 _ _ LF) hL)
theorem kc151 : HC (envT Tryz.prog 0) (C151 Tryz.prog LF) := fun L hL => extC_ok (kcD26 L hL) (dataCon_ok (fnF_valid mixedT kcD26 151 _ _ LF) hL)
theorem kc70 : HC (envT Tryz.prog 0) (C70 Tryz.prog LF) := fun L hL => extC_ok (kc151 L hL) (dataCon_ok (fnF_valid mixedT kc151 70 _ _ LF) hL)
theorem kc77 : HC (envT Tryz.prog 0) (C77 Tryz.prog LF) := fun L hL => extC_ok (kc70 L hL) (dataCon_ok (fnF_valid mixedT kc70 77 _ _ LF) hL)
theorem kc79 : HC (envT Tryz.prog 0) (C79 Tryz.prog LF) := fun L hL => extC_ok (kc77 L hL) (dataCon_ok (fnF_valid mixedT kc77 79 _ _ LF) hL)
theorem kc81 : HC (envT Tryz.prog 0) (C81 Tryz.prog LF) := fun L hL => extC_ok (kc79 L hL) (dataCon_ok (fnF_valid mixedT kc79 81 _ _ LF) hL)
theorem kc66 : HC (envT Tryz.prog 0) (C66 Tryz.prog LF) := fun L hL => extC_ok (kc81 L hL) (dataCon_ok (fnF_valid mixedT kc81 66 _ _ LF) hL)
theorem kc143 : HC (envT Tryz.prog 0) (C143 Tryz.prog LF) := fun L hL => extC_ok (kc66 L hL) (dataCon_ok (fnF_valid mixedT kc66 143 _ _ LF) hL)
theorem kc58 : HC (envT Tryz.prog 0) (C58 Tryz.prog LF) := fun L hL => extC_ok (kc143 L hL) (dataCon_ok (fnF_valid mixedT kc143 58 _ _ LF) hL)
theorem kc63 : HC (envT Tryz.prog 0) (C63 Tryz.prog LF) := fun L hL => extC_ok (kc58 L hL) (dataCon_ok (fnF_valid mixedT kc58 63 _ _ LF) hL)
theorem kc144 : HC (envT Tryz.prog 0) (C144 Tryz.prog LF) := fun L hL => extC_ok (kc63 L hL) (dataCon_ok (fnF_valid mixedT kc63 144 _ _ LF) hL)
theorem kc60 : HC (envT Tryz.prog 0) (C60 Tryz.prog LF) := fun L hL => extC_ok (kc144 L hL) (dataCon_ok (fnF_valid mixedT kc144 60 _ _ LF) hL)
theorem kc59 : HC (envT Tryz.prog 0) (C59 Tryz.prog LF) := fun L hL => extC_ok (kc60 L hL) (dataCon_ok (fnF_valid mixedT kc60 59 _ _ LF) hL)
theorem kc64 : HC (envT Tryz.prog 0) (C64 Tryz.prog LF) := fun L hL => extC_ok (kc59 L hL) (dataCon_ok (fnF_valid mixedT kc59 64 _ _ LF) hL)
theorem kc74 : HC (envT Tryz.prog 0) (C74 Tryz.prog LF) := fun L hL => extC_ok (kc64 L hL) (dataCon_ok (fnF_valid mixedT kc64 74 _ _ LF) hL)
theorem kc75 : HC (envT Tryz.prog 0) (C75 Tryz.prog LF) := fun L hL => extC_ok (kc74 L hL) (dataCon_ok (fnF_valid mixedT kc74 75 _ _ LF) hL)
theorem kc76 : HC (envT Tryz.prog 0) (C76 Tryz.prog LF) := fun L hL => extC_ok (kc75 L hL) (dataCon_ok (fnF_valid mixedT kc75 76 _ _ LF) hL)
theorem kc65 : HC (envT Tryz.prog 0) (C65 Tryz.prog LF) := fun L hL => extC_ok (kc76 L hL) (dataCon_ok (fnF_valid mixedT kc76 65 _ _ LF) hL)
theorem kc67 : HC (envT Tryz.prog 0) (C67 Tryz.prog LF) := fun L hL => extC_ok (kc65 L hL) (dataCon_ok (fnF_valid mixedT kc65 67 _ _ LF) hL)
theorem kc78 : HC (envT Tryz.prog 0) (C78 Tryz.prog LF) := fun L hL => extC_ok (kc67 L hL) (dataCon_ok (fnF_valid mixedT kc67 78 _ _ LF) hL)
theorem kc80 : HC (envT Tryz.prog 0) (C80 Tryz.prog LF) := fun L hL => extC_ok (kc78 L hL) (dataCon_ok (fnF_valid mixedT kc78 80 _ _ LF) hL)
theorem kc42 : HC (envT Tryz.prog 0) (C42 Tryz.prog LF) := fun L hL => extC_ok (kc80 L hL) (dataCon_ok (fnF_valid mixedT kc80 42 _ _ LF) hL)
theorem kc46 : HC (envT Tryz.prog 0) (C46 Tryz.prog LF) := fun L hL => extC_ok (kc42 L hL) (dataCon_ok (fnF_valid mixedT kc42 46 _ _ LF) hL)
theorem kc48 : HC (envT Tryz.prog 0) (C48 Tryz.prog LF) := fun L hL => extC_ok (kc46 L hL) (dataCon_ok (fnF_valid mixedT kc46 48 _ _ LF) hL)
theorem kc44 : HC (envT Tryz.prog 0) (C44 Tryz.prog LF) := fun L hL => extC_ok (kc48 L hL) (dataCon_ok (fnF_valid mixedT kc48 44 _ _ LF) hL)
theorem kc55 : HC (envT Tryz.prog 0) (C55 Tryz.prog LF) := fun L hL => extC_ok (kc44 L hL) (dataCon_ok (fnF_valid mixedT kc44 55 _ _ LF) hL)
theorem kc73 : HC (envT Tryz.prog 0) (C73 Tryz.prog LF) := fun L hL => extC_ok (kc55 L hL) (dataCon_ok (fnF_valid mixedT kc55 73 _ _ LF) hL)
theorem kc4 : HC (envT Tryz.prog 0) (C4 Tryz.prog LF) := fun L hL => extC_ok (kc73 L hL) (dataCon_ok (fnF_valid mixedT kc73 4 _ _ LF) hL)
theorem kc9 : HC (envT Tryz.prog 0) (C9 Tryz.prog LF) := fun L hL => extC_ok (kc4 L hL) (dataCon_ok (fnF_valid mixedT kc4 9 _ _ LF) hL)
theorem kc15 : HC (envT Tryz.prog 0) (C15 Tryz.prog LF) := fun L hL => extC_ok (kc9 L hL) (dataCon_ok (fnF_valid mixedT kc9 15 _ _ LF) hL)
theorem kc12 : HC (envT Tryz.prog 0) (C12 Tryz.prog LF) := fun L hL => extC_ok (kc15 L hL) (dataCon_ok (fnF_valid mixedT kc15 12 _ _ LF) hL)
theorem kc7 : HC (envT Tryz.prog 0) (C7 Tryz.prog LF) := fun L hL => extC_ok (kc12 L hL) (dataCon_ok (fnF_valid mixedT kc12 7 _ _ LF) hL)
theorem kc16 : HC (envT Tryz.prog 0) (C16 Tryz.prog LF) := fun L hL => extC_ok (kc7 L hL) (dataCon_ok (fnF_valid mixedT kc7 16 _ _ LF) hL)
theorem kc54 : HC (envT Tryz.prog 0) (C54 Tryz.prog LF) := fun L hL => extC_ok (kc16 L hL) (dataCon_ok (fnF_valid mixedT kc16 54 _ _ LF) hL)
theorem kc53 : HC (envT Tryz.prog 0) (C53 Tryz.prog LF) := fun L hL => extC_ok (kc54 L hL) (dataCon_ok (fnF_valid mixedT kc54 53 _ _ LF) hL)
theorem kc210 : HC (envT Tryz.prog 0) (C210 Tryz.prog LF) := fun L hL => extC_ok (kc53 L hL) (dataCon_ok (fnF_valid mixedT kc53 210 _ _ LF) hL)
theorem kc211 : HC (envT Tryz.prog 0) (C211 Tryz.prog LF) := fun L hL => extC_ok (kc210 L hL) (dataCon_ok (fnF_valid mixedT kc210 211 _ _ LF) hL)
theorem kc212 : HC (envT Tryz.prog 0) (C212 Tryz.prog LF) := fun L hL => extC_ok (kc211 L hL) (dataCon_ok (fnF_valid mixedT kc211 212 _ _ LF) hL)
theorem kc153 : HC (envT Tryz.prog 0) (C153 Tryz.prog LF) := fun L hL => extC_ok (kc212 L hL) (dataCon_ok (fnF_valid mixedT kc212 153 _ _ LF) hL)
theorem kc71 : HC (envT Tryz.prog 0) (C71 Tryz.prog LF) := fun L hL => extC_ok (kc153 L hL) (dataCon_ok (fnF_valid mixedT kc153 71 _ _ LF) hL)
theorem kc213 : HC (envT Tryz.prog 0) (C213 Tryz.prog LF) := fun L hL => extC_ok (kc71 L hL) (dataCon_ok (fnF_valid mixedT kc71 213 _ _ LF) hL)
theorem kc155 : HC (envT Tryz.prog 0) (C155 Tryz.prog LF) := fun L hL => extC_ok (kc213 L hL) (dataCon_ok (fnF_valid mixedT kc213 155 _ _ LF) hL)
theorem kc72 : HC (envT Tryz.prog 0) (C72 Tryz.prog LF) := fun L hL => extC_ok (kc155 L hL) (dataCon_ok (fnF_valid mixedT kc155 72 _ _ LF) hL)
theorem kc14 : HC (envT Tryz.prog 0) (C14 Tryz.prog LF) := fun L hL => extC_ok (kc72 L hL) (dataCon_ok (fnF_valid mixedT kc72 14 _ _ LF) hL)
end Go.K
set_option linter.unusedVariables false
set_option maxRecDepth 100000
namespace Go.K
open Go.Sl Go.Sx Go.Proofs
theorem sortS_row : RowOk Tryz.prog 121 .str sortB := ⟨fun xs => sortB_len xs, fun hS hj hl => sortOwnS Tryz.sortS hS hj hl⟩
theorem compS_cut : CutOk Tryz.prog 122 .str compB := fun hS hj hl => compactOwnS Tryz.compactS hS hj hl
theorem kc122 : HC (envT Tryz.prog 0) (C122 Tryz.prog LF) := fun L hL => extC_ok (extC_ok (kc14 L hL) (rowCon_ok sortS_row)) (cutCon_ok compS_cut)
end Go.K
set_option linter.unusedVariables false
set_option maxRecDepth 100000
namespace Go.K
open Go.Sl Go.Sx Go.Proofs
theorem kc34 : HC (envT Tryz.prog 0) (C34 Tryz.prog LF) := fun L hL => extC_ok (kc122 L hL) (dataCon_ok (fnF_valid mixedT kc122 34 _ _ LF) hL)
theorem kc35 : HC (envT Tryz.prog 0) (C35 Tryz.prog LF) := fun L hL => extC_ok (kc34 L hL) (dataCon_ok (fnF_valid mixedT kc34 35 _ _ LF) hL)
end Go.K
set_option linter.unusedVariables false
namespace Go.Sx
open Go.Sl Go.RowKit Go.ChangeShapes
def Opens {α : Type} (P : Program) (t : TypeId) (T : Ty α) (ok : α → Prop) : Prop :=
  ∀ (H : Type) (enc : TypeId × Value → H) (W : World) (fuel : Nat) (cs : List Value) (d : DataW H × List MemPlace),
    DataW.trod enc P W 0 (fun _ => true) true fuel t cs = some d → ∃ x, T.rep (Zone.all W) cs x ∧ ok x
theorem mapM_mem {α β : Type} {f : α → Option β} : ∀ {l : List α} {ys : List β}, l.mapM f = some ys → ∀ a ∈ l, ∃ y, f a = some y
  | [], _, _, a, ha => by cases ha
  | x :: l, ys, h, a, ha => by
    rw [List.mapM_cons] at h
    cases hx : f x with
    | none => rw [hx] at h; simp at h
    | some y =>
      rw [hx] at h
      simp only [Option.pure_def, Option.bind_eq_bind, Option.bind_some] at h
      cases hl : l.mapM f with
      | none => rw [hl] at h; simp at h
      | some zs =>
        rcases List.mem_cons.1 ha with e | e
        · subst e; exact ⟨y, hx⟩
        · exact mapM_mem hl a e
section
variable {H : Type} {enc : TypeId × Value → H} {P : Program} {W : World} {fuel : Nat} {t : TypeId} {cs : List Value} {d : DataW H × List MemPlace}
theorem trod_fields {fs : Array Field} (ht : P.underlying t = some (.struct fs)) (h : DataW.trod enc P W 0 (fun _ => true) true fuel t cs = some d) :
    cs.length = P.cellsOf t ∧ ∃ n, ∀ f ∈ fs.toList, ∃ y, DataW.trod enc P W 0 (fun _ => true) true n f.type ((cs.drop f.offset).take (P.cellsOf f.type)) = some y := by
  cases fuel with
  | zero => simp [DataW.trod] at h
  | succ n =>
    simp only [DataW.trod, ht] at h
    by_cases hl : cs.length = P.cellsOf t
    · rw [if_pos hl] at h
      refine ⟨hl, n, fun f hf => ?_⟩
      cases hm : fs.toList.mapM fun f => DataW.trod enc P W 0 (fun _ => true) true n f.type ((cs.drop f.offset).take (P.cellsOf f.type)) with
      | none => rw [hm] at h; simp at h
      | some ys => exact mapM_mem hm f hf
    · rw [if_neg hl] at h; cases h
theorem trod_items {m : Nat} {e : TypeId} (ht : P.underlying t = some (.array m e)) (h : DataW.trod enc P W 0 (fun _ => true) true fuel t cs = some d) :
    cs.length = P.cellsOf t ∧ ∃ n, ∀ i, i < m → ∃ y, DataW.trod enc P W 0 (fun _ => true) true n e ((cs.drop (i * P.cellsOf e)).take (P.cellsOf e)) = some y := by
  cases fuel with
  | zero => simp [DataW.trod] at h
  | succ n =>
    simp only [DataW.trod, ht] at h
    by_cases hl : cs.length = P.cellsOf t
    · rw [if_pos hl] at h
      refine ⟨hl, n, fun i hi => ?_⟩
      cases hm : (List.range m).mapM fun i => DataW.trod enc P W 0 (fun _ => true) true n e ((cs.drop (i * P.cellsOf e)).take (P.cellsOf e)) with
      | none => rw [hm] at h; simp at h
      | some ys => exact mapM_mem hm i (List.mem_range.2 hi)
    · rw [if_neg hl] at h; cases h
end
theorem opens_slice {α : Type} {P : Program} {t e : TypeId} {T : Ty α} {ok : α → Prop} (ht : P.underlying t = some (.slice e)) (he : P.cellsOf e = T.size) (h : Opens P e T ok) : Opens P t (Ty.slice T) (fun xs => (∀ x ∈ xs, ok x) ∧ xs.length ≤ maxLen) := fun H enc W fuel cs d hd => by
  rcases Go.Deep.open_slice ht hd with ⟨rfl, _⟩ | ⟨a, len, cap, m, n, D, Pl, rfl, _, hl, hm, hmm, _, hx⟩
  · exact ⟨[], ⟨none, 0, rfl, SliceR.nil' T _⟩, ⟨(fun _ h => by cases h), by simp⟩⟩
  · simp only [if_true] at hmm
    have hall : ∀ i, i < len → ∃ x, (∃ c, T.rep (Zone.all W) c x ∧ ∀ j v, c[j]? = some v → (Zone.all W).cell? ((a.add (i * T.size)).add j) = some v) ∧ ok x := fun i hi => by
      obtain ⟨cs', h1, h2⟩ := hx i (by omega)
      obtain ⟨x, hr, ho⟩ := h H enc W n cs' _ h2
      refine ⟨x, ⟨cs', hr, fun j v hj => ?_⟩, ho⟩
      rw [he] at h1
      obtain ⟨_, hlen, hc⟩ := World.cells?_some h1
      have hlt : j < cs'.length := (List.getElem?_eq_some_iff.1 hj).1
      exact (hc j (by omega)).trans hj
    have key : ∀ k, k ≤ len → ∃ xs : List α, xs.length = k ∧ (∀ x ∈ xs, ok x) ∧ ∀ i x, xs[i]? = some x → ∃ c, T.rep (Zone.all W) c x ∧ ∀ j v, c[j]? = some v → (Zone.all W).cell? ((a.add (i * T.size)).add j) = some v := by
      intro k
      induction k with
      | zero => exact fun _ => ⟨[], rfl, (fun _ h => by cases h), (fun i x h => by simp at h)⟩
      | succ k ih =>
        intro hk
        obtain ⟨xs, h1, h2, h3⟩ := ih (by omega)
        obtain ⟨x, hx1, hx2⟩ := hall k (by omega)
        refine ⟨xs ++ [x], by simp [h1], fun y hy => ?_, fun i y hy => ?_⟩
        · rcases List.mem_append.1 hy with e | e
          · exact h2 y e
          · simp only [List.mem_singleton] at e; exact e ▸ hx2
        · rw [List.getElem?_append] at hy
          split at hy
          · exact h3 i y hy
          · rename_i hge
            have : i - xs.length = 0 := by
              have := (List.getElem?_eq_some_iff.1 hy).1
              simp at this; omega
            rw [this] at hy
            simp only [List.getElem?_cons_zero, Option.some.injEq] at hy
            subst hy
            have : i = k := by omega
            subst this
            exact hx1
    obtain ⟨xs, h1, h2, h3⟩ := key len (Nat.le_refl _)
    refine ⟨xs, ⟨some a, cap, by rw [h1], ⟨by omega, hm, (fun e => by cases e), fun b e i x hi => ?_⟩⟩, ⟨h2, by omega⟩⟩
    cases e
    exact h3 i x hi
section
variable {H : Type} {enc : TypeId × Value → H} {P : Program} {W : World} {base : Nat} {t : TypeId} {v : Value} {d : DataW H} {ps : List MemPlace}
theorem arg_agg {α : Type} {T : Ty α} {ok : α → Prop} (hs : (match P.underlying t with | some (.struct _) => true | some (.array _ _) => true | _ => false) = true) (hv : Value.okWide P W .any base t v) (h : DataW.Trod enc P W 0 (fun _ => true) true t v d ps) (ho : Opens P t T ok) :
    ∃ cs x, v = .agg cs.toArray ∧ T.rep (Zone.all W) cs x ∧ ok x := by
  obtain ⟨fuel, hf⟩ := h
  obtain ⟨x, hx, hok⟩ := ho H enc W fuel _ _ hf
  have : ∃ cs, v = .agg cs := by
    unfold Value.okWide at hv
    split at hs
    · rename_i fs ht; rw [ht] at hv; obtain ⟨cs, e, _⟩ := hv; exact ⟨cs, e⟩
    · rename_i m e ht; rw [ht] at hv; obtain ⟨cs, e, _⟩ := hv; exact ⟨cs, e⟩
    · cases hs
  obtain ⟨cs, rfl⟩ := this
  exact ⟨cs.toList, x, rfl, hx, hok⟩
theorem trodAll_stays (hl : laidOutB P = true) {W' : World} (hb : Below W.heap.size W W') : ∀ {ts : List TypeId} {vs : List Value} {ds : List (DataW H)} {ps : List MemPlace}, (ts.all fun t => P.readableRec t && Nat.blt t P.types.size) = true →
    DataW.TrodAll enc P W 0 (fun _ => true) true ts vs ds ps → (∀ p ∈ ps, p.block < W.heap.size) → DataW.TrodAll enc P W' 0 (fun b => decide (b < W.heap.size)) true ts vs ds ps
  | [], [], [], _, _, h, _ => h
  | t :: ts, v :: vs, d :: ds, _, hr, ⟨p, q, h1, h2, e⟩, hlt => by
    simp only [List.all_cons, Bool.and_eq_true, Nat.blt_eq] at hr
    subst e
    exact ⟨p, q, Below.trod hl hr.1.1 hr.1.2 h1 hb (fun x hx => hlt x (List.mem_append_left _ hx)), trodAll_stays hl hb hr.2 h2 (fun x hx => hlt x (List.mem_append_right _ hx)), rfl⟩
  | [], _ :: _, _, _, _, h, _ => h.elim
  | [], [], _ :: _, _, _, h, _ => h.elim
  | _ :: _, [], _, _, _, h, _ => h.elim
  | _ :: _, _ :: _, [], _, _, h, _ => h.elim
theorem post_true {f : Func} {s : ChangeSpec} {args : Array Value} {ds : List (DataW H)} {before : List MemPlace} {apart : Bool} {W' : World} {tb : TypeId} (hl : laidOutB P = true) (hvars : s.vars = []) (hr : (f.params.toList.all fun t => P.readableRec t && Nat.blt t P.types.size) = true)
    (hres : f.resultTypes = #[tb]) (hu : P.underlying tb = some .bool) (hW : DataW.Whole enc P f.params.toList s.vars apart W args.toList ds [] before) (hb : Below W.heap.size W W') (hs : s.fn H (ds ++ []) = { results := [.lit (.bool true)], args := ds }) :
    s.post enc P f apart true false false W args (.bool true) W' := by
  have hlt := hW.lt
  have hW0 := hW
  obtain ⟨p, q, hA, hV, rfl, _, _⟩ := hW
  rw [hvars] at hV
  obtain ⟨_, rfl⟩ := trodVars_none hV
  refine ⟨ds, [], p ++ [], [], p, [], hW0, ?_, ?_, ?_, hb.frame _, fun h => by cases h⟩
  · rw [hs, hres]; exact trodAll_mk1 (shut_bool hu true)
  · rw [hs]; exact trodAll_stays hl hb hr hA (fun x hx => hlt x (by simpa using hx))
  · rw [hs, hvars]; rfl
end
end Go.Sx
namespace Go.Sx
structure A2 where
  a0 : Int
  a1 : Int
  deriving DecidableEq
structure A3 where
  a0 : Int
  a1 : Int
  a2 : Int
  deriving DecidableEq
end Go.Sx
set_option linter.unusedVariables false
namespace Go.Sx
open Go.Sl Go.RowKit Go.ChangeShapes Go.Proofs
variable {H : Type} {enc : TypeId × Value → H}
theorem env_of {P : Program} {W : World} {g : Nat} (h1 : Lib.TabIs P W "internal/strconv.uint64pow10" .u64 Lib.pow10Tab) (h2 : ∃ m, W.cell? ⟨g, 0, none⟩ = some (.int .i64 m)) : Sx.Env P g (Zone.all W) := by
  refine ⟨fun L w hS => ?_, ?_⟩
  · have hle := hS.whole
    unfold Lib.TabIs World.var? at h1 ⊢
    cases hg : P.globalNamed "internal/strconv.uint64pow10" with
    | none => rw [hg] at h1; cases h1
    | some b =>
      rw [hg] at h1
      simp only [Option.bind_some] at h1 ⊢
      cases hb : W.heap[b]? with
      | none => rw [hb] at h1; cases h1
      | some o =>
        have hb' : w.heap[b]? = some o := hle.blk b o hb
        rw [hb'] ; rw [hb] at h1; exact h1
  · obtain ⟨m, hm⟩ := h2
    exact ⟨m, hm⟩
end Go.Sx
set_option linter.unusedVariables false
namespace Go.K
open Go.Sl Go.Sx Go.RowKit Go.ChangeShapes Go.Proofs
def opF (P : Program) (rec : TypeId → TC → Bool) : List Field → Nat → TC → Bool
  | [f], off, u => Nat.beq f.offset off && (Nat.beq (P.cellsOf f.type) u.size && rec f.type u)
  | f :: g :: r, off, .pair a b => (Nat.beq f.offset off && (Nat.beq (P.cellsOf f.type) a.size && rec f.type a)) && opF P rec (g :: r) (off + a.size) b
  | _, _, _ => false
def opA (rec : TypeId → TC → Bool) (e : TypeId) (k : Nat) : Nat → TC → Bool
  | 1, u => Nat.beq k u.size && rec e u
  | n + 2, .pair a b => (Nat.beq k a.size && rec e a) && opA rec e k (n + 1) b
  | _, _ => false
def opB (P : Program) : Nat → TypeId → TC → Bool
  | 0, _, _ => false
  | n + 1, t, u => match P.underlying t with
    | some (.int .i64) => (match u with | .int .i64 => true | _ => false)
    | some .string => (match u with | .str => true | _ => false)
    | some (.slice e) => (match u with | .sl v => Nat.beq (P.cellsOf e) v.size && opB P n e v | _ => false)
    | some (.struct fs) => Nat.beq (P.cellsOf t) u.size && opF P (opB P n) fs.toList 0 u
    | some (.array m e) => Nat.beq (P.cellsOf t) u.size && opA (opB P n) e (P.cellsOf e) m u
    | _ => false
theorem opB_ok {P : Program} : ∀ (n : Nat) {t : TypeId} {u : TC}, opB P n t u = true → Opens P t u.ty (fun _ => True)
  | 0, _, _, h => by cases h
  | n + 1, t, u, h => by
    unfold opB at h
    split at h
    · rename_i ht
      split at h
      · intro H enc W fuel cs d hd
        obtain ⟨m, rfl, _, _⟩ := DataW.trod_int ht hd
        exact ⟨m, rfl, trivial⟩
      · cases h
    · rename_i ht
      split at h
      · intro H enc W fuel cs d hd
        obtain ⟨s, rfl, _, _⟩ := DataW.trod_string ht hd
        exact ⟨s, rfl, trivial⟩
      · cases h
    · rename_i e ht
      split at h
      · rename_i v
        simp only [Bool.and_eq_true, Nat.beq_eq] at h
        intro H enc W fuel cs d hd
        obtain ⟨x, hx, _⟩ := opens_slice ht (h.1.trans v.size_eq.symm) (opB_ok n h.2) H enc W fuel cs d hd
        exact ⟨x, hx, trivial⟩
      · cases h
    · rename_i fs ht
      simp only [Bool.and_eq_true, Nat.beq_eq] at h
      obtain ⟨h0, h1⟩ := h
      intro H enc W fuel cs d hd
      obtain ⟨hl, k, hx⟩ := trod_fields ht hd
      have key : ∀ (l : List Field) (off : Nat) (u : TC), (∀ f ∈ l, f ∈ fs.toList) → opF P (opB P n) l off u = true → cs.length = off + u.size → ∃ x, u.ty.rep (Zone.all W) (cs.drop off) x := by
        intro l
        induction l with
        | nil => intro off u _ hh _; simp [opF] at hh
        | cons f r ih =>
          intro off u hsub hh hlen
          cases r with
          | nil =>
            simp only [opF, Bool.and_eq_true, Nat.beq_eq] at hh
            obtain ⟨e1, e2, e3⟩ := hh
            obtain ⟨y, hy⟩ := hx f (hsub f (List.mem_cons_self ..))
            rw [e1, e2, List.take_of_length_le (by rw [List.length_drop]; omega)] at hy
            obtain ⟨x, hx', _⟩ := opB_ok n e3 H enc W k _ y hy
            exact ⟨x, hx'⟩
          | cons g r =>
            cases u with
            | pair a b =>
              simp only [opF, Bool.and_eq_true, Nat.beq_eq] at hh
              obtain ⟨⟨e1, e2, e3⟩, e4⟩ := hh
              simp only [TC.size] at hlen
              obtain ⟨y, hy⟩ := hx f (hsub f (List.mem_cons_self ..))
              rw [e1, e2] at hy
              obtain ⟨x1, r1, _⟩ := opB_ok n e3 H enc W k _ y hy
              obtain ⟨x2, r2⟩ := ih (off + a.size) b (fun q hq => hsub q (List.mem_cons_of_mem _ hq)) e4 (by omega)
              refine ⟨(x1, x2), (cs.drop off).take a.size, cs.drop (off + a.size), ?_, r1, r2⟩
              rw [← List.drop_drop, List.take_append_drop]
            | _ => simp [opF] at hh
      obtain ⟨x, hx'⟩ := key fs.toList 0 u (fun _ h => h) h1 (by omega)
      exact ⟨x, by simpa using hx', trivial⟩
    · rename_i m e ht
      simp only [Bool.and_eq_true, Nat.beq_eq] at h
      obtain ⟨h0, h1⟩ := h
      intro H enc W fuel cs d hd
      obtain ⟨hl, k, hx⟩ := trod_items ht hd
      have key : ∀ (q i : Nat) (u : TC), i + q = m → opA (opB P n) e (P.cellsOf e) q u = true → cs.length = i * P.cellsOf e + u.size → ∃ x, u.ty.rep (Zone.all W) (cs.drop (i * P.cellsOf e)) x := by
        intro q
        induction q with
        | zero => intro i u _ hh _; simp [opA] at hh
        | succ q ih =>
          intro i u hq hh hlen
          cases q with
          | zero =>
            simp only [opA, Bool.and_eq_true, Nat.beq_eq] at hh
            obtain ⟨y, hy⟩ := hx i (by omega)
            rw [List.take_of_length_le (by rw [List.length_drop]; omega)] at hy
            obtain ⟨x, hx', _⟩ := opB_ok n hh.2 H enc W k _ y hy
            exact ⟨x, hx'⟩
          | succ q =>
            cases u with
            | pair a b =>
              simp only [opA, Bool.and_eq_true, Nat.beq_eq] at hh
              obtain ⟨⟨e2, e3⟩, e4⟩ := hh
              simp only [TC.size] at hlen
              obtain ⟨y, hy⟩ := hx i (by omega)
              obtain ⟨x1, r1, _⟩ := opB_ok n e3 H enc W k _ y hy
              obtain ⟨x2, r2⟩ := ih (i + 1) b (by omega) e4 (by rw [Nat.add_mul]; omega)
              refine ⟨(x1, x2), (cs.drop (i * P.cellsOf e)).take (P.cellsOf e), cs.drop ((i + 1) * P.cellsOf e), ?_, r1, r2⟩
              rw [Nat.add_mul, Nat.one_mul, ← List.drop_drop, List.take_append_drop]
            | _ => simp [opA] at hh
      obtain ⟨x, hx'⟩ := key m 0 u (by omega) h1 (by omega)
      exact ⟨x, by simpa using hx', trivial⟩
    · cases h
section
variable {H : Type} {enc : TypeId × Value → H} {P : Program} {W : World} {base : Nat} {t : TypeId} {v : Value} {d : DataW H} {ps : List MemPlace}
end
end Go.K
set_option linter.unusedVariables false
set_option linter.unusedSimpArgs false
namespace Go.K
open Go.Sl Go.Sx Go.RowKit Go.ChangeShapes Go.Proofs
def SzOk : (u : TC) → u.den → Prop
  | .sl v, xs => xs.length * bytN v ≤ 140737488355328 ∧ ∀ y ∈ xs, SzOk v y
  | .nsl v, xs => xs.length * bytN v ≤ 140737488355328 ∧ ∀ y ∈ xs, SzOk v y
  | .pair a b, x => SzOk a x.1 ∧ SzOk b x.2
  | .str, s => s.size ≤ 140737488355328
  | .int _, _ => True | .bool, _ => True | .unit, _ => True | .mpc _, _ => True
def szB (P : Program) : Nat → TypeId → TC → Bool
  | 0, _, _ => false
  | n + 1, t, u => match P.underlying t with
    | some (.int .i64) => (match u with | .int .i64 => true | _ => false)
    | some .string => (match u with | .str => true | _ => false)
    | some (.slice e) => (match u with | .sl v => Nat.beq (P.cellsOf e) v.size && (Nat.ble (bytN v) (P.bytesOf e) && szB P n e v) | _ => false)
    | some (.struct fs) => Nat.beq (P.cellsOf t) u.size && opF P (szB P n) fs.toList 0 u
    | some (.array m e) => Nat.beq (P.cellsOf t) u.size && opA (szB P n) e (P.cellsOf e) m u
    | _ => false
abbrev lowW {H : Type} (P : Program) (t : TypeId) (d : DataW H) : Prop := ∀ n ∈ d.weights P t, n ≤ reachBytes
theorem mapM_list {α β : Type} {f : α → Option β} : ∀ {l : List α} {ys : List β}, l.mapM f = some ys → l.length = ys.length ∧ ∀ (i : Nat) a, l[i]? = some a → ∃ y, ys[i]? = some y ∧ f a = some y
  | [], ys, h => by
    simp only [List.mapM_nil, Option.pure_def, Option.some.injEq] at h
    subst h
    exact ⟨rfl, fun i a h => by simp at h⟩
  | x :: l, ys, h => by
    rw [List.mapM_cons] at h
    cases hx : f x with
    | none => rw [hx] at h; simp at h
    | some y =>
      rw [hx] at h
      simp only [Option.pure_def, Option.bind_eq_bind, Option.bind_some] at h
      cases hl : l.mapM f with
      | none => rw [hl] at h; simp at h
      | some zs =>
        rw [hl] at h
        simp only [Option.bind_some, Option.some.injEq] at h
        subst h
        obtain ⟨h1, h2⟩ := mapM_list hl
        refine ⟨by simp [h1], fun i a hi => ?_⟩
        cases i with
        | zero => simp at hi; subst hi; exact ⟨y, rfl, hx⟩
        | succ i => simpa using h2 i a (by simpa using hi)
section
variable {H : Type} {enc : TypeId × Value → H} {P : Program} {W : World}
theorem weights_all {e : TypeId} : ∀ {ds : List (DataW H)} {i : Nat} {d : DataW H}, (∀ n ∈ DataW.weightsAll P e ds, n ≤ reachBytes) → ds[i]? = some d → lowW P e d
  | d0 :: ds, 0, d, h, hi => by
    simp only [List.getElem?_cons_zero, Option.some.injEq] at hi
    subst hi
    intro n hn
    refine h n ?_
    simp only [DataW.weightsAll]
    exact List.mem_append_left _ hn
  | d0 :: ds, i + 1, d, h, hi => weights_all (fun n hn => h n (by simp only [DataW.weightsAll]; exact List.mem_append_right _ hn)) (by simpa using hi)
  | [], i, d, h, hi => by simp at hi
theorem weights_each : ∀ {ts : List TypeId} {ds : List (DataW H)} {i : Nat} {t : TypeId} {d : DataW H}, (∀ n ∈ DataW.weightsEach P ts ds, n ≤ reachBytes) → ts[i]? = some t → ds[i]? = some d → lowW P t d
  | t0 :: ts, d0 :: ds, 0, t, d, h, ht, hi => by
    simp only [List.getElem?_cons_zero, Option.some.injEq] at hi ht
    subst hi ht
    intro n hn
    refine h n ?_
    simp only [DataW.weightsEach]
    exact List.mem_append_left _ hn
  | t0 :: ts, d0 :: ds, i + 1, t, d, h, ht, hi => weights_each (fun n hn => h n (by simp only [DataW.weightsEach]; exact List.mem_append_right _ hn)) (by simpa using ht) (by simpa using hi)
  | [], _, i, t, d, h, ht, hi => by simp at ht
  | _ :: _, [], i, t, d, h, ht, hi => by simp at hi
theorem sz_ok : ∀ (n : Nat) {t : TypeId} {u : TC}, szB P n t u = true → ∀ {fuel : Nat} {cs : List Value} {d : DataW H × List MemPlace} {x : u.den}, DataW.trod enc P W 0 (fun _ => true) true fuel t cs = some d → lowW P t d.1 → u.ty.rep (Zone.all W) cs x → SzOk u x
  | 0, _, _, h => by cases h
  | n + 1, t, u, h => by
    intro hd hw hr
    rename_i fuel cs d x
    unfold szB at h
    split at h
    · split at h
      · trivial
      · cases h
    · rename_i ht
      split at h
      · obtain ⟨s, rfl, hs, _⟩ := DataW.trod_string ht hd
        have hx : ([.string s] : List Value) = [.string x] := hr
        simp only [List.cons.injEq, Value.string.injEq, and_true] at hx
        subst hx
        obtain ⟨d1, d2⟩ := d
        simp only [Prod.mk.injEq] at hs
        obtain ⟨rfl, _⟩ := hs
        have := hw s.data.toList.length (by simp [DataW.weights])
        show s.size ≤ 140737488355328
        have e : s.data.toList.length = s.size := by simp
        rw [e] at this
        simp only [reachBytes] at this
        omega
      · cases h
    · rename_i e ht
      split at h
      · rename_i v
        simp only [Bool.and_eq_true, Nat.beq_eq, Nat.ble_eq] at h
        obtain ⟨hc, hb, hrec⟩ := h
        obtain ⟨o, cap, rfl, hs⟩ := hr
        cases fuel with
        | zero => simp [DataW.trod] at hd
        | succ fuel =>
        cases o with
        | none =>
          obtain ⟨rfl, rfl⟩ := hs.hnil rfl
          exact ⟨by simp, fun y hy => by cases hy⟩
        | some a =>
          simp only [DataW.trod, ht] at hd
          split at hd
          · rename_i hcond
            cases hm : (List.range x.length).mapM (fun i => (W.cells? 0 (a.add (i * P.cellsOf e)) (P.cellsOf e)).bind (DataW.trod enc P W 0 (fun _ => true) true fuel e)) with
            | none => rw [hm] at hd; simp at hd
            | some elems =>
              rw [hm] at hd
              simp only [Option.bind_some, if_true] at hd
              cases hm2 : (List.range (cap - x.length)).mapM (fun j => (W.cells? 0 (a.add ((x.length + j) * P.cellsOf e)) (P.cellsOf e)).bind (DataW.trod enc P W 0 (fun _ => true) true fuel e)) with
              | none => rw [hm2] at hd; simp at hd
              | some rest =>
                rw [hm2] at hd
                simp only [Option.map_some, Option.some.injEq] at hd
                subst hd
                obtain ⟨hl1, hl2⟩ := mapM_list hm
                rw [List.length_range] at hl1
                have hw0 : (elems.length + rest.length) * P.bytesOf e ≤ reachBytes := hw _ (by simp [DataW.weights, ht])
                have hwa : ∀ k ∈ DataW.weightsAll P e (elems.map (·.1)), k ≤ reachBytes := fun k hk => hw k (by simp only [DataW.weights, ht]; exact List.mem_cons_of_mem _ (List.mem_append_left _ hk))
                refine ⟨?_, fun y hy => ?_⟩
                · have h1 := Nat.mul_le_mul (show x.length ≤ elems.length + rest.length by omega) hb
                  simp only [reachBytes] at hw0
                  show x.length * bytN v ≤ 140737488355328
                  omega
                · obtain ⟨i, hi, rfl⟩ := List.mem_iff_getElem.1 hy
                  obtain ⟨y', hy1, hy2⟩ := hl2 i i (by simp [hi])
                  have hlow : lowW P e y'.1 := weights_all hwa (i := i) (by rw [List.getElem?_map, hy1]; rfl)
                  cases hcs : W.cells? 0 (a.add (i * P.cellsOf e)) (P.cellsOf e) with
                  | none => rw [hcs] at hy2; simp at hy2
                  | some cs' =>
                    rw [hcs] at hy2
                    simp only [Option.bind_some] at hy2
                    obtain ⟨c, hc1, hc2⟩ := hs.hat a rfl i x[i] (List.getElem?_eq_getElem hi)
                    obtain ⟨_, hlen, hcell⟩ := World.cells?_some hcs
                    have hcl : c.length = v.ty.size := v.ty.len hc1
                    have heq : cs' = c := by
                      apply List.ext_getElem?
                      intro j
                      by_cases hj : j < c.length
                      · have h1 := hc2 j c[j] (List.getElem?_eq_getElem hj)
                        rw [v.size_eq, ← hc] at h1
                        have h2 := hcell j (by rw [hc, ← v.size_eq]; omega)
                        have h3 : W.cell? ((a.add (i * P.cellsOf e)).add j) = some c[j] := h1
                        rw [← h2, h3, List.getElem?_eq_getElem hj]
                      · have hl3 : cs'.length = c.length := by rw [hlen, hc, ← v.size_eq, hcl]
                        rw [List.getElem?_eq_none (show cs'.length ≤ j by omega), List.getElem?_eq_none (show c.length ≤ j by omega)]
                    subst heq
                    exact sz_ok n hrec hy2 hlow hc1
          · cases hd
      · cases h
    · rename_i fs ht
      simp only [Bool.and_eq_true, Nat.beq_eq] at h
      obtain ⟨h0, h1⟩ := h
      obtain ⟨hl, _⟩ := trod_fields ht hd
      cases fuel with
      | zero => simp [DataW.trod] at hd
      | succ fuel =>
        simp only [DataW.trod, ht] at hd
        rw [if_pos hl] at hd
        cases hm : fs.toList.mapM fun f => DataW.trod enc P W 0 (fun _ => true) true fuel f.type ((cs.drop f.offset).take (P.cellsOf f.type)) with
        | none => rw [hm] at hd; simp at hd
        | some ys =>
          rw [hm] at hd
          simp only [Option.map_some, Option.some.injEq] at hd
          subst hd
          obtain ⟨hl1, hl2⟩ := mapM_list hm
          have hwe : ∀ k ∈ DataW.weightsEach P (fs.toList.map (·.type)) (ys.map (·.1)), k ≤ reachBytes := fun k hk => hw k (by simp only [DataW.weights, ht]; exact hk)
          have hf : ∀ f ∈ fs.toList, ∃ y, DataW.trod enc P W 0 (fun _ => true) true fuel f.type ((cs.drop f.offset).take (P.cellsOf f.type)) = some y ∧ lowW P f.type y.1 := fun f hfm => by
            obtain ⟨i, hi, rfl⟩ := List.mem_iff_getElem.1 hfm
            obtain ⟨y, hy1, hy2⟩ := hl2 i _ (List.getElem?_eq_getElem hi)
            exact ⟨y, hy2, weights_each hwe (i := i) (by rw [List.getElem?_map, List.getElem?_eq_getElem hi]; rfl) (by rw [List.getElem?_map, hy1]; rfl)⟩
          have key : ∀ (l : List Field) (off : Nat) (u : TC) (x : u.den), (∀ f ∈ l, f ∈ fs.toList) → opF P (szB P n) l off u = true → cs.length = off + u.size → u.ty.rep (Zone.all W) (cs.drop off) x → SzOk u x := by
            intro l
            induction l with
            | nil => intro off u x _ hh _ _; simp [opF] at hh
            | cons f r ih =>
              intro off u x hsub hh hlen hr
              cases r with
              | nil =>
                simp only [opF, Bool.and_eq_true, Nat.beq_eq] at hh
                obtain ⟨e1, e2, e3⟩ := hh
                obtain ⟨y, hy, hlow⟩ := hf f (hsub f (List.mem_cons_self ..))
                rw [e1, e2, List.take_of_length_le (by rw [List.length_drop]; omega)] at hy
                exact sz_ok n e3 hy hlow hr
              | cons g r =>
                cases u with
                | pair a b =>
                  simp only [opF, Bool.and_eq_true, Nat.beq_eq] at hh
                  obtain ⟨⟨e1, e2, e3⟩, e4⟩ := hh
                  simp only [TC.size] at hlen
                  obtain ⟨y, hy, hlow⟩ := hf f (hsub f (List.mem_cons_self ..))
                  obtain ⟨c, d, ecd, hc, hd'⟩ := hr
                  have hcl : c.length = a.size := by rw [a.ty.len hc, a.size_eq]
                  have hc' : (cs.drop off).take a.size = c := by rw [ecd, List.take_left' hcl]
                  have hd2 : cs.drop (off + a.size) = d := by rw [← List.drop_drop, ecd, List.drop_left' hcl]
                  rw [e1, e2, hc'] at hy
                  exact ⟨sz_ok n e3 hy hlow hc, ih (off + a.size) b x.2 (fun q hq => hsub q (List.mem_cons_of_mem _ hq)) e4 (by omega) (by rw [hd2]; exact hd')⟩
                | _ => simp [opF] at hh
          exact key fs.toList 0 u x (fun _ h => h) h1 (by omega) (by simpa using hr)
    · rename_i m e ht
      simp only [Bool.and_eq_true, Nat.beq_eq] at h
      obtain ⟨h0, h1⟩ := h
      obtain ⟨hl, _⟩ := trod_items ht hd
      cases fuel with
      | zero => simp [DataW.trod] at hd
      | succ fuel =>
        simp only [DataW.trod, ht] at hd
        rw [if_pos hl] at hd
        cases hm : (List.range m).mapM fun i => DataW.trod enc P W 0 (fun _ => true) true fuel e ((cs.drop (i * P.cellsOf e)).take (P.cellsOf e)) with
        | none => rw [hm] at hd; simp at hd
        | some ys =>
          rw [hm] at hd
          simp only [Option.map_some, Option.some.injEq] at hd
          subst hd
          obtain ⟨hl1, hl2⟩ := mapM_list hm
          have hwa : ∀ k ∈ DataW.weightsAll P e (ys.map (·.1)), k ≤ reachBytes := fun k hk => hw k (by simp only [DataW.weights, ht]; exact hk)
          have hf : ∀ i, i < m → ∃ y, DataW.trod enc P W 0 (fun _ => true) true fuel e ((cs.drop (i * P.cellsOf e)).take (P.cellsOf e)) = some y ∧ lowW P e y.1 := fun i hi => by
            obtain ⟨y, hy1, hy2⟩ := hl2 i i (by simp [hi])
            exact ⟨y, hy2, weights_all hwa (i := i) (by rw [List.getElem?_map, hy1]; rfl)⟩
          have key : ∀ (q i : Nat) (u : TC) (x : u.den), i + q = m → opA (szB P n) e (P.cellsOf e) q u = true → cs.length = i * P.cellsOf e + u.size → u.ty.rep (Zone.all W) (cs.drop (i * P.cellsOf e)) x → SzOk u x := by
            intro q
            induction q with
            | zero => intro i u x _ hh _ _; simp [opA] at hh
            | succ q ih =>
              intro i u x hq hh hlen hr
              cases q with
              | zero =>
                simp only [opA, Bool.and_eq_true, Nat.beq_eq] at hh
                obtain ⟨y, hy, hlow⟩ := hf i (by omega)
                rw [List.take_of_length_le (by rw [List.length_drop]; omega)] at hy
                exact sz_ok n hh.2 hy hlow hr
              | succ q =>
                cases u with
                | pair a b =>
                  simp only [opA, Bool.and_eq_true, Nat.beq_eq] at hh
                  obtain ⟨⟨e2, e3⟩, e4⟩ := hh
                  simp only [TC.size] at hlen
                  obtain ⟨y, hy, hlow⟩ := hf i (by omega)
                  obtain ⟨c, d, ecd, hc, hd'⟩ := hr
                  have hcl : c.length = a.size := by rw [a.ty.len hc, a.size_eq]
                  have hc' : (cs.drop (i * P.cellsOf e)).take a.size = c := by rw [ecd, List.take_left' hcl]
                  have hd2 : cs.drop ((i + 1) * P.cellsOf e) = d := by
                    have h9 : (cs.drop (i * P.cellsOf e)).drop a.size = d := by rw [ecd, List.drop_left' hcl]
                    rw [Nat.add_mul, Nat.one_mul, ← List.drop_drop, ← h9, e2]
                  have hc3 : (cs.drop (i * P.cellsOf e)).take (P.cellsOf e) = c := by rw [← hc']; congr 1
                  rw [hc3] at hy
                  exact ⟨sz_ok n e3 hy hlow hc, ih (i + 1) b x.2 (by omega) e4 (by rw [Nat.add_mul]; omega) (by rw [hd2]; exact hd')⟩
                | _ => simp [opA] at hh
          exact key m 0 u x (by omega) h1 (by omega) (by simpa using hr)
    · cases h
theorem oAz {base : Nat} {t : TypeId} {v : Value} {d : DataW H} {ps : List MemPlace} {u : TC} (hs : (match P.underlying t with | some (.struct _) => true | some (.array _ _) => true | _ => false) = true) (hb : opB P 12 t u = true) (hz : szB P 12 t u = true)
    (hv : Value.okWide P W .any base t v) (h : DataW.Trod enc P W 0 (fun _ => true) true t v d ps) (hw : lowW P t d) : ∃ x : u.den, repA (Zone.all W) (true, u) v x ∧ SzOk u x := by
  obtain ⟨cs, x, rfl, hr, _⟩ := arg_agg hs hv h (opB_ok 12 hb)
  obtain ⟨fuel, hf⟩ := h
  exact ⟨x, .inl ⟨rfl, cs, rfl, hr⟩, sz_ok 12 hz (by simpa [Value.cells] using hf) hw hr⟩
end
end Go.K
namespace Go.Sx
open Go.Sl Go.RowKit Go.ChangeShapes Go.Proofs
variable {H : Type} {enc : TypeId × Value → H}
theorem returns_and_sized {a : Assume} {C : Checked} {os : Os} {f : FuncId} {fn : Func} {s : ChangeSpec} {conds : List PathCond} {apart fresh handsOn again : Bool} {X : World → Array Value → Prop}
    (hX : ∀ (w w' : World) (args : Array Value), w.heap = w'.heap → X w args → X w' args)
    (own : ownKnob C.prog.godebug = none) (started : os.Started) (noInit : C.prog.inits.idxOf? f = none) (hfn : C.prog.funcs[f]? = some fn)
    (witness : ∃ (w : World) (tape : Tape) (i : Input), w.os = os ∧ (w.forCall tape i).Shaped C.prog ∧ i.vars = [] ∧ Input.okWide C.prog (w.forCall tape i) .any w.heap.size f i ∧
      ((s.pre enc C.prog fn conds apart (w.forCall tape i).memory i.args ∧ X (w.forCall tape i).memory i.args) ∧ sizedMet enc C.prog fn (OpenSpec.ofChange s) apart (w.forCall tape i).memory i.args) ∧ a.holds C.prog (lone (Frame.enter C.prog f i.args .normal) [] (w.forCall tape i)))
    (contract : ∀ (W : World) (base : Nat) (args : Array Value) (ds gs : List (DataW H)) (before : List MemPlace),
      (∀ (j : Nat) t v, fn.params[j]? = some t → args[j]? = some v → Value.okWide C.prog W .any base t v) →
      DataW.Whole enc C.prog fn.params.toList s.vars apart W args.toList ds gs before → X W args → W.ShapedOpen C.prog →
      (∀ n ∈ DataW.weightsEach C.prog (fn.params.toList ++ s.plain.varTypes C.prog) (ds ++ gs), n ≤ reachBytes) →
      Calls C.prog f args W fun e W' => ∃ v, e = .returned v ∧ s.post enc C.prog fn apart fresh handsOn again W args v W') :
    ReturnsInHanded a C os f .any (fun w args => (s.pre enc C.prog fn conds apart w args ∧ X w args) ∧ sizedMet enc C.prog fn (OpenSpec.ofChange s) apart w args) (s.post enc C.prog fn apart fresh handsOn again) := by
  refine returnsInHanded_of_calls own started noInit witness ?_
  intro w tape i _ hsh _ hok hpre hholds
  obtain ⟨_, _, _, fn', hfn', _, _, _, _, hval⟩ := hok
  have e : fn' = fn := Option.some.inj (hfn'.symm.trans hfn)
  subst e
  obtain ⟨⟨⟨ds, gs, before, hw, hc⟩, hx⟩, hz⟩ := hpre
  have hw' := DataW.Whole.of_heap (w' := w.forCall tape i) (by rfl) hw
  have hzz := hz.weights hw
  refine (contract (w.forCall tape i) w.heap.size i.args ds gs before hval hw' (hX _ _ _ (by rfl) hx) hsh (fun n hn => by simpa using List.all_eq_true.1 hzz n hn)).mono fun e W' ⟨v, he, hp⟩ => ?_
  subst he
  exact ChangeSpec.post_blind hp
end Go.Sx
