/-
 A part of the walk and of the plain law of one given statement. No condition.
-/
import Derived.Test.YtpooahfamelfnaaGreatDoorKl
import Derived.Laws.BytesString
import Derived.WideLaws
import Derived.WalkSpells
import Derived.Lib.AppendStr
import Derived.Lib.UnsafeStr
set_option linter.unusedVariables false
set_option linter.unusedSimpArgs false
namespace Go.K
open Go.Sl Go.Sx
variable {e e' : KE} {σ : List Blk} {As L0 : List Atom} {P : Program} {w : World} {N : Nat} {fl : SFL} {flv : FL} {ρ : Type} {W : World → Prop}
def ptsS (σ : List Blk) (fl : SFL) : List (Nat × Operand) → Option (List (Nat × SV))
 | [] => some []
 | (i, x) :: l => match evS σ fl x, ptsS σ fl l with
  | some s, some r => some ((i, s) :: r)
  | _, _ => none
theorem ptsS_is (m : Mem e σ As) (k : FLIs e fl flv) : ∀ {l : List (Nat × Operand)} {r : List (Nat × SV)}, ptsS σ fl l = some r → PtsIs e r (l.map fun (i, x) => (i, ev flv x))
 | [], r, h => by simp only [ptsS, zI] at h; subst h; exact .nil
 | (i, x) :: l, r, h => by
  simp only [ptsS] at h
  split at h
  ·rename_i s r' hs hr
   simp only [zI] at h
   subst h
   exact .cons (evS_is m k hs).1 (ptsS_is m k hr)
  ·cases h
def zeroC (P : Program) (t : TypeId) : Option (List SV) := match P.info? t with
 | some i => match i.zero with
  | some z => some (z.cells.toList.map liftC)
  | none => none
 | none => none
theorem zeroC_run {t : TypeId} {cs : List SV} (h : zeroC P t = some cs) : ∃ z, IsL e cs z.cells.toList ∧ ∀ w, (zeroValue t).run P w = .ok z w := by
 unfold zeroC at h
 split at h
 ·rename_i i hi
  split at h
  ·rename_i z hz
   simp only [zI] at h
   subst h
   exact ⟨z, liftL_is _, fun w => by simp [zeroValue, typeInfo, hi, hz]⟩
  ·cases h
 ·cases h
def buildS (P : Program) (σ : List Blk) (fl : SFL) (o : Oper) : Option SV := match o.op with
 | .build t parts => match ptsS σ fl parts.toList, zeroC P t, P.underlying t with
  | some l, some z, some (.struct fs) => match placesL P fs.toList with
   | some pl => match fillS (fun i => pl[i]?) z l with
    | some cs => some (.agg cs)
    | none => none
   | none => none
  | some l, some z, some (.array _ E) => match P.info? E with
   | some inf => match fillS (fun i => some (i * inf.size, inf.size)) z l with
    | some cs => some (.agg cs)
    | none => none
   | none => none
  | _, _, _ => none
 | _ => none
theorem buildS_ok (m : Mem e σ As) (k : FLIs e fl flv) {o : Oper} {s : SV} (h : buildS P σ fl o = some s) : Gv P e W flv o s := by
 unfold buildS at h
 split at h
 ·rename_i t parts ho
  split at h
  ·rename_i l z fs hl hz hu
   split at h
   ·rename_i pl hpl
    split at h
    ·rename_i cs hf
     cases h
     obtain ⟨zv, z1, z2⟩ := zeroC_run (e := e) hz
     obtain ⟨us, h1, h2⟩ := fillS_ok (ptsS_is m k hl) z1 hf
     refine ⟨_, .agg h1, fun w hw => ?_⟩
     have hp := placesL_run w hpl
     have e1 : (fs.mapM (fun f => do pure (f.offset, ← sizeOf f.type) : Field → Sem (Nat × Nat))).run P w = .ok pl.toArray w := by
      rw [Array.mapM_eq_mapM_toList, map_eq_pure_bind, Sem.run_bind, hp]; rfl
     have e2 : Instr.fill (fun (x : Nat) => pl.toArray[x]?) zv.cells ((parts.map fun (i, x) => (i, ev flv x)).toList) = some us.toArray := by
      have e3 : (fun (x : Nat) => pl.toArray[x]?) = fun (i : Nat) => pl[i]? := by funext i; simp
      rw [e3, ← h2]; simp
     simp only [execOp, ho, Instr.build, Sem.run_bind, z2, Result.andThen_ok, run_underlying hu, e1, Sem.run_pure]
     rw [e2]; simp
    ·cases h
   ·cases h
  ·rename_i l z n E hl hz hu
   split at h
   ·rename_i inf hi
    split at h
    ·rename_i cs hf
     cases h
     obtain ⟨zv, z1, z2⟩ := zeroC_run (e := e) hz
     obtain ⟨us, h1, h2⟩ := fillS_ok (ptsS_is m k hl) z1 hf
     refine ⟨_, .agg h1, fun w hw => ?_⟩
     have e1 : (sizeOf E).run P w = .ok inf.size w := by simp [sizeOf, typeInfo, hi]
     have e2 : Instr.fill (fun i => some (i * inf.size, inf.size)) zv.cells ((parts.map fun (i, x) => (i, ev flv x)).toList) = some us.toArray := by
      rw [← h2]; simp
     simp only [execOp, ho, Instr.build, Sem.run_bind, z2, Result.andThen_ok, run_underlying hu, e1, Sem.run_pure]
     rw [e2]; simp
    ·cases h
   ·cases h
  ·cases h
 ·cases h
def evL (σ : List Blk) (fl : SFL) : List Operand → Option (List SV)
 | [] => some []
 | x :: l => match evS σ fl x, evL σ fl l with
  | some s, some r => some (s :: r)
  | _, _ => none
theorem evL_is (m : Mem e σ As) (k : FLIs e fl flv) : ∀ {l : List Operand} {r : List SV}, evL σ fl l = some r → IsL e r (l.map (ev flv))
 | [], r, h => by simp only [evL, zI] at h; subst h; exact .nil
 | x :: l, r, h => by
  simp only [evL] at h
  split at h
  ·rename_i s r' hs hr
   simp only [zI] at h
   subst h
   exact .cons (evS_is m k hs).1 (evL_is m k hr)
  ·cases h
def makeFuncS (σ : List Blk) (fl : SFL) (o : Oper) : Option SV := match o.op with
 | .makeFunc (.func f) a b => match evL σ fl a.toList, evL σ fl b.toList with
  | some l, some m => some (.fn f l m)
  | _, _ => none
 | _ => none
theorem makeFuncS_ok (m : Mem e σ As) (k : FLIs e fl flv) {o : Oper} {s : SV} (h : makeFuncS σ fl o = some s) : Gv P e W flv o s := by
 unfold makeFuncS at h
 split at h
 ·rename_i f a b ho
  split at h
  ·rename_i l r hl hr
   cases h
   refine ⟨_, .fn (evL_is m k hl) (evL_is m k hr), fun w hw => ?_⟩
   have e1 : (a.toList.map (ev flv)).toArray = a.map (ev flv) := Array.ext' (by simp)
   have e2 : (b.toList.map (ev flv)).toArray = b.map (ev flv) := Array.ext' (by simp)
   rw [e1, e2]
   simp [execOp, ho, Instr.makeFunc]
  ·cases h
 ·cases h
def isIfc (P : Program) (t : TypeId) : Option Bool := match P.underlying t with
 | some (.interface _) => some true
 | some _ => some false
 | none => none
def ifcS (P : Program) (σ : List Blk) (fl : SFL) (o : Oper) : Option SV := match o.op with
 | .makeInterface T x => match evS σ fl x, isIfc P T with
  | some s, some false => some (.ifc T s)
  | _, _ => none
 | .typeAssert x _ A true => match evS σ fl x, isIfc P A, zeroC P A, ldT P A with
  | some (.ifc T s), some false, some z, some (_, g) => bif Nat.beq T A then some (.tup [s, .bool true]) else none
  | _, _, _, _ => none
 | _ => none
theorem isIfc_false {t : TypeId} (h : isIfc P t = some false) : ∃ d, P.underlying t = some d ∧ ∀ ms, d ≠ .interface ms := by
 unfold isIfc at h
 split at h
 ·cases h
 ·rename_i d hne hd
  exact ⟨d, hd, fun ms e => hne ms e⟩
 ·cases h
def ofLs (t : TC) : Nat → List SV → Option (List t.den)
 | 0, [] => some []
 | 0, _ :: _ => none
 | n + 1, l => match t.ofL l with
  | some (x, r) => match ofLs t n r with
   | some xs => some (x :: xs)
   | none => none
  | none => none
def indexX (P : Program) (σ : List Blk) (fl : SFL) (o : Oper) (k : SV → Option ρ) : Option ρ := match o.op with
 | .index t x ix => match evS σ fl x, anyS σ fl ix, P.underlying t with
  | some (.str s), some i, some .string => (byteAt s i).bind fun n => k (.int .u8 n)
  | some (.agg cs), some i, some (.array len E) => match ldT P E with
   | some (n, g) => bif Nat.ble len 64 then casesI i (fun j => match ld P E cs (j * n) with
      | some v => k v
      | none => none) len 0 else none
   | none => none
  | _, _, _ => none
 | _ => none
theorem indexX_ok (m : Mem e σ As) (k : FLIs e fl flv) {o : Oper} {K : SV → Option ρ} {r : ρ} (h : indexX P σ fl o K = some r) : ∃ s, K s = some r ∧ Gv P e W flv o s := by
 unfold indexX at h
 split at h
 ·rename_i t x ix ho
  split at h
  ·rename_i s i hs hi hu
   obtain ⟨k', hi'⟩ := anyS_is m k hi
   obtain ⟨n, h1, h2⟩ := bind_some h
   obtain ⟨h0, _⟩ := evS_is m k hs
   generalize hgv : ev flv x = gv at h0
   cases h0
   refine ⟨_, h2, _, .int _ _, fun w hw => ?_⟩
   have := byteAt_run (P := P) (w := w) (k := k') hu h1
   simp [execOp, ho, hi', hgv, this]
  ·rename_i cs i len E hs hi hu
   obtain ⟨k', hi'⟩ := anyS_is m k hi
   split at h
   ·rename_i n g ht
    cases hb : Nat.ble len 64 with
    | false => rw [hb] at h; cases h
    | true =>
     rw [hb] at h
     obtain ⟨j, hji, hlt0, h9⟩ := casesI_ok h
     clear h
     subst hji
     ·split at h9
      ·rename_i v hv
       obtain ⟨h0, _⟩ := evS_is m k hs
       generalize hgv : ev flv x = gv at h0
       cases h0 with
       | agg hl =>
        obtain ⟨u, h1, h2⟩ := part_run hv hl
        refine ⟨v, h9, u, h1, fun w hw => ?_⟩
        obtain ⟨_, e2⟩ := ldT_run ht w
        have hlt : j < len := by omega
        have hlt' : (j : Int) < (len : Int) := by omega
        simp [execOp, ho, Instr.index, asIntOf, hi', hgv, run_underlying hu, hlt, hlt', e2, h2 w]
      ·cases h9
   ·cases h
  ·cases h
 ·cases h
def boundS (σ : List Blk) (fl : SFL) (d : Int) : Option Operand → Option Int
 | none => some d
 | some x => anyS σ fl x
theorem boundS_is (m : Mem e σ As) (k : FLIs e fl flv) {d : Nat} {x : Option Operand} {n : Int} (h : boundS σ fl (d : Int) x = some n) : bndV d (x.map (ev flv)) = some n := by
 cases x with
 | none => simp only [boundS, zI] at h; subst h; rfl
 | some x => obtain ⟨k', e1⟩ := anyS_is m k h; simp [bndV, e1]
def sliceX (P : Program) (σ : List Blk) (fl : SFL) (o : Oper) (k : SV → Option ρ) : Option ρ := match o.op with
 | .slice t x lo hi none => match evS σ fl x, P.underlying t, boundS σ fl 0 lo with
  | some (.sl u xs), some (.slice E), some l => match boundS σ fl (lenD xs : Nat) hi, P.info? E with
   | some h, some inf => bif Nat.beq inf.size u.size then (subI xs l h).bind fun ys => k (.sl u ys) else none
   | _, _ => none
  | some (.str s), some .string, some l => match boundS σ fl (s.size : Nat) hi with
   | some h => (cutC s l h).bind fun _ => k (.str (s.extract l.toNat h.toNat))
   | none => none
  | _, _, _ => none
 | _ => none
theorem sliceX_ok (m : Mem e σ As) (k : FLIs e fl flv) {o : Oper} {K : SV → Option ρ} {r : ρ} (h : sliceX P σ fl o K = some r) : ∃ s, K s = some r ∧ Gv P e W flv o s := by
 unfold sliceX at h
 split at h
 ·rename_i t x lo hi ho
  split at h
  ·rename_i u xs E l hs hu hl
   split at h
   ·rename_i hh inf hhi hinf
    cases hb : Nat.beq inf.size u.size with
    | false => rw [hb] at h; cases h
    | true =>
     rw [hb] at h
     have hsz := zN hb
     obtain ⟨ys, h1, h2⟩ := bind_some h
     obtain ⟨h0, _⟩ := evS_is m k hs
     generalize hgv : ev flv x = gv at h0
     have e1 := boundS_is m k (d := 0) hl
     have e2 := boundS_is m k hhi
     cases h0 with
     | sl hsl =>
      rename_i oo c
      have hsub := hsl.sub h1
      obtain ⟨⟨b0, b1, b2⟩, _⟩ := subI_spec h1
      have hlen := subI_len h1
      have hcap := hsl.hcap
      refine ⟨_, h2, _, .sl hsub, fun w hw => ?_⟩
      have := run_subO (P := P) (w := w) (o := oo) (cap := c) hu hinf e1 e2 ⟨b0, b1, by omega, hcap⟩
      rw [u.size_eq, ← hsz, hlen]
      simp [execOp, ho, hgv, this]
   ·cases h
  ·rename_i s l hs hu hl
   split at h
   ·rename_i hh hhi
    obtain ⟨un, h1, h2⟩ := bind_some h
    obtain ⟨h0, _⟩ := evS_is m k hs
    generalize hgv : ev flv x = gv at h0
    have e1 := boundS_is m k (d := 0) hl
    have e2 := boundS_is m k hhi
    cases h0
    refine ⟨_, h2, _, .str _, fun w hw => ?_⟩
    have := run_subS (P := P) (w := w) hu e1 e2 (cutC_spec h1)
    simp [execOp, ho, hgv, this]
   ·cases h
  ·cases h
 ·cases h
def lenS (P : Program) (σ : List Blk) (fl : SFL) (o : Oper) : Option SV := match o.op with
 | .call { callee := .builtin .len, args := ⟨[x]⟩, argTypes := ⟨[t]⟩ } => match evS σ fl x, P.underlying t with
  | some (.sl _ xs), some (.slice _) => some (.int .i64 (lenD xs))
  | some (.own id), some (.slice _) => match at' σ id with
   | some (.own _ _ xs) => some (.int .i64 (lenD xs))
   | _ => none
  | some (.str s), some .string => some (.int .i64 s.size)
  | some (.raw v), some (.slice _) => bif isNil v then some (.int .i64 0) else none
  | _, _ => none
 | _ => none
theorem lenS_ok (m : Mem e σ As) (k : FLIs e fl flv) {o : Oper} {s : SV} (h : lenS P σ fl o = some s) : Gv P e W flv o s := by
 unfold lenS at h
 split at h
 ·rename_i x t ho
  split at h
  ·rename_i u xs E hs hu
   cases h
   obtain ⟨h0, _⟩ := evS_is m k hs
   generalize hgv : ev flv x = gv at h0
   cases h0
   exact ⟨_, .int _ _, fun w hw => by simp [execOp, ho, resolve, invoke, builtin, Builtin.len_, hgv, run_underlying hu, goInt]⟩
  ·rename_i id E hs hu
   split at h
   ·rename_i u E' xs hB
    cases h
    obtain ⟨h0, _⟩ := evS_is m k hs
    generalize hgv : ev flv x = gv at h0
    obtain ⟨bi, m1, m2, _⟩ := m.len hB
    cases h0 with
    | own hb =>
     rw [m1] at hb; cases hb
     show Gv P e W flv o (SV.int IntKind.i64 ((xs.length : Nat) : Int))
     rw [m2]
     exact ⟨_, .int _ _, fun w hw => by simp [execOp, ho, resolve, invoke, builtin, Builtin.len_, hgv, run_underlying hu, goInt]⟩
   ·cases h
  ·rename_i s hs hu
   cases h
   obtain ⟨h0, _⟩ := evS_is m k hs
   generalize hgv : ev flv x = gv at h0
   cases h0
   exact ⟨_, .int _ _, fun w hw => by simp [execOp, ho, resolve, invoke, builtin, Builtin.len_, hgv, run_underlying hu, goInt]⟩
  ·rename_i v E hs hu
   cases hn : isNil v with
   | false => rw [hn] at h; cases h
   | true =>
    rw [hn] at h
    cases h
    obtain ⟨h0, _⟩ := evS_is m k hs
    generalize hgv : ev flv x = gv at h0
    have hv := isNil_eq hn
    cases h0
    exact ⟨_, .int _ _, fun w hw => by simp [execOp, ho, resolve, invoke, builtin, Builtin.len_, hgv, hv, run_underlying hu, goInt]⟩
  ·cases h
 ·cases h
def pickX (σ : List Blk) (fl : SFL) (o : Oper) (k : SV → Option ρ) : Option ρ := match o.op with
 | .pick c a b => match evS σ fl c, evS σ fl a, evS σ fl b with
  | some (.bool t), some x, some y => cond t (k x) (k y)
  | _, _, _ => none
 | _ => none
theorem pickX_ok (m : Mem e σ As) (k : FLIs e fl flv) {o : Oper} {K : SV → Option ρ} {r : ρ} (h : pickX σ fl o K = some r) : ∃ s, K s = some r ∧ Gv P e W flv o s := by
 unfold pickX at h
 split at h
 ·rename_i c a b ho
  split at h
  ·rename_i t x y hc hx hy
   obtain ⟨h0, _⟩ := evS_is m k hc
   generalize hgv : ev flv c = gv at h0
   cases h0
   cases t with
   | true => exact ⟨x, h, _, (evS_is m k hx).1, fun w hw => by simp [execOp, ho, hgv, asBool]⟩
   | false => exact ⟨y, h, _, (evS_is m k hy).1, fun w hw => by simp [execOp, ho, hgv, asBool]⟩
  ·cases h
 ·cases h
def moveS (σ : List Blk) (fl : SFL) (o : Oper) : Option SV := match o.op with
 | .move x => evS σ fl x
 | .assign x => evS σ fl x
 | .nilCheck x => match evS σ fl x with
  | some (.ptr id off) => some (.ptr id off)
  | some (.el t y off) => some (.el t y off)
  | some (.oel id t y off) => some (.oel id t y off)
  | some (.fn f a b) => some (.fn f a b)
  | _ => none
 | _ => none
theorem moveS_ok (m : Mem e σ As) (k : FLIs e fl flv) {o : Oper} {s : SV} (h : moveS σ fl o = some s) : Gv P e W flv o s := by
 unfold moveS at h
 split at h
 ·rename_i x ho; exact ⟨_, (evS_is m k h).1, fun w hw => by simp [execOp, ho]⟩
 ·rename_i x ho; exact ⟨_, (evS_is m k h).1, fun w hw => by simp [execOp, ho]⟩
 ·rename_i x ho
  split at h
  all_goals first
   | cases h; done
   | (rename_i hs
      cases h
      obtain ⟨h0, _⟩ := evS_is m k hs
      generalize hgv : ev flv x = gv at h0
      refine ⟨gv, h0, fun w hw => ?_⟩
      cases h0 <;> simp [execOp, ho, hgv])
 ·cases h
theorem ifcS_ok (m : Mem e σ As) (k : FLIs e fl flv) {o : Oper} {s : SV} (h : ifcS P σ fl o = some s) : Gv P e W flv o s := by
 unfold ifcS at h
 split at h
 ·rename_i T x ho
  split at h
  ·rename_i s0 hs hi
   cases h
   obtain ⟨h0, _⟩ := evS_is m k hs
   obtain ⟨d, hd, hne⟩ := isIfc_false hi
   refine ⟨_, .ifc h0, fun w hw => ?_⟩
   cases d <;> first | exact absurd rfl (hne _) | simp [execOp, ho, Instr.makeInterface, run_underlying hd]
  ·cases h
 ·rename_i x T' A ho
  split at h
  ·rename_i T s0 z n g hs hi hz ht
   obtain ⟨h0, _⟩ := evS_is m k hs
   generalize hgv : ev flv x = gv at h0
   obtain ⟨d, hd, hne⟩ := isIfc_false hi
   obtain ⟨zv, z1, z2⟩ := zeroC_run (e := e) hz
   cases h0 with
   | ifc h1 =>
    rename_i v
    cases hb : Nat.beq T A with
    | true =>
     rw [hb] at h
     cases h
     have := zN hb
     subst this
     refine ⟨_, .tup (.cons h1 (.cons (.bool true) .nil)), fun w hw => ?_⟩
     cases d <;> first | exact absurd rfl (hne _) | simp [execOp, ho, Instr.typeAssert, run_underlying hd, hgv]
    | false => rw [hb] at h; cases h
  ·cases h
 ·cases h
def scL : List SV → Option (List Value)
 | [] => some []
 | s :: l => match scv s, scL l with
  | some v, some r => some (v :: r)
  | _, _ => none
theorem scL_is : ∀ {l : List SV} {us vs : List Value}, scL l = some us → IsL e l vs → vs = us
 | [], us, vs, h, k => by cases k; simp only [scL, zI] at h; exact h
 | s :: l, us, vs, h, k => by
  simp only [scL] at h
  split at h
  ·rename_i v r hv hr
   simp only [zI] at h
   cases k with
   | cons a b => rw [scv_is hv a, scL_is hr b, h]
  ·cases h
def isNilI : Value → Bool
 | .nilIface => true
 | _ => false
theorem isNilI_eq {v : Value} (h : isNilI v = true) : v = .nilIface := by
 unfold isNilI at h
 split at h
 ·rfl
 ·cases h
theorem eqFl_soundD {P : Program} {w : World} {d : Nat} {xs ys : Array Value} : ∀ {fs : List Field} {b : Bool}, eqFl P xs ys fs = some b → (Op.eqFields (d + 1) xs ys fs).run P w = .ok b w
 | [], b, h => by simp only [eqFl, zI] at h; subst h; rfl
 | f :: fs, b, h => by
  simp only [eqFl] at h
  split at h
  ·rename_i hn
   split at h
   ·rename_i a c r hu hx hy hr
    simp only [zI] at h
    subst h
    have h1 := run_equalIn_int (P := P) w d f.type .i64 .i64 a c hu
    simp only [Op.eqFields, hn, ne_eq, not_false_eq_true, if_true, part, isAgg, Sem.run_bind, run_underlying hu, Result.andThen_ok, Sem.run_pure, hx, hy, h1, Bool.false_eq_true, if_false]
    cases hac : (a == c)
    ·simp
    ·simp [eqFl_soundD hr]
   ·rename_i a c r hu hx hy hr
    simp only [zI] at h
    subst h
    have h1 := run_equalIn_bool' (P := P) w d f.type a c hu
    simp only [Op.eqFields, hn, ne_eq, not_false_eq_true, if_true, part, isAgg, Sem.run_bind, run_underlying hu, Result.andThen_ok, Sem.run_pure, hx, hy, h1, Bool.false_eq_true, if_false]
    cases hac : (a == c)
    ·simp
    ·simp [eqFl_soundD hr]
   ·rename_i a c r hu hx hy hr
    simp only [zI] at h
    subst h
    have h1 := run_equalIn_string (P := P) w d f.type a c hu
    simp only [Op.eqFields, hn, ne_eq, not_false_eq_true, if_true, part, isAgg, Sem.run_bind, run_underlying hu, Result.andThen_ok, Sem.run_pure, hx, hy, h1, Bool.false_eq_true, if_false]
    cases hac : (a.toList == c.toList)
    ·simp
    ·simp [eqFl_soundD hr]
   ·cases h
  ·cases h
def eqIn (P : Program) (xs ys : Array Value) (f : Field) : Option Bool := match P.underlying f.type, P.info? f.type with
 | some (.struct gs), some inf => bif P.stoodInHeld f.type then none else eqFl P (xs.extract f.offset (f.offset + inf.size)) (ys.extract f.offset (f.offset + inf.size)) gs.toList
 | _, _ => eqFl P xs ys [f]
def eqFl2 (P : Program) (xs ys : Array Value) : List Field → Option Bool
 | [] => some true
 | f :: fs => if f.name ≠ "_" then match eqIn P xs ys f, eqFl2 P xs ys fs with
   | some a, some r => some (a && r)
   | _, _ => none
  else none
theorem eqIn_sound {P : Program} {w : World} {xs ys : Array Value} {f : Field} {b : Bool} (hn : f.name ≠ "_") (h : eqIn P xs ys f = some b) {fs : List Field} {r : Bool} (hr : (Op.eqFields 9999 xs ys fs).run P w = .ok r w) :
  (Op.eqFields 9999 xs ys (f :: fs)).run P w = .ok (b && r) w := by
 unfold eqIn at h
 split at h
 ·rename_i gs inf hu hi
  cases hp : P.stoodInHeld f.type with
  | true => rw [hp] at h; cases h
  | false =>
   rw [hp] at h
   simp only [zF] at h
   have hf : P.fieldsOf f.type = gs := by simp [Program.fieldsOf, hu]
   have hs : (sizeOf f.type).run P w = .ok inf.size w := by simp [sizeOf, typeInfo, hi]
   have h1 := run_equalIn_struct (P := P) w 9998 f.type (xs.extract f.offset (f.offset + inf.size)) (ys.extract f.offset (f.offset + inf.size)) (by rw [hf]; exact hu) hp
   simp only [Nat.reduceAdd] at h1
   rw [hf, eqFl_soundD (d := 9997) h] at h1
   simp only [Op.eqFields, hn, ne_eq, not_false_eq_true, if_true, part, isAgg, Sem.run_bind, run_underlying hu, Result.andThen_ok, Sem.run_pure, hs, h1]
   cases b
   ·simp
   ·simp [hr]
 ·simp only [eqFl, hn, ne_eq, not_false_eq_true, if_true] at h
  split at h
  ·rename_i a c r' hu hx hy hr'
   simp only [zI] at h hr'
   subst h; subst hr'
   have h1 := run_equalIn_int (P := P) w 9998 f.type .i64 .i64 a c hu
   simp only [Nat.reduceAdd] at h1
   simp only [Op.eqFields, hn, ne_eq, not_false_eq_true, if_true, part, isAgg, Sem.run_bind, run_underlying hu, Result.andThen_ok, Sem.run_pure, hx, hy, h1, Bool.false_eq_true, if_false]
   cases hac : (a == c)
   ·simp
   ·simp [hr]
  ·rename_i a c r' hu hx hy hr'
   simp only [zI] at h hr'
   subst h; subst hr'
   have h1 := run_equalIn_bool' (P := P) w 9998 f.type a c hu
   simp only [Nat.reduceAdd] at h1
   simp only [Op.eqFields, hn, ne_eq, not_false_eq_true, if_true, part, isAgg, Sem.run_bind, run_underlying hu, Result.andThen_ok, Sem.run_pure, hx, hy, h1, Bool.false_eq_true, if_false]
   cases hac : (a == c)
   ·simp
   ·simp [hr]
  ·rename_i a c r' hu hx hy hr'
   simp only [zI] at h hr'
   subst h; subst hr'
   have h1 := run_equalIn_string (P := P) w 9998 f.type a c hu
   simp only [Nat.reduceAdd] at h1
   simp only [Op.eqFields, hn, ne_eq, not_false_eq_true, if_true, part, isAgg, Sem.run_bind, run_underlying hu, Result.andThen_ok, Sem.run_pure, hx, hy, h1, Bool.false_eq_true, if_false]
   cases hac : (a.toList == c.toList)
   ·simp
   ·simp [hr]
  ·cases h
theorem eqFl2_sound {P : Program} {w : World} {xs ys : Array Value} : ∀ {fs : List Field} {b : Bool}, eqFl2 P xs ys fs = some b → (Op.eqFields 9999 xs ys fs).run P w = .ok b w
 | [], b, h => by simp only [eqFl2, zI] at h; subst h; rfl
 | f :: fs, b, h => by
  simp only [eqFl2] at h
  split at h
  ·rename_i hn
   split at h
   ·rename_i a r ha hr
    simp only [zI] at h
    subst h
    exact eqIn_sound hn ha (eqFl2_sound hr)
   ·cases h
  ·cases h
def eqAgg3 (P : Program) (t : TypeId) (xs ys : Array Value) : Option Bool :=
 match P.underlying t with
 | some (.struct fs) => bif (!P.stoodInHeld t && !P.eqGuardType P.depth t) then eqFl2 P xs ys fs.toList else none
 | _ => none
theorem eqAgg3_sound {P : Program} {w : World} {t : TypeId} {xs ys : Array Value} {b : Bool} (h : eqAgg3 P t xs ys = some b) :
  P.eqGuardType P.depth t = false ∧ (Op.equalIn 10000 t (.agg xs) (.agg ys)).run P w = .ok b w := by
 unfold eqAgg3 at h
 split at h
 ·rename_i fs hu
  cases hc : (!P.stoodInHeld t && !P.eqGuardType P.depth t) with
  | false => rw [hc] at h; simp at h
  | true =>
   rw [hc] at h
   simp only [zT] at h
   simp only [za, Bool.not_eq_true'] at hc
   have hf : P.fieldsOf t = fs := by simp [Program.fieldsOf, hu]
   have h1 := run_equalIn_struct (P := P) w 9999 t xs ys (by rw [hf]; exact hu) hc.1
   refine ⟨hc.2, ?_⟩
   simp only [Nat.reduceAdd] at h1
   rw [h1, hf]
   exact eqFl2_sound h
 ·cases h
def eqAgg2 (P : Program) (t : TypeId) (xs ys : Array Value) : Option Bool := match eqAgg P t xs ys with
 | some b => some b
 | none => eqAgg3 P t xs ys
theorem eqAgg2_sound {P : Program} {w : World} {t : TypeId} {xs ys : Array Value} {b : Bool} (h : eqAgg2 P t xs ys = some b) :
  P.eqGuardType P.depth t = false ∧ (Op.equalIn 10000 t (.agg xs) (.agg ys)).run P w = .ok b w := by
 unfold eqAgg2 at h
 split at h
 ·rename_i hb
  cases h
  exact eqAgg_sound hb
 ·exact eqAgg3_sound h
def eqS (P : Program) (σ : List Blk) (fl : SFL) (o : Oper) : Option SV := match o.op with
 | .binOp .eql t x y _ => match evS σ fl x, evS σ fl y with
  | some (.agg xs), some (.agg ys) => match scL xs, scL ys with
   | some us, some vs => match eqAgg2 P t us.toArray vs.toArray with
    | some b => some (.bool b)
    | none => none
   | _, _ => none
  | some (.ifc T s), some (.raw v) => bif isNilI v then (match P.underlying t with
   | some (.interface _) => some (.bool false)
   | _ => none) else none
  | some (.nsl _ xs), some (.raw v) => bif isNil v then (match P.underlying t with
   | some (.slice _) => some (.bool (decide ((lenD xs : Int) = 0)))
   | _ => none) else none
  | _, _ => scOp P σ fl o
 | .binOp .neq t x y _ => match evS σ fl x, evS σ fl y with
  | some (.agg xs), some (.agg ys) => match scL xs, scL ys with
   | some us, some vs => match eqAgg2 P t us.toArray vs.toArray with
    | some b => some (.bool (!b))
    | none => none
   | _, _ => none
  | some (.ifc T s), some (.raw v) => bif isNilI v then (match P.underlying t with
   | some (.interface _) => some (.bool true)
   | _ => none) else none
  | some (.nsl _ xs), some (.raw v) => bif isNil v then (match P.underlying t with
   | some (.slice _) => some (.bool (!(decide ((lenD xs : Int) = 0))))
   | _ => none) else none
  | _, _ => scOp P σ fl o
 | _ => none
theorem nil_iff {α : Type} {T : Ty α} {h : Zone} {o : Option Addr} {c : Nat} {xs : List α} (hs : SliceR T h o c xs) (hn : xs = [] → o = none) : o.isNone = decide ((lenD xs : Int) = 0) := by
 cases o with
 | none => rw [(hs.hnil rfl).1]; rfl
 | some a =>
  cases xs with
  | nil => cases hn rfl
  | cons x xs =>
   have : ¬ ((lenD (x :: xs) : Int) = 0) := by simp [lenD]; omega
   rw [zD this]; rfl
theorem eqS_ok (m : Mem e σ As) (k : FLIs e fl flv) {o : Oper} {s : SV} (h : eqS P σ fl o = some s) : Gv P e W flv o s := by
 unfold eqS at h
 split at h
 ·rename_i t x y t' ho
  split at h
  ·rename_i xs ys hx hy
   split at h
   ·rename_i us vs hus hvs
    split at h
    ·rename_i b hb
     cases h
     obtain ⟨h1, _⟩ := evS_is m k hx
     obtain ⟨h2, _⟩ := evS_is m k hy
     generalize hgx : ev flv x = gx at h1
     generalize hgy : ev flv y = gy at h2
     cases h1 with
     | agg l1 =>
      cases h2 with
      | agg l2 =>
       rw [scL_is hus l1] at hgx
       rw [scL_is hvs l2] at hgy
       refine ⟨_, .bool _, fun w hw => ?_⟩
       obtain ⟨hg, he⟩ := eqAgg2_sound (w := w) hb
       simp only [execOp, ho, hgx, hgy, Sem.run_bind, run_eqGuard_agg w .eql t x y _ _ hg, Result.andThen_ok, run_eql_struct, he, Sem.run_pure]
    ·cases h
   ·cases h
  ·rename_i T s0 v hx hy
   cases hn : isNilI v with
   | false => rw [hn] at h; cases h
   | true =>
    rw [hn] at h
    simp only [zT] at h
    split at h
    ·rename_i ms hu
     cases h
     have hv := isNilI_eq hn
     subst hv
     obtain ⟨h1, _⟩ := evS_is m k hx
     obtain ⟨h2, _⟩ := evS_is m k hy
     generalize hgx : ev flv x = gx at h1
     generalize hgy : ev flv y = gy at h2
     cases h1 with
     | ifc h1 =>
      cases h2
      refine ⟨_, .bool _, fun w hw => ?_⟩
      have hm : P.underlying t = some (.interface (P.methodsAt t)) := by simp [Program.methodsAt, hu]
      have hg : ∀ z, (eqGuard .eql t x y (.iface T z) .nilIface).run P w = .ok () w := fun z => by simp [eqGuard]
      simp only [execOp, ho, hgx, hgy, Sem.run_bind, hg, Result.andThen_ok, run_eql_held_nil w t T _ hm, Sem.run_pure]
    ·cases h
  ·rename_i u xs v hx hy
   cases hn : isNil v with
   | false => rw [hn] at h; cases h
   | true =>
    rw [hn] at h
    simp only [zT] at h
    split at h
    ·rename_i E hu
     cases h
     have hv := isNil_eq hn
     subst hv
     obtain ⟨h1, _⟩ := evS_is m k hx
     obtain ⟨h2, _⟩ := evS_is m k hy
     generalize hgx : ev flv x = gx at h1
     generalize hgy : ev flv y = gy at h2
     cases h1 with
     | nsl hs hnn =>
      cases h2
      refine ⟨_, .bool _, fun w hw => ?_⟩
      have hg : ∀ o n c, (eqGuard .eql t x y (.slice o n c) (.slice none 0 0)).run P w = .ok () w := fun o n c => by simp [eqGuard]
      simp only [execOp, ho, hgx, hgy, Sem.run_bind, hg, Result.andThen_ok, Lib.run_eql_slice_nil w t E _ _ _ _ _ hu, Sem.run_pure, nil_iff hs hnn]
    ·cases h
  ·exact scOp_ok m k h
 ·rename_i t x y t' ho
  split at h
  ·rename_i xs ys hx hy
   split at h
   ·rename_i us vs hus hvs
    split at h
    ·rename_i b hb
     cases h
     obtain ⟨h1, _⟩ := evS_is m k hx
     obtain ⟨h2, _⟩ := evS_is m k hy
     generalize hgx : ev flv x = gx at h1
     generalize hgy : ev flv y = gy at h2
     cases h1 with
     | agg l1 =>
      cases h2 with
      | agg l2 =>
       rw [scL_is hus l1] at hgx
       rw [scL_is hvs l2] at hgy
       refine ⟨_, .bool _, fun w hw => ?_⟩
       obtain ⟨hg, he⟩ := eqAgg2_sound (w := w) hb
       simp only [execOp, ho, hgx, hgy, Sem.run_bind, run_eqGuard_agg w .neq t x y _ _ hg, Result.andThen_ok, run_neq_struct, he, Sem.run_pure]
    ·cases h
   ·cases h
  ·rename_i T s0 v hx hy
   cases hn : isNilI v with
   | false => rw [hn] at h; cases h
   | true =>
    rw [hn] at h
    simp only [zT] at h
    split at h
    ·rename_i ms hu
     cases h
     have hv := isNilI_eq hn
     subst hv
     obtain ⟨h1, _⟩ := evS_is m k hx
     obtain ⟨h2, _⟩ := evS_is m k hy
     generalize hgx : ev flv x = gx at h1
     generalize hgy : ev flv y = gy at h2
     cases h1 with
     | ifc h1 =>
      cases h2
      refine ⟨_, .bool _, fun w hw => ?_⟩
      have hm : P.underlying t = some (.interface (P.methodsAt t)) := by simp [Program.methodsAt, hu]
      have hg : ∀ z, (eqGuard .neq t x y (.iface T z) .nilIface).run P w = .ok () w := fun z => by simp [eqGuard]
      simp only [execOp, ho, hgx, hgy, Sem.run_bind, hg, Result.andThen_ok, run_neq_held_nil w t T _ hm, Sem.run_pure]
    ·cases h
  ·rename_i u xs v hx hy
   cases hn : isNil v with
   | false => rw [hn] at h; cases h
   | true =>
    rw [hn] at h
    simp only [zT] at h
    split at h
    ·rename_i E hu
     cases h
     have hv := isNil_eq hn
     subst hv
     obtain ⟨h1, _⟩ := evS_is m k hx
     obtain ⟨h2, _⟩ := evS_is m k hy
     generalize hgx : ev flv x = gx at h1
     generalize hgy : ev flv y = gy at h2
     cases h1 with
     | nsl hs hnn =>
      cases h2
      refine ⟨_, .bool _, fun w hw => ?_⟩
      have hg : ∀ o n c, (eqGuard .neq t x y (.slice o n c) (.slice none 0 0)).run P w = .ok () w := fun o n c => by simp [eqGuard]
      simp only [execOp, ho, hgx, hgy, Sem.run_bind, hg, Result.andThen_ok, run_neq_slice_nil_any w t E _ _ _ _ _ hu, Sem.run_pure, nil_iff hs hnn]
    ·cases h
  ·exact scOp_ok m k h
 ·cases h
def srcD (σ : List Blk) (u : TC) : SV → Option (List u.den)
 | .sl u' ys => if h : u' = u then some (h ▸ ys) else none
 | .own id => match at' σ id with
  | some (.own u' _ ys) => if h : u' = u then some (h ▸ ys) else none
  | _ => none
 | .raw v => bif isNil v then some [] else none
 | _ => none
theorem srcD_ok (m : Mem e σ As) (hS : St e.z (As ++ L0) w) {u : TC} {s : SV} {ys : List u.den} {v : Value} (h : srcD σ u s = some ys) (k : Is e s v) : ∃ o c, v = .slice o ys.length c ∧ SrcR u.ty e.z w o ys := by
 unfold srcD at h
 split at h
 ·rename_i u' zs
  split at h
  ·rename_i hu
   subst hu
   cases h
   cases k with
   | sl hs => exact ⟨_, _, rfl, hs.src hS⟩
  ·cases h
 ·rename_i id
  split at h
  ·rename_i u' E zs hB
   split at h
   ·rename_i hu
    subst hu
    cases h
    obtain ⟨i, m1, m2, m3⟩ := m.len hB
    cases k with
    | own hi =>
     rw [hi] at m1; cases m1
     exact ⟨_, _, by rw [m2], hS.ownSrc (Mem.atom m3)⟩
   ·cases h
  ·cases h
 ·rename_i v'
  cases hn : isNil v' with
  | false => rw [hn] at h; cases h
  | true =>
   rw [hn] at h
   cases h
   have := isNil_eq hn
   cases k
   exact ⟨none, 0, this, .inl ⟨rfl, rfl⟩⟩
 ·cases h
theorem rows_k {h : Zone} {k : IntKind} : ∀ {xs : List Int} {cs : List Value}, Sx.Rows (tyInt k) h cs xs ↔ cs = xs.map (Value.int k)
 | [], cs => by simp [Sx.Rows]
 | x :: xs, cs => by
  constructor
  ·rintro ⟨c, d, rfl, hc, hd⟩
   have hc' : c = [.int k x] := hc
   rw [hc', (rows_k (xs := xs)).1 hd]
   rfl
  ·intro e
   subst e
   exact ⟨[.int k x], xs.map (Value.int k), rfl, rfl, rows_k.2 rfl⟩
def natLit : Int → Option Nat
 | .ofNat n => some n
 | _ => none
def shS (P : Program) (σ : List Blk) (fl : SFL) (o : Oper) : Option SV := match o.op with
 | .binOp .shr t x y _ => match evS σ fl x, evS σ fl y with
  | some (.int k a), some (.int _ b) => match natLit b with
   | some n => some (.int k (a.fdiv (Int.ofNat (2 ^ (min n k.bits)))))
   | none => none
  | _, _ => none
 | _ => none
theorem shS_ok (m : Mem e σ As) (k : FLIs e fl flv) {o : Oper} {s : SV} (h : shS P σ fl o = some s) : Gv P e W flv o s := by
 unfold shS at h
 split at h
 ·rename_i t x y yt ho
  split at h
  ·rename_i kk a yk b hx hy
   split at h
   ·rename_i n hn
    cases h
    obtain ⟨h1, _⟩ := evS_is m k hx
    obtain ⟨h2, _⟩ := evS_is m k hy
    generalize hgx : ev flv x = gx at h1
    generalize hgy : ev flv y = gy at h2
    cases h1
    cases h2
    have hb : b = Int.ofNat n := by
     cases b with
     | ofNat q => simp only [natLit, zI] at hn; rw [hn]
     | negSucc q => cases hn
    subst hb
    refine ⟨_, .int _ _, fun w hw => ?_⟩
    have hneg : ¬ (Int.ofNat n < 0) := by simp
    have hp : (Int.ofNat (2 ^ (min n kk.bits)) : Int) = 2 ^ (min n kk.bits) := by simp
    rw [hp]
    have hs : (Op.shift .shr kk a yk (Int.ofNat n)).run P w = .ok (.int kk (a.fdiv (2 ^ (min n kk.bits)))) w := by
     unfold Op.shift
     rw [if_neg hneg]
     rfl
    have hg : (Go.eqGuard .shr t x y (.int kk a) (.int yk (Int.ofNat n))).run P w = .ok () w := rfl
    have hb2 : Go.binOp .shr t (.int kk a) (.int yk (Int.ofNat n)) = Op.shift .shr kk a yk (Int.ofNat n) := rfl
    simp only [execOp, ho, hgx, hgy, Sem.run_bind, hg, hb2, hs, Result.andThen_ok, Sem.run_pure]
   ·cases h
  ·cases h
 ·cases h
def strI (xs : List Int) : ByteArray := xs.foldl (fun r n => r.push (UInt8.ofNat n.toNat)) ByteArray.empty
def bytesI (s : ByteArray) : List Int := s.data.toList.map fun b => ((b.toNat : Nat) : Int)
def convS (P : Program) (σ : List Blk) (fl : SFL) (o : Oper) : Option SV := match o.op with
 | .convert src dst x => match evS σ fl x, P.underlying src, P.underlying dst with
  | some s, some (.slice e), some .string => match P.underlying e, srcD σ (.int .u8) s with
   | some (.int .u8), some xs => some (.str (strI xs))
   | _, _ => none
  | _, _, _ => scOp P σ fl o
 | _ => none
theorem convS_ok (m : Mem e σ As) (k : FLIs e fl flv) (hW : ∀ w, W w → WM e As L0 w) {w0 : World} (hw0 : WM e As L0 w0) {o : Oper} {s : SV} (h : convS P σ fl o = some s) : Gv P e W flv o s := by
 unfold convS at h
 split at h
 ·rename_i src dst x ho
  split at h
  ·rename_i s0 e0 hs hsrc hdst
   split at h
   ·rename_i xs he hxs
    cases h
    obtain ⟨h0, _⟩ := evS_is m k hs
    generalize hgv : ev flv x = gv at h0
    have key : ∀ w : World, WM e As L0 w → (execOp (ev flv) o).run P w = .ok (.value (.string (strI xs))) w := by
     rintro w ⟨z', hz, hst⟩
     have hle : e.le ⟨z', e.bs⟩ := ⟨hz, [], rfl⟩
     obtain ⟨o2, c2, rfl, hr⟩ := srcD_ok (e := ⟨z', e.bs⟩) (m.mono hle rfl) hst hxs (h0.mono hle)
     have h1 : (convert src dst (.slice o2 xs.length c2)).run P w = .ok (.string (strI xs)) w := by
      rw [run_convert_bytes_string w src dst e0 o2 xs.length c2 hsrc he hdst]
      rcases hr with ⟨rfl, rfl⟩ | ⟨a, cs, rfl, hrows, hc⟩
      ·rfl
      ·have hcs := rows_k.1 hrows
       subst hcs
       refine run_bytesToString w a xs.length c2 xs ?_
       have := run_loadCells_list (P := P) w a (xs.map (Value.int .u8)) hc
       rwa [List.length_map] at this
     simp [execOp, ho, hgv, h1]
    exact ⟨_, .str _, fun w hw => key w (hW w hw)⟩
   ·cases h
  ·exact scOp_ok m k h
 ·cases h
def ret (x : Option SV) (k : SV → Option ρ) : Option ρ := match x with
 | some s => k s
 | none => none
def isQ (o : Oper) : Bool := match o.op with
 | .move _ | .assign _ | .nilCheck _ | .load _ _ | .fieldAddr .. | .indexAddr .. | .field .. | .extract .. | .build .. | .makeFunc .. | .makeInterface .. | .typeAssert .. | .index .. | .pick .. | .binOp .. | .unOp .. | .convert .. | .lookup .. => true
 | .slice _ _ _ _ none => true
 | .call { callee := .builtin .len, .. } | .call { callee := .builtin .min, .. } | .call { callee := .builtin .max, .. } => true
 | _ => false
def isStrB (σ : List Blk) (fl : SFL) (x : Operand) : Bool := (strS σ fl x).isSome
noncomputable def agree {ρ : Type} (a b : Option ρ) : Option ρ := @ite _ (a = b) (Classical.propDecidable _) a none
theorem agree_self {ρ : Type} (a : Option ρ) : agree a a = a := by unfold agree; simp
theorem agree_ok {ρ : Type} {a b : Option ρ} {r : ρ} (h : agree a b = some r) : a = some r ∧ b = some r := by
 unfold agree at h
 split at h
 ·rename_i he; exact ⟨h, by rw [← he]; exact h⟩
 ·cases h
def isSlN (σ : List Blk) (fl : SFL) (o : Oper) : Bool := match o.op with
 | .binOp .eql _ x y _ => (match evS σ fl x, evS σ fl y with
  | some (.sl _ _), some (.raw _) => true
  | _, _ => false)
 | _ => false
noncomputable def nilX (P : Program) (σ : List Blk) (fl : SFL) (o : Oper) (k : SV → Option ρ) : Option ρ := match o.op with
 | .binOp .eql t x y _ => match evS σ fl x, evS σ fl y with
  | some (.sl _ xs), some (.raw v) => bif isNil v then (match P.underlying t with
   | some (.slice _) => cond (decide ((lenD xs : Int) = 0)) (agree (k (.bool true)) (k (.bool false))) (k (.bool false))
   | _ => none) else none
  | _, _ => none
 | _ => none
theorem nilX_ok (m : Mem e σ As) (k : FLIs e fl flv) {oo : Oper} {K : SV → Option ρ} {r : ρ} (h : nilX P σ fl oo K = some r) : ∃ s, K s = some r ∧ Gv P e W flv oo s := by
 unfold nilX at h
 split at h
 ·rename_i t x y t' ho
  split at h
  ·rename_i u xs v hx hy
   cases hn : isNil v with
   | false => rw [hn] at h; cases h
   | true =>
    rw [hn] at h
    simp only [zT] at h
    split at h
    ·rename_i E hu
     have hv := isNil_eq hn
     subst hv
     obtain ⟨h1, _⟩ := evS_is m k hx
     obtain ⟨h2, _⟩ := evS_is m k hy
     generalize hgx : ev flv x = gx at h1
     generalize hgy : ev flv y = gy at h2
     cases h1 with
     | sl hs =>
      rename_i o c
      cases h2
      have hgv : ∀ w, (execOp (ev flv) oo).run P w = .ok (.value (.bool o.isNone)) w := fun w => by
       have hg : ∀ o n c, (eqGuard .eql t x y (.slice o n c) (.slice none 0 0)).run P w = .ok () w := fun o n c => by simp [eqGuard]
       simp only [execOp, ho, hgx, hgy, Sem.run_bind, hg, Result.andThen_ok, Lib.run_eql_slice_nil w t E _ _ _ _ _ hu, Sem.run_pure]
      cases hz : decide ((lenD xs : Int) = 0) with
      | true =>
       rw [hz] at h
       obtain ⟨g1, g2⟩ := agree_ok h
       cases hb : o.isNone with
       | true => rw [hb] at hgv; exact ⟨.bool true, g1, _, .bool true, fun w _ => hgv w⟩
       | false => rw [hb] at hgv; exact ⟨.bool false, g2, _, .bool false, fun w _ => hgv w⟩
      | false =>
       rw [hz] at h
       have hb : o.isNone = false := by
        cases o with
        | some a => rfl
        | none =>
         have := (hs.hnil rfl).1
         subst this
         simp [lenD] at hz
       rw [hb] at hgv
       exact ⟨.bool false, h, _, .bool false, fun w _ => hgv w⟩
    ·cases h
  ·cases h
 ·cases h
noncomputable def qop (P : Program) (σ : List Blk) (fl : SFL) (o : Oper) (k : SV → Option ρ) : Option ρ := match o.op with
 | .move _ | .assign _ | .nilCheck _ => ret (moveS σ fl o) k
 | .load t x => match evS σ fl x with
  | some s => ldX P σ t s k
  | none => none
 | .fieldAddr .. => ret (fieldAddrS P σ fl o) k
 | .indexAddr .. => indexAddrX P σ fl o k
 | .field .. => ret (fieldS P σ fl o) k
 | .extract .. => ret (extractS σ fl o) k
 | .build .. => ret (buildS P σ fl o) k
 | .makeFunc .. => ret (makeFuncS σ fl o) k
 | .makeInterface .. | .typeAssert .. => ret (ifcS P σ fl o) k
 | .index .. => indexX P σ fl o k
 | .slice .. => sliceX P σ fl o k
 | .pick .. => pickX σ fl o k
 | .binOp .quo .. | .binOp .rem .. => binX P σ fl o k
 | .binOp .add _ x _ _ => bif isStrB σ fl x then binX P σ fl o k else ret (scOp P σ fl o) k
 | .call { callee := .builtin .len, .. } => ret (lenS P σ fl o) k
 | .convert .. => ret (convS P σ fl o) k
 | .binOp .shr .. => ret (shS P σ fl o) k
 | .binOp .eql .. => bif isSlN σ fl o then nilX P σ fl o k else ret (eqS P σ fl o) k
 | .binOp .neq .. => ret (eqS P σ fl o) k
 | _ => ret (scOp P σ fl o) k
theorem ret_some {x : Option SV} {k : SV → Option ρ} {r : ρ} (h : ret x k = some r) : ∃ s, x = some s ∧ k s = some r := by
 unfold ret at h
 split at h
 ·exact ⟨_, rfl, h⟩
 ·cases h
theorem retQ {x : Option SV} {K : SV → Option ρ} {r : ρ} {o : Oper} (h : ret x K = some r) (hs : ∀ {s}, x = some s → Gv P e W flv o s) : ∃ s, K s = some r ∧ Gv P e W flv o s :=
 let ⟨s, h1, h2⟩ := ret_some h; ⟨s, h2, hs h1⟩
def isLd (o : Oper) : Bool := match o.op with | .load .. => true | .convert .. => true | .lookup .. => true | _ => false
theorem qop_ok (m : Mem e σ As) (k : FLIs e fl flv) (hw0 : WM e As L0 w) {o : Oper} (hW : isLd o = true → ∀ w, W w → WM e As L0 w) {K : SV → Option ρ} {r : ρ} (h : qop P σ fl o K = some r) : ∃ s, K s = some r ∧ Gv P e W flv o s := by
 unfold qop at h
 split at h
 all_goals first
  | exact indexAddrX_ok m k hw0 h
  | exact indexX_ok m k h
  | exact sliceX_ok m k h
  | exact pickX_ok m k h
  | exact binX_ok m k h
  | exact retQ h fun hs => moveS_ok m k hs
  | exact retQ h fun hs => fieldAddrS_ok m k hs
  | exact retQ h fun hs => fieldS_ok m k hs
  | exact retQ h fun hs => extractS_ok m k hs
  | exact retQ h fun hs => buildS_ok m k hs
  | exact retQ h fun hs => makeFuncS_ok m k hs
  | exact retQ h fun hs => ifcS_ok m k hs
  | exact retQ h fun hs => lenS_ok m k hs
  | exact retQ h fun hs => eqS_ok m k hs
  | exact retQ h fun hs => shS_ok m k hs
  | exact retQ h fun hs => scOp_ok m k hs
  | skip
 ·rename_i t x ho
  split at h
  ·rename_i s hs; exact ldX_ok m k (hW (by simp [isLd, ho])) ho hs h
  ·cases h
 ·rename_i t x y t' ho
  cases hb : isStrB σ fl x with
  | true => rw [hb] at h; exact binX_ok m k h
  | false => rw [hb] at h; obtain ⟨s, h1, h2⟩ := ret_some h; exact ⟨s, h2, scOp_ok m k h1⟩
 ·rename_i s' d' x ho
  obtain ⟨s, h1, h2⟩ := ret_some h
  exact ⟨s, h2, convS_ok m k (hW (by simp [isLd, ho])) hw0 h1⟩
 ·cases hb : isSlN σ fl o with
  | true => rw [hb] at h; exact nilX_ok m k h
  | false => rw [hb] at h; obtain ⟨s, h1, h2⟩ := ret_some h; exact ⟨s, h2, eqS_ok m k h1⟩
end Go.K
namespace Go.K
open Go.Sl Go.Sx
variable {e e' : KE} {σ : List Blk} {As L0 L : List Atom} {P : Program} {w : World} {N : Nat} {fl : SFL} {flv : FL} {ρ : Type} {h : Zone}
theorem st_new {c : Array Value} {E : TypeId} (hS : St h L w) : (newRow E c).run P w = .ok ⟨w.heap.size, 0, none⟩ (w.alloc (.cells c E (0, 0))) ∧ St h (box w.heap.size c.toList E :: L) (w.alloc (.cells c E (0, 0))) := by
 refine ⟨rfl, ?_⟩
 exact hS.new (box w.heap.size c.toList E) _ rfl
theorem st_store {b off j : Nat} {vs cs : List Value} {T : TypeId} (hS : St h L w) (hj : L[j]? = some (box b cs T)) (hfit : off + vs.length ≤ cs.length) (hone : oneCells vs = true) :
  ∃ w', (storeCells ⟨b, off, none⟩ vs 0).run P w = .ok () w' ∧ St h (L.set j (box b (splice cs off vs) T)) w' := by
 obtain ⟨x, hx, hxw, _, hset⟩ := hS.focus hj
 have hx' : x = Hp.one b (.cells cs.toArray T (0, 0)) := hx
 subst hx'
 have h1 : w.heap[b]? = some (.cells cs.toArray T (0, 0)) := Hp.one_le.1 hxw
 have hrun := run_storeCells_at (P := P) b off T vs 0 cs.toArray w h1 (by simpa using hfit) (oneCells_spec hone)
 simp only [Nat.add_zero] at hrun
 refine ⟨_, hrun, hset _ _ (Hp.one b (.cells (splice cs off vs).toArray T (0, 0))) rfl (Hp.one_le.2 ?_) ?_ ?_ rfl rfl rfl⟩
 ·exact setRow_heap w b _ _ T (0, 0) h1
 ·intro k hk hne
  refine setRow_other w b k _ fun e => ?_
  subst e
  simp [Hp.one] at hne
 ·intro k o' hk
  right
  unfold Hp.one at hk ⊢
  split at hk <;> simp_all
theorem st_storeOwn {α : Type} {T : Ty α} {E : TypeId} {cap j : Nat} {xs : List α} {ad : Addr} {ix off : Nat} {vs : List Value} {x' : α} (hS : St h L w) (hj : L[j]? = some (ownS T E (some ad) cap xs))
  (hix : ix < xs.length) (hoff : off + vs.length ≤ T.size) (hone : oneCells vs = true) (hx : ∀ c, T.rep h c xs[ix] → T.rep h (splice c off vs) x') :
  ∃ w', (storeCells ((ad.add (ix * T.size)).add off) vs 0).run P w = .ok () w' ∧ St h (L.set j (ownS T E (some ad) cap (xs.set ix x'))) w' := by
 obtain ⟨x, hxp, hxw, dx, hset⟩ := hS.focus hj
 have hxp' : OwnP T E (some ad) cap xs h x := hxp
 rcases hxp' with ⟨e, _⟩ | ⟨g, cur, e, rfl, h1, h2, h3, h4⟩
 ·cases e
 ·cases e
  have hg : w.heap[g]? = some (.cells cur E (0, 0)) := Hp.one_le.1 hxw
  have haddr : (((⟨g, 0, none⟩ : Addr).add (ix * T.size)).add off) = ⟨g, ix * T.size + off, none⟩ := by
   rw [Sx.add_add]; unfold Addr.add; split <;> simp_all
  rw [haddr]
  have hbound : ix * T.size + T.size ≤ xs.length * T.size := by
   have := Nat.mul_le_mul_right T.size (show ix + 1 ≤ xs.length by omega)
   rwa [Nat.add_mul, Nat.one_mul] at this
  have hbound2 : xs.length * T.size ≤ cap * T.size := Nat.mul_le_mul_right _ h1
  have hrun := run_storeCells_at (P := P) g (ix * T.size + off) E vs 0 cur w hg (by rw [h3]; omega) (oneCells_spec hone)
  simp only [Nat.add_zero] at hrun
  have hrows := h4.set hix hx hoff
  refine ⟨_, hrun, hset _ _ (Hp.one g (.cells (splice cur.toList (ix * T.size + off) vs).toArray E (0, 0))) (.inr ⟨g, _, rfl, rfl, by simpa using h1, h2, ?_, ?_⟩) (Hp.one_le.2 ?_) ?_ ?_ rfl rfl rfl⟩
  ·simp only [splice, List.size_toArray, List.length_append, List.length_take, List.length_drop, Array.length_toList]
   omega
  ·have hl2 : (xs.set ix x').length = xs.length := List.length_set
   rw [hl2]
   have e2 : (splice cur.toList (ix * T.size + off) vs).take (xs.length * T.size) = splice (cur.toList.take (xs.length * T.size)) (ix * T.size + off) vs := by
    unfold splice
    rw [List.append_assoc, List.append_assoc, List.take_append, List.take_append, List.take_take, List.take_take]
    simp only [List.length_take, Array.length_toList, h3]
    have hm1 : min (ix * T.size + off) (cap * T.size) = ix * T.size + off := by omega
    rw [hm1, show min (xs.length * T.size) (ix * T.size + off) = ix * T.size + off by omega, show min (ix * T.size + off) (xs.length * T.size) = ix * T.size + off by omega]
    rw [List.take_of_length_le (l := vs) (by omega), List.drop_take]
    congr 3
    omega
   show Sx.Rows T h ((splice cur.toList (ix * T.size + off) vs).take (xs.length * T.size)) _
   rw [e2]
   exact hrows
  ·exact setRow_heap w g _ _ E (0, 0) hg
  ·intro q hq hne
   refine setRow_other w g q _ fun e => ?_
   subst e
   simp [Hp.one] at hne
  ·intro q o' hq
   right
   unfold Hp.one at hq ⊢
   split at hq <;> simp_all
structure KM where
 σ : List Blk
 lg : List (Nat × Nat)
structure ExtD (m m' : KM) (d : List (Nat × Nat)) : Prop where
 lg : m'.lg = d ++ m.lg
 len : m.σ.length ≤ m'.σ.length
 cells : ∀ {id T cs}, at' m.σ id = some (.cells T cs) → ∃ cs', at' m'.σ id = some (.cells T cs') ∧ cs'.length = cs.length ∧ ∀ off, (id, off) ∉ d → cs'[off]? = cs[off]?
 other : ∀ {id B}, at' m.σ id = some B → (∀ T cs, B ≠ .cells T cs) → (id, 0) ∉ d → at' m'.σ id = some B
def ExtM (m m' : KM) : Prop := ∃ d, ExtD m m' d
theorem ExtD.refl (m : KM) : ExtD m m [] := ⟨rfl, Nat.le_refl _, fun h => ⟨_, h, rfl, fun _ _ => rfl⟩, fun h _ _ => h⟩
theorem ExtM.refl (m : KM) : ExtM m m := ⟨[], ExtD.refl m⟩
theorem ExtM.trans {a b c : KM} : ExtM a b → ExtM b c → ExtM a c := fun ⟨d1, h1⟩ ⟨d2, h2⟩ => ⟨d2 ++ d1, by rw [h2.lg, h1.lg, List.append_assoc], Nat.le_trans h1.len h2.len,
 fun {id T cs} h => by
  obtain ⟨cs1, k1, k2, k3⟩ := h1.cells h
  obtain ⟨cs2, k4, k5, k6⟩ := h2.cells k1
  exact ⟨cs2, k4, by rw [k5, k2], fun off hn => by rw [k6 off (fun hm => hn (List.mem_append_left _ hm)), k3 off (fun hm => hn (List.mem_append_right _ hm))]⟩,
 fun {id B} h hB hn => h2.other (h1.other h hB (fun hm => hn (List.mem_append_right _ hm))) hB (fun hm => hn (List.mem_append_left _ hm))⟩
theorem ExtM.push (m : KM) (B : Blk) : ExtM m ⟨B :: m.σ, m.lg⟩ := ⟨[], rfl, by simp, fun h => ⟨_, at_cons h, rfl, fun _ _ => rfl⟩, fun h _ _ => at_cons h⟩
theorem ExtM.set {m : KM} {id : Nat} {B B' : Blk} (hB : at' m.σ id = some B) (hne : ∀ T cs, B ≠ .cells T cs) : ExtM m ⟨setAt m.σ id B', (id, 0) :: m.lg⟩ := by
 have hl := at_lt hB
 refine ⟨[(id, 0)], rfl, by simp [len_setAt], fun {j T cs} h => ?_, fun {j C} h hC hn => ?_⟩
 ·have hj : id ≠ j := fun e => by subst e; rw [h] at hB; exact hne _ _ (Option.some.inj hB).symm
  exact ⟨cs, by show at' (setAt m.σ id B') j = _; rw [at_set_ne hl hj]; exact h, rfl, fun _ _ => rfl⟩
 ·have hj : id ≠ j := fun e => by subst e; simp at hn
  show at' (setAt m.σ id B') j = _
  rw [at_set_ne hl hj]; exact h
def offs (id off n : Nat) : List (Nat × Nat) := (List.range' off n).map fun o => (id, o)
theorem ExtM.cells {m : KM} {id off : Nat} {T : TypeId} {cs l : List SV} (hB : at' m.σ id = some (.cells T cs)) (hfit : off + l.length ≤ cs.length) :
  ExtM m ⟨setAt m.σ id (.cells T (spl cs off l)), offs id off l.length ++ m.lg⟩ := by
 have hl := at_lt hB
 refine ⟨offs id off l.length, rfl, by simp [len_setAt], fun {j U us} h => ?_, fun {j C} h hC hn => ?_⟩
 ·by_cases hj : id = j
  ·subst hj
   rw [hB] at h
   cases h
   refine ⟨spl cs off l, at_set hl, by simp [spl]; omega, fun o hn => ?_⟩
   have hn' : ¬ (off ≤ o ∧ o < off + l.length) := fun k => hn (by simp [offs, List.mem_range'_1]; exact k)
   unfold spl
   by_cases h1 : o < off
   ·rw [List.append_assoc, List.getElem?_append_left (by simp; omega), List.getElem?_take, if_pos h1]
   ·rw [List.getElem?_append_right (by simp; omega), List.getElem?_drop]
    simp only [List.length_append, List.length_take]
    congr 1; omega
  ·exact ⟨us, by show at' (setAt m.σ id _) j = _; rw [at_set_ne hl hj]; exact h, rfl, fun _ _ => rfl⟩
 ·have hj : id ≠ j := fun e => by subst e; rw [hB] at h; exact hC _ _ (Option.some.inj h).symm
  show at' (setAt m.σ id _) j = _
  rw [at_set_ne hl hj]; exact h
structure Go1 (e : KE) (As : List Atom) (m : KM) (e' : KE) (As' : List Atom) (m' : KM) : Prop where
 le : e.le e'
 ext : ExtM m m'
 az : m'.lg.length = m.lg.length → ∃ l, As' = l ++ As
theorem ExtM.lgle {m m' : KM} (h : ExtM m m') : m.lg.length ≤ m'.lg.length := by
 obtain ⟨d, h⟩ := h
 rw [h.lg]; simp
theorem Go1.refl {m : KM} : Go1 e As m e As m := ⟨.rfl, .refl m, fun _ => ⟨[], by simp⟩⟩
theorem Go1.trans {a b c : KE} {A B C : List Atom} {x y z : KM} (h : Go1 a A x b B y) (k : Go1 b B y c C z) : Go1 a A x c C z :=
 ⟨h.le.trans k.le, h.ext.trans k.ext, fun hl => by
  have h1 := h.ext.lgle
  have h2 := k.ext.lgle
  obtain ⟨l1, e1⟩ := h.az (by omega)
  obtain ⟨l2, e2⟩ := k.az (by omega)
  exact ⟨l2 ++ l1, by rw [e2, e1, List.append_assoc]⟩⟩
def Nx (e : KE) (As : List Atom) (m m' : KM) (L0 : List Atom) (w : World) : Prop := ∃ e' As', Go1 e As m e' As' m' ∧ Mem e' m'.σ As' ∧ St e'.z (As' ++ L0) w
theorem St.mid {z : Zone} {l : List Atom} (h : St z (l ++ As ++ L0) w) : St z (As ++ L0) w := by
 have := St.drop l.length h
 rwa [List.append_assoc, List.drop_left] at this
def frz1 (m : KM) (id : Nat) : KM := match at' m.σ id with
 | some (.own t _ xs) => ⟨setAt m.σ id (.fz t xs), (id, 0) :: m.lg⟩
 | some (.map es) => ⟨setAt m.σ id (.fzm es), (id, 0) :: m.lg⟩
 | some (.oo t _ _ xss none) => ⟨setAt m.σ id (.fz (.sl t) xss), (id, 0) :: m.lg⟩
 | _ => m
def frzL (m : KM) : List SV → KM
 | [] => m
 | .own id :: r => frzL (frz1 m id) r
 | .mp id :: r => frzL (frz1 m id) r
 | _ :: r => frzL m r
theorem frz1_ok {m : KM} (h1 : Mem e m.σ As) (h2 : St e.z (As ++ L0) w) (id : Nat) : Nx e As m (frz1 m id) L0 w := by
 unfold frz1
 split
 ·rename_i t E xs hB
  obtain ⟨i, m1, m2, m3⟩ := h1.len hB
  obtain ⟨z', k1, k2, k3⟩ := h2.share (Mem.atom m3)
  have hle : e.le ⟨z', e.bs⟩ := ⟨k1, [], rfl⟩
  rw [setAt_app (at_lt m3)] at k2
  exact ⟨⟨z', e.bs⟩, setAt As id emp, ⟨hle, ExtM.set hB (fun T cs h => by cases h), fun h => absurd h (by simp)⟩, (h1.mono hle rfl).set m1 (.fz m2 k3), k2⟩
 ·rename_i es hB
  obtain ⟨i, A, m1, m2, m3⟩ := h1.get hB
  cases m3 with
  | map =>
   obtain ⟨z', x, k1, hx, hxb, k2⟩ := h2.freeze (Mem.atom m2)
   have hx' : x = Hp.one i.b (cobj es) := hx
   subst hx'
   have hle : e.le ⟨z', e.bs⟩ := ⟨k1, [], rfl⟩
   rw [setAt_app (at_lt m2)] at k2
   exact ⟨⟨z', e.bs⟩, setAt As id emp, ⟨hle, ExtM.set hB (fun T cs h => by cases h), fun h => absurd h (by simp)⟩, (h1.mono hle rfl).set m1 (.fzm (Hp.one_le.1 hxb)), k2⟩
 ·rename_i u E E2 xss hB
  obtain ⟨i, A, m1, m2, m3⟩ := h1.get hB
  cases m3 with
  | oo hn hr =>
   obtain ⟨z', k1, k2, k3⟩ := Go.Sx.St.ooShare h2 (Mem.atom m2) hr.1 (fun i xs hi => hr.2.1 i xs hi (fun e => by cases e))
   have hle : e.le ⟨z', e.bs⟩ := ⟨k1, [], rfl⟩
   rw [setAt_app (at_lt m2)] at k2
   exact ⟨⟨z', e.bs⟩, setAt As id emp, ⟨hle, ExtM.set hB (fun T cs h => by cases h), fun h => absurd h (by simp)⟩, (h1.mono hle rfl).set m1 (.fz (t := .sl u) hn k3), k2⟩
 ·exact ⟨e, As, .refl, h1, h2⟩
theorem frzL_ok : ∀ (l : List SV) {m : KM} {e : KE} {As : List Atom}, Mem e m.σ As → St e.z (As ++ L0) w → Nx e As m (frzL m l) L0 w
 | [], m, e, As, h1, h2 => ⟨e, As, .refl, h1, h2⟩
 | s :: r, m, e, As, h1, h2 => by
  cases s with
  | own id =>
   obtain ⟨e1, A1, n1, g1, g2⟩ := frz1_ok h1 h2 id
   obtain ⟨e2, A2, n2, g3, g4⟩ := frzL_ok r g1 g2
   exact ⟨e2, A2, n1.trans n2, g3, g4⟩
  | mp id =>
   obtain ⟨e1, A1, n1, g1, g2⟩ := frz1_ok h1 h2 id
   obtain ⟨e2, A2, n2, g3, g4⟩ := frzL_ok r g1 g2
   exact ⟨e2, A2, n1.trans n2, g3, g4⟩
  | _ => exact frzL_ok r h1 h2
end Go.K
namespace Go.K
open Go.Sl Go.Sx
variable {e e' : KE} {σ : List Blk} {As L0 L : List Atom} {P : Program} {w : World} {N : Nat} {fl : SFL} {flv : FL} {ρ : Type} {h : Zone}
def tcPair : List (Option TC) → Option TC
 | [] => some .unit
 | [x] => x
 | some a :: l => match tcPair l with
  | some b => some (.pair a b)
  | none => none
 | none :: _ => none
def arrT : Nat → TC → Option TC
 | 0, _ => none
 | 1, u => some u
 | n + 2, u => match arrT (n + 1) u with
  | some v => some (.pair u v)
  | none => none
def tcOf (P : Program) : Nat → TypeId → Option TC
 | 0, _ => none
 | n + 1, t => match P.underlying t with
  | some (.int k) => some (.int k)
  | some .bool => some .bool
  | some .string => some .str
  | some (.slice E) => match tcOf P n E with
   | some u => some (.sl u)
   | none => none
  | some (.struct fs) => tcPair (fs.toList.map fun f => tcOf P n f.type)
  | some (.array m E) => match tcOf P n E with
   | some u => arrT m u
   | none => none
  | _ => none
def cellOk : SV → Bool
 | .agg _ => false | .tup _ => false | .any => false | .raw v => v.oneCell' | _ => true
theorem cellOk_is {s : SV} {v : Value} (h : cellOk s = true) (k : Is e s v) : v.oneCell' = true := by
 cases k <;> simp [cellOk] at h <;> first | rfl | exact h
theorem cellsOk_is : ∀ {l : List SV} {vs : List Value}, l.all cellOk = true → IsL e l vs → oneCells vs = true
 | _, _, _, .nil => rfl
 | _, _, h, .cons h1 h2 => by
  simp only [List.all_cons, za] at h
  simp only [oneCells, za]
  exact ⟨cellOk_is h.1 h1, cellsOk_is h.2 h2⟩
def Out (P : Program) (e : KE) (As L0 : List Atom) (flv : FL) (o : Oper) (w : World) (m : KM) (s : SV) (m' : KM) : Prop :=
 ∃ n v w' e' As', (execOp (ev flv) o).run P w = .ok n w' ∧ (n = .value v ∨ (n = .skip ∧ v = undef)) ∧ Go1 e As m e' As' m' ∧ Is e' s v ∧ Mem e' m'.σ As' ∧ St e'.z (As' ++ L0) w'
theorem MS.box' {m : KM} {l : List SV} {c : Array Value} {E : TypeId} (h1 : Mem e m.σ As) (h2 : St e.z (As ++ L0) w) (hl : IsL (e.push ⟨w.heap.size, none, 0, 0⟩) l c.toList) (hok : l.all cellOk = true) :
  ∃ w' e' As', (newRow E c).run P w = .ok ⟨w.heap.size, 0, none⟩ w' ∧ Is e' (.ptr m.σ.length 0) (.pointer (some ⟨w.heap.size, 0, none⟩)) ∧ Go1 e As m e' As' ⟨.cells E l :: m.σ, m.lg⟩ ∧ Mem e' (.cells E l :: m.σ) As' ∧ St e'.z (As' ++ L0) w' := by
 obtain ⟨k1, k2⟩ := st_new (P := P) (c := c) (E := E) h2
 have hle := KE.le_push e ⟨w.heap.size, none, 0, 0⟩
 refine ⟨_, _, _, k1, .ptr (i := ⟨w.heap.size, none, 0, 0⟩) ?_, ⟨hle, ExtM.push m _, fun _ => ⟨[_], rfl⟩⟩, h1.push (.cells hl (cellsOk_is hok hl)), k2⟩
 show at' (_ :: e.bs) m.σ.length = _
 rw [h1.lb]; exact at_new
theorem MS.box {m : KM} {l : List SV} {c : Array Value} {E : TypeId} (h1 : Mem e m.σ As) (h2 : St e.z (As ++ L0) w) (hl : IsL e l c.toList) (hok : l.all cellOk = true) :
  ∃ w' e' As', (newRow E c).run P w = .ok ⟨w.heap.size, 0, none⟩ w' ∧ Is e' (.ptr m.σ.length 0) (.pointer (some ⟨w.heap.size, 0, none⟩)) ∧ Go1 e As m e' As' ⟨.cells E l :: m.σ, m.lg⟩ ∧ Mem e' (.cells E l :: m.σ) As' ∧ St e'.z (As' ++ L0) w' :=
 MS.box' h1 h2 (hl.mono (KE.le_push e _)) hok
def selfP (P : Program) (E : TypeId) : Bool := match P.underlying E with
 | some (.struct fs) => match fs[0]? with
  | some f => match P.underlying f.type with
   | some (.pointer E') => Nat.beq E' E
   | _ => false
  | none => false
 | _ => false
def isNilP : Value → Bool
 | .pointer none => true
 | _ => false
theorem isNilP_eq {v : Value} (h : isNilP v = true) : v = .pointer none := by
 unfold isNilP at h
 split at h
 ·rfl
 ·cases h
def selfC (P : Program) (E : TypeId) (id : Nat) : List SV → List SV
 | .raw v :: r => bif selfP P E && isNilP v then .nilp id 0 :: r else .raw v :: r
 | l => l
theorem selfC_is {E : TypeId} {id : Nat} {i : BI} (hi : at' e.bs id = some i) {l : List SV} {vs : List Value} (h : IsL e l vs) : IsL e (selfC P E id l) vs := by
 unfold selfC
 split
 ·rename_i v r
  cases hb : (selfP P E && isNilP v) with
  | false => exact h
  | true =>
   simp only [za] at hb
   have := isNilP_eq hb.2
   subst this
   cases h with
   | cons a b => cases a; exact .cons (.nil0 hi) b
 ·exact h
theorem selfC_ok {E : TypeId} {id : Nat} {l : List SV} (h : l.all cellOk = true) : (selfC P E id l).all cellOk = true := by
 unfold selfC
 split
 ·rename_i v r
  simp only [List.all_cons, za] at h
  cases hb : (selfP P E && isNilP v) with
  | false => simp [h.1, h.2]
  | true => simp [cellOk, h.2]
 ·exact h
def boxX (P : Program) (m : KM) (fl : SFL) (o : Oper) (k : SV → KM → Option ρ) : Option ρ := match o.op with
 | .box E x => match evS m.σ fl x with
  | some s => match svC s with
   | some l => bif l.all cellOk then k (.ptr m.σ.length 0) ⟨.cells E l :: m.σ, m.lg⟩ else none
   | none => none
  | none => none
 | .alloc E => match zeroC P E with
  | some l => bif l.all cellOk then k (.ptr m.σ.length 0) ⟨.cells E (selfC P E m.σ.length l) :: m.σ, m.lg⟩ else none
  | none => none
 | _ => none
theorem boxX_ok {m : KM} (h1 : Mem e m.σ As) (h2 : St e.z (As ++ L0) w) (k : FLIs e fl flv) {o : Oper} {K : SV → KM → Option ρ} {r : ρ} (h : boxX P m fl o K = some r) : ∃ s m', K s m' = some r ∧ Out P e As L0 flv o w m s m' := by
 unfold boxX at h
 split at h
 ·rename_i E x ho
  split at h
  ·rename_i s hs
   split at h
   ·rename_i l hl
    cases hb : l.all cellOk with
    | false => rw [hb] at h; cases h
    | true =>
     rw [hb] at h
     have hv := svC_is hl (evS_is h1 k hs).1
     obtain ⟨w', e', A', k1, k2, k3, k4, k5⟩ := MS.box (P := P) (E := E) h1 h2 hv hb
     refine ⟨_, _, h, .value (.pointer (some ⟨w.heap.size, 0, none⟩)), _, w', e', A', ?_, .inl rfl, k3, k2, k4, k5⟩
     simp only [execOp, ho, Instr.box, newVar, Sem.run_bind, k1, Result.andThen_ok, Sem.run_pure]
   ·cases h
  ·cases h
 ·rename_i E ho
  split at h
  ·rename_i l hl
   cases hb : l.all cellOk with
   | false => rw [hb] at h; cases h
   | true =>
    rw [hb] at h
    obtain ⟨z, z1, z2⟩ := zeroC_run (e := e) hl
    have hself : at' (e.push ⟨w.heap.size, none, 0, 0⟩).bs m.σ.length = some ⟨w.heap.size, none, 0, 0⟩ := by
     show at' (_ :: e.bs) m.σ.length = _
     rw [h1.lb]; exact at_new
    obtain ⟨w', e', A', k1, k2, k3, k4, k5⟩ := MS.box' (P := P) (E := E) h1 h2 (selfC_is (P := P) (E := E) hself (z1.mono (KE.le_push e _))) (selfC_ok hb)
    refine ⟨_, _, h, .value (.pointer (some ⟨w.heap.size, 0, none⟩)), _, w', e', A', ?_, .inl rfl, k3, k2, k4, k5⟩
    simp only [execOp, ho, Instr.alloc, newVar, Sem.run_bind, z2, k1, Result.andThen_ok, Sem.run_pure]
  ·cases h
 ·cases h
def storeX (P : Program) (m : KM) (fl : SFL) (o : Oper) (k : SV → KM → Option ρ) : Option ρ := match o.op with
 | .store t ad x => match evS m.σ fl ad, (evS m.σ fl x).bind svC, ldT P t with
  | some (.ptr id off), some l, some (n, _) => match at' m.σ id with
   | some (.cells T cs) => bif Nat.beq l.length n && (Nat.ble (off + l.length) cs.length && (l.all cellOk && Nat.ble 1 l.length)) then k (.raw undef) ⟨setAt m.σ id (.cells T (spl cs off l)), offs id off l.length ++ m.lg⟩ else none
   | _ => none
  | some (.oel id u i off), some l, some (n, _) => match at' m.σ id with
   | some (.own u' E xs) => if u' = u then bif u'.flat && (Nat.beq l.length n && (Nat.ble (off + l.length) u'.size && l.all cellOk)) then
     (getI xs i).bind fun y => match u'.ofL (spl (u'.exp y) off l) with
      | some (y', []) => (setI xs i y').bind fun ys => k (.raw undef) ⟨setAt m.σ id (.own u' E ys), (id, 0) :: m.lg⟩
      | _ => none
     else none else none
   | _ => none
  | _, _, _ => none
 | _ => none
theorem store_run {o : Oper} {t : TypeId} {ad x : Operand} {a : Addr} {n : Nat} {g : Bool} {w' : World} (ho : o.op = .store t ad x) (hx : ev flv ad = .pointer (some a)) (ht : ldT P t = some (n, g)) (hn : (ev flv x).cells.toList.length = n)
  (hr : (storeCells a (ev flv x).cells.toList 0).run P w = .ok () w') : (execOp (ev flv) o).run P w = .ok .skip w' := by
 obtain ⟨_, h2⟩ := ldT_run ht w
 have hsz : (ev flv x).cells.size = n := by simpa using hn
 simp [execOp, ho, Instr.storeAt, hx, Instr.sureAddr, storeVar, h2, hsz, hr]
theorem storeX_ok {m : KM} (h1 : Mem e m.σ As) (h2 : St e.z (As ++ L0) w) (k : FLIs e fl flv) {o : Oper} {K : SV → KM → Option ρ} {r : ρ} (h : storeX P m fl o K = some r) : ∃ s m', K s m' = some r ∧ Out P e As L0 flv o w m s m' := by
 unfold storeX at h
 split at h
 ·rename_i t ad x ho
  split at h
  ·rename_i id off l n g hs hl ht
   obtain ⟨sx, hx1, hx2⟩ := bind_some hl
   have hv := svC_is hx2 (evS_is h1 k hx1).1
   obtain ⟨h0, _⟩ := evS_is h1 k hs
   generalize hgv : ev flv ad = gv at h0
   split at h
   ·rename_i T cs hB
    cases hb : (Nat.beq l.length n && (Nat.ble (off + l.length) cs.length && (l.all cellOk && Nat.ble 1 l.length))) with
    | false => rw [hb] at h; cases h
    | true =>
     rw [hb] at h
     simp only [za] at hb
     have e1 := zN hb.1
     have e2 := Nat.le_of_ble_eq_true hb.2.1
     obtain ⟨i, A, m1, m2, m3⟩ := h1.get hB
     cases m3 with
     | cells hc hone =>
      rename_i vs
      cases h0 with
      | ptr hi =>
       rw [hi] at m1; cases m1
       have hlv := hv.len
       have hlc := hc.len
       have one2 := cellsOk_is hb.2.2.1 hv
       have hl1 := Nat.le_of_ble_eq_true hb.2.2.2
       obtain ⟨w', k1, k2⟩ := st_store (P := P) (off := off) h2 (Mem.atom m2) (by omega) one2
       rw [setAt_app (at_lt m2)] at k2
       refine ⟨_, _, h, .skip, undef, w', e, _, store_run ho hgv ht (by omega) k1, .inr ⟨rfl, rfl⟩, ⟨.rfl, ExtM.cells hB e2, fun hh => by
        have hlo : (offs id off l.length).length = l.length := by simp [offs]
        simp only [List.length_append] at hh; omega⟩, .raw _, ?_, k2⟩
       have hsp : IsL e (spl cs off l) (splice vs off (ev flv x).cells.toList) := by
        unfold spl splice
        rw [hlv]
        exact ((hc.take off).app hv).app (hc.drop _)
       refine h1.set hi (.cells hsp ?_)
       have hall := oneCells_spec hone
       have hall2 := oneCells_spec one2
       have key : ∀ l : List Value, (∀ v ∈ l, v.oneCell' = true) → oneCells l = true := by
        intro l
        induction l with
        | nil => intro _; rfl
        | cons v l ih => intro hh; simp only [oneCells, za]; exact ⟨hh v (by simp), ih fun u hu => hh u (by simp [hu])⟩
       refine key _ fun v hvv => ?_
       unfold splice at hvv
       rcases List.mem_append.1 hvv with hvv | hvv
       ·rcases List.mem_append.1 hvv with hvv | hvv
        ·exact hall v (List.mem_of_mem_take hvv)
        ·exact hall2 v hvv
       ·exact hall v (List.mem_of_mem_drop hvv)
   ·cases h
  ·rename_i id u i off l n g hs hl ht
   obtain ⟨sx, hx1, hx2⟩ := bind_some hl
   have hv := svC_is hx2 (evS_is h1 k hx1).1
   obtain ⟨h0, _⟩ := evS_is h1 k hs
   generalize hgv : ev flv ad = gv at h0
   split at h
   ·rename_i u' E xs hB
    split at h
    ·rename_i hu
     subst hu
     cases hb : (u'.flat && (Nat.beq l.length n && (Nat.ble (off + l.length) u'.size && l.all cellOk))) with
     | false => rw [hb] at h; cases h
     | true =>
      rw [hb] at h
      simp only [zT] at h
      simp only [za] at hb
      obtain ⟨hfl, hb1, hb2, hb3⟩ := hb
      have e1 := zN hb1
      have e2 := Nat.le_of_ble_eq_true hb2
      obtain ⟨y, g1, g2⟩ := bind_some h
      split at g2
      ·rename_i y' hy'
       obtain ⟨ys, g3, g4⟩ := bind_some g2
       obtain ⟨bi, m1, m2, m3⟩ := h1.len hB
       cases h0 with
       | oel hbi hbo =>
        rename_i bb a
        rw [hbi] at m1; cases m1
        obtain ⟨hbnd, hysx⟩ := setI_spec g3
        obtain ⟨_, hyx⟩ := getI_spec g1
        have hlv := hv.len
        have hlt : i.toNat < xs.length := by omega
        have hyx' : xs[i.toNat] = y := by
         have := List.getElem?_eq_getElem hlt
         rw [hyx] at this; exact (Option.some.inj this).symm
        have hA := Mem.atom (L0 := L0) m3
        rw [hbo] at hA
        have hsp : IsL e (spl (u'.exp y) off l) (splice (u'.val y) off (ev flv x).cells.toList) := by
         unfold spl splice
         rw [hlv]
         exact (((flat_is hfl).take off).app hv).app ((flat_is hfl).drop _)
        obtain ⟨v1, v2, q1, q2, q3⟩ := ofL_is u' hy' hsp
        cases q3
        rw [List.append_nil] at q1
        have hrep : ∀ c, u'.ty.rep e.z c xs[i.toNat] → u'.ty.rep e.z (splice c off (ev flv x).cells.toList) y' := fun c hc => by
         rw [hyx'] at hc
         rw [flat_rep hfl hc, q1]; exact q2
        obtain ⟨w', k1, k2⟩ := st_storeOwn (P := P) (off := off) h2 hA hlt (by rw [u'.size_eq]; omega) (cellsOk_is hb3 hv) hrep
        rw [setAt_app (at_lt m3)] at k2
        rw [u'.size_eq] at k1
        refine ⟨_, _, g4, .skip, undef, w', e, _, store_run ho hgv ht (by omega) k1, .inr ⟨rfl, rfl⟩, ⟨.rfl, ExtM.set hB (fun T cs hh => by cases hh), fun hh => absurd hh (by simp)⟩, .raw _, ?_, k2⟩
        subst hysx
        refine h1.set hbi ?_
        have := BlkIs.own (e := e) (t := u') (E := E) (xs := xs.set i.toNat y') (i := bi) (by rw [List.length_set]; exact m2)
        rw [hbo] at this
        exact this
      ·cases g2
    ·cases h
   ·cases h
  ·cases h
 ·cases h
end Go.K
namespace Go.K
open Go.Sl Go.Sx
variable {e e' : KE} {σ : List Blk} {As L0 L : List Atom} {P : Program} {w : World} {N : Nat} {fl : SFL} {flv : FL} {ρ : Type} {h : Zone}
def bytN : TC → Nat
 | .int _ => 8 | .bool => 8 | .str => 16 | .unit => 8 | .pair a b => bytN a + bytN b | .sl _ => 24 | .mpc _ => 8 | .nsl _ => 24
theorem bytN_pos : ∀ u : TC, 0 < bytN u
 | .int _ | .bool | .str | .unit | .sl _ | .mpc _ | .nsl _ => by simp [bytN]
 | .pair a b => by have := bytN_pos a; simp only [bytN]; omega
abbrev bytT (u : TC) : Inhabited (Byt u.den) := ⟨⟨bytN u⟩⟩
def elemZ (P : Program) (t : TypeId) (u : TC) : Option TypeId := match P.underlying t with
 | some (.slice E) => match P.info? E with
  | some i => match i.zero with
   | some z => bif Nat.beq i.size u.size && (Nat.ble i.bytes (bytN u) && (Nat.beq z.cells.size u.size && Nat.ble 1 u.size)) then some E else none
   | none => none
  | none => none
 | _ => none
theorem elemZ_ok {t E : TypeId} {u : TC} (h : elemZ P t u = some E) : ∃ z, ElemOK P t E u.ty.size z (bytN u) ∧ zeroC P E = some (z.cells.toList.map liftC) := by
 unfold elemZ at h
 split at h
 ·rename_i E' hu
  split at h
  ·rename_i i hi
   split at h
   ·rename_i z hz
    cases hb : (Nat.beq i.size u.size && (Nat.ble i.bytes (bytN u) && (Nat.beq z.cells.size u.size && Nat.ble 1 u.size))) with
    | false => rw [hb] at h; cases h
    | true =>
     rw [hb] at h
     cases h
     simp only [za] at hb
     refine ⟨z, ElemOK.of hu hi hz (bytN_pos u) ?_, by simp [zeroC, hi, hz]⟩
     rw [u.size_eq]
     simp only [za]
     exact ⟨⟨⟨hb.1, hb.2.1⟩, hb.2.2.1⟩, hb.2.2.2⟩
   ·cases h
  ·cases h
 ·cases h
theorem st_front {A : Atom} {j : Nat} (hS : St h (L.set j A) w) (hj : j < L.length) : St h (A :: L.set j emp) w := by
 have := hS.split (i := j) (A := A) (B := A) (C := emp) (by simp [hj]) fun z hz => ⟨z, Hp.nil, hz, rfl, Hp.apart_nil _, (Hp.add_nil z).symm⟩
 rwa [List.set_set] at this
def appX (P : Program) (m : KM) (fl : SFL) (o : Oper) (k : SV → KM → Option ρ) : Option ρ := match o.op with
 | .call { callee := .builtin .append, args := ⟨[s, x]⟩, argTypes := ⟨[t, t']⟩ } => bif Nat.beq t t' then match evS m.σ fl s, evS m.σ fl x with
  | some (.own id), some y => match at' m.σ id with
   | some (.own u E xs) => match srcD m.σ u y, elemZ P t u with
    | some ys, some E' => bif Nat.beq E E' then (appC (b := bytT u) xs ys).bind fun zs => k (.own m.σ.length) ⟨.own u E zs :: setAt m.σ id .gone, (id, 0) :: m.lg⟩ else none
    | _, _ => none
   | _ => none
  | some (.raw v), some y => bif isNil v then match P.underlying t with
   | some (.slice E) => match tcOf P 9 E with
    | some u => match srcD m.σ u y, elemZ P t u with
     | some ys, some E' => bif Nat.beq E E' then (appC (b := bytT u) [] ys).bind fun zs => k (.own m.σ.length) ⟨.own u E zs :: m.σ, m.lg⟩ else none
     | _, _ => none
    | none => none
   | _ => none
   else none
  | _, _ => none
  else none
 | _ => none
theorem app_run {o : Oper} {s x : Operand} {t : TypeId} {a b v : Value} {w' : World} (ho : o.op = .call { callee := .builtin .append, args := ⟨[s, x]⟩, argTypes := ⟨[t, t]⟩ }) (h1 : ev flv s = a) (h2 : ev flv x = b)
  (hr : (Builtin.append_ #[t, t] o.type #[a, b]).run P w = .ok v w') : (execOp (ev flv) o).run P w = .ok (.value v) w' := by
 subst h1 h2
 simp [execOp, ho, resolve, invoke, builtin, hr]
theorem appX_ok {m : KM} (h1 : Mem e m.σ As) (h2 : St e.z (As ++ L0) w) (k : FLIs e fl flv) {o : Oper} {K : SV → KM → Option ρ} {r : ρ} (h : appX P m fl o K = some r) : ∃ s m', K s m' = some r ∧ Out P e As L0 flv o w m s m' := by
 unfold appX at h
 split at h
 ·rename_i s x t t' ho
  cases hb : Nat.beq t t' with
  | false => rw [hb] at h; cases h
  | true =>
   rw [hb] at h
   simp only [zT] at h
   have := zN hb
   subst this
   split at h
   ·rename_i id y hs hy
    split at h
    ·rename_i u E xs hB
     split at h
     ·rename_i ys E' hys hE'
      cases hbE : Nat.beq E E' with
      | false => rw [hbE] at h; cases h
      | true =>
       rw [hbE] at h
       have := zN hbE
       subst this
       obtain ⟨zs, g1, g2⟩ := bind_some h
       obtain ⟨hlen, rfl⟩ := appC_spec g1
       obtain ⟨z, hE, _⟩ := elemZ_ok hE'
       obtain ⟨h0, _⟩ := evS_is h1 k hs
       obtain ⟨o2, c2, hx, hsrc⟩ := srcD_ok h1 h2 hys (evS_is h1 k hy).1
       generalize hgv : ev flv s = gv at h0
       obtain ⟨i, m1, m2, m3⟩ := h1.len hB
       cases h0 with
       | own hi =>
        rw [hi] at m1; cases m1
        obtain ⟨o', cap', w', k1, k2⟩ := run_append_src (ty := o.type) (c2 := c2) hE h2 (Mem.atom m3) hsrc hlen
        have hfr := st_front k2 (by have := at_lt m3; simp; omega)
        rw [setAt_app (at_lt m3)] at hfr
        rw [← m2] at hgv
        have hle := KE.le_push e ⟨0, o', (xs ++ ys).length, cap'⟩
        refine ⟨_, _, g2, .value _, _, w', e.push ⟨0, o', (xs ++ ys).length, cap'⟩, _, app_run ho hgv hx k1, .inl rfl, ⟨hle, (ExtM.set hB (fun T cs hh => by cases hh)).trans (ExtM.push _ _), fun hh => absurd hh (by simp)⟩, .own (i := ⟨0, o', (xs ++ ys).length, cap'⟩) ?_, (h1.set hi .gone).push (.own rfl), hfr⟩
        show at' (_ :: e.bs) m.σ.length = _
        rw [h1.lb]; exact at_new
     ·cases h
    ·cases h
   ·rename_i v y hs hy
    cases hn : isNil v with
    | false => rw [hn] at h; cases h
    | true =>
     rw [hn] at h
     simp only [zT] at h
     have hv := isNil_eq hn
     subst hv
     split at h
     ·rename_i E hu
      split at h
      ·rename_i u htc
       split at h
       ·rename_i ys E' hys hE'
        cases hbE : Nat.beq E E' with
        | false => rw [hbE] at h; cases h
        | true =>
         rw [hbE] at h
         have := zN hbE
         subst this
         obtain ⟨zs, g1, g2⟩ := bind_some h
         obtain ⟨hlen, rfl⟩ := appC_spec g1
         obtain ⟨z, hE, _⟩ := elemZ_ok hE'
         obtain ⟨h0, _⟩ := evS_is h1 k hs
         obtain ⟨o2, c2, hx, hsrc⟩ := srcD_ok h1 h2 hys (evS_is h1 k hy).1
         generalize hgv : ev flv s = gv at h0
         cases h0
         obtain ⟨o', cap', w', k1, k2⟩ := run_append_src (ty := o.type) (c2 := c2) (xs := []) hE (h2.ownNil u.ty E) (j := 0) rfl hsrc hlen
         have hle := KE.le_push e ⟨0, o', zs.length, cap'⟩
         refine ⟨_, _, g2, .value _, _, w', e.push ⟨0, o', zs.length, cap'⟩, _, app_run ho hgv hx k1, .inl rfl, ⟨hle, ExtM.push m _, fun _ => ⟨[_], rfl⟩⟩, .own (i := ⟨0, o', zs.length, cap'⟩) ?_, h1.push (.own rfl), k2⟩
         show at' (_ :: e.bs) m.σ.length = _
         rw [h1.lb]; exact at_new
       ·cases h
      ·cases h
     ·cases h
   ·cases h
 ·cases h
theorem st_makeT {t E : TypeId} {α : Type} {T : Ty α} {bb : Nat} {z : Value} {n : Int} {x0 : α} {xs : List α} (hE : ElemOK P t E T.size z bb) (hb : bb ≤ 128) (hS : St h L w) (h0 : T.rep h z.cells.toList x0) (hn : mkC n x0 = some xs) :
  ∃ o' w', (Instr.makeSlice t (.int .i64 n) (.int .i64 n)).run P w = .ok (.slice (some o') xs.length xs.length) w' ∧ St h (ownS T E (some o') xs.length xs :: L) w' := by
 unfold mkC at hn
 split at hn
 case isFalse => cases hn
 rename_i hn0
 simp only [zI] at hn
 subst hn
 obtain ⟨inf, hi, hsize, hby, hz⟩ := hE.info
 have hbytes : (inf.bytes : Int) * n ≤ 281474976710656 := by
  have h1 : (inf.bytes : Int) ≤ 128 := by omega
  have h2 : (inf.bytes : Int) * n ≤ 128 * n := Int.mul_le_mul_of_nonneg_right h1 hn0.1
  omega
 have hrun := run_make (P := P) w t E inf z hE.und hi hz .i64 .i64 n n hn0.1 (Int.le_refl _) hbytes (by omega)
 have hcells : (madeCells z.cells (n.toNat * inf.size)) = ((List.range (n.toNat * T.size)).map fun i => z.cells.toList.getD (i % T.size) undef).toArray := by
  unfold madeCells
  rw [hsize]
  apply Array.ext
  ·simp
  ·intro i h1 h2
   have hzs := hE.zs
   have hpos := hE.pos
   have hlt : i % T.size < z.cells.size := by rw [hzs]; exact Nat.mod_lt _ hpos
   simp [hzs]
   rw [getElem!_pos z.cells _ hlt, Array.getElem?_eq_getElem hlt]
   rfl
 rw [hcells] at hrun
 have hrows := rows_made (h := h) h0 hE.pos n.toNat
 have hlen : (List.replicate n.toNat x0).length = n.toNat := List.length_replicate
 have hS' := hS.new (pts w.heap.size (.cells ((List.range (n.toNat * T.size)).map fun i => z.cells.toList.getD (i % T.size) undef).toArray E (0, 0))) _ rfl
 have hown := hS'.ownBox (i := 0) (T := T) (E := E) (n := n.toNat) (cs := (List.range (n.toNat * T.size)).map fun i => z.cells.toList.getD (i % T.size) undef) rfl hrows (by simp) (by simp only [maxLen]; omega)
 rw [hlen]
 exact ⟨_, _, hrun, hown⟩
theorem st_make {t E : TypeId} {u : TC} {z : Value} {n : Int} {x0 : u.den} {xs : List u.den} (hE : ElemOK P t E u.ty.size z (bytN u)) (hb : bytN u ≤ 128) (hS : St h L w) (h0 : u.ty.rep h z.cells.toList x0) (hn : mkC n x0 = some xs) :
  ∃ o' w', (Instr.makeSlice t (.int .i64 n) (.int .i64 n)).run P w = .ok (.slice (some o') xs.length xs.length) w' ∧ St h (ownS u.ty E (some o') xs.length xs :: L) w' := st_makeT hE hb hS h0 hn
def sameO : Operand → Operand → Bool
 | .tmp a, .tmp b => Nat.beq a b
 | _, _ => false
def makeX (P : Program) (m : KM) (fl : SFL) (o : Oper) (k : SV → KM → Option ρ) : Option ρ := match o.op with
 | .makeSlice t l c => match i64S m.σ fl l, i64S m.σ fl c, P.underlying t with
  | some n, some n', some (.slice E) => bif sameO l c || (match litN n, litN n' with | some a, some b => Nat.beq a b | _, _ => false) then match tcOf P 9 E with
   | some u => match elemZ P t u, zeroC P E with
    | some E', some z => match u.ofL z with
     | some (x0, []) => bif Nat.beq E E' && Nat.ble (bytN u) 128 then (mkC n x0).bind fun xs => k (.own m.σ.length) ⟨.own u E xs :: m.σ, m.lg⟩ else none
     | _ => none
    | _, _ => none
   | none => none
   else none
  | _, _, _ => none
 | _ => none
theorem makeX_ok {m : KM} (h1 : Mem e m.σ As) (h2 : St e.z (As ++ L0) w) (k : FLIs e fl flv) {o : Oper} {K : SV → KM → Option ρ} {r : ρ} (h : makeX P m fl o K = some r) : ∃ s m', K s m' = some r ∧ Out P e As L0 flv o w m s m' := by
 unfold makeX at h
 split at h
 ·rename_i t l c ho
  split at h
  ·rename_i n n' E hn hn' hu
   cases hb : (sameO l c || (match litN n, litN n' with | some a, some b => Nat.beq a b | _, _ => false)) with
   | false => rw [hb] at h; cases h
   | true =>
    rw [hb] at h
    simp only [zT] at h
    have en := i64S_is h1 k hn
    have en' := i64S_is h1 k hn'
    have enn : n' = n := by
     rcases Bool.or_eq_true_iff.1 hb with hb | hb
     ·unfold sameO at hb
      split at hb
      ·rename_i a b
       have := zN hb
       subst this
       rw [hn] at hn'; exact (Option.some.inj hn').symm
      ·cases hb
     ·split at hb
      ·rename_i a b ha hb'
       rw [litN_eq ha, litN_eq hb', zN hb]
      ·cases hb
    subst enn
    split at h
    ·rename_i u htc
     split at h
     ·rename_i E' z hE' hz
      split at h
      ·rename_i x0 hx0
       cases hbE' : (Nat.beq E E' && Nat.ble (bytN u) 128) with
       | false => rw [hbE'] at h; cases h
       | true =>
        rw [hbE'] at h
        obtain ⟨hbE, hb128⟩ := Bool.and_eq_true_iff.1 hbE'
        have := zN hbE
        subst this
        obtain ⟨xs, g1, g2⟩ := bind_some h
        obtain ⟨zv, hE, hz2⟩ := elemZ_ok hE'
        rw [hz] at hz2
        cases hz2
        obtain ⟨v1, v2, q1, q2, q3⟩ := ofL_is (e := e) u hx0 (liftL_is _)
        cases q3
        rw [List.append_nil] at q1
        rw [← q1] at q2
        obtain ⟨o', w', k1, k2⟩ := st_make (P := P) hE (Nat.le_of_ble_eq_true hb128) h2 q2 g1
        have hle := KE.le_push e ⟨0, some o', xs.length, xs.length⟩
        refine ⟨_, _, g2, .value _, .slice (some o') xs.length xs.length, w', e.push ⟨0, some o', xs.length, xs.length⟩, _, ?_, .inl rfl, ⟨hle, ExtM.push m _, fun _ => ⟨[_], rfl⟩⟩, .own (i := ⟨0, some o', xs.length, xs.length⟩) ?_, h1.push (.own rfl), k2⟩
        ·simp [execOp, ho, en, en', k1]
        ·show at' (_ :: e.bs) m.σ.length = _
         rw [h1.lb]; exact at_new
      ·cases h
     ·cases h
    ·cases h
  ·cases h
 ·cases h
theorem ofLs_rows : ∀ (n : Nat) {u : TC} {l : List SV} {xs : List u.den} {vs : List Value}, ofLs u n l = some xs → IsL e l vs → Sx.Rows u.ty e.z vs xs ∧ xs.length = n
 | 0, u, [], xs, vs, h, hl => by cases hl; cases h; exact ⟨rfl, rfl⟩
 | 0, u, _ :: _, xs, vs, h, hl => by cases h
 | n + 1, u, l, xs, vs, h, hl => by
  simp only [ofLs] at h
  split at h
  ·rename_i x r hx
   split at h
   ·rename_i ys hys
    cases h
    obtain ⟨v1, v2, rfl, q2, q3⟩ := ofL_is u hx hl
    obtain ⟨k1, k2⟩ := ofLs_rows n hys q3
    exact ⟨⟨v1, v2, rfl, q2, k1⟩, by simp [k2]⟩
   ·cases h
  ·cases h
def cellsOf (σ : List Blk) (fl : SFL) (l : List (Nat × Operand)) : List SV := l.flatMap fun p => match evS σ fl p.2 with
 | some s => (svC s).getD []
 | none => []
def repC (n : Nat) (z : List SV) : List SV := (List.range n).map fun i => z.getD (i % z.length) (.raw default)
theorem repC_is {z : List SV} {vs : List Value} (h : IsL e z vs) (n : Nat) : IsL e (repC n z) ((List.range n).map fun i => vs.getD (i % vs.length) default) := by
 unfold repC
 generalize List.range n = r
 have hlen := h.len
 induction r with
 | nil => exact .nil
 | cons i r ih =>
  refine .cons ?_ ih
  rw [hlen]
  by_cases hi : i % vs.length < vs.length
  ·have h1 : z[i % vs.length]? = some (z[i % vs.length]'(by omega)) := List.getElem?_eq_getElem (by omega)
   obtain ⟨v, k1, k2⟩ := h.get h1
   simp only [List.getD_eq_getElem?_getD, h1, k1, Option.getD_some]
   exact k2
  ·simp only [List.getD_eq_getElem?_getD, List.getElem?_eq_none (Nat.le_of_not_lt hi), List.getElem?_eq_none (show z.length ≤ i % vs.length by omega), Option.getD_none]
   exact .raw _
def buildSX (P : Program) (m : KM) (fl : SFL) (o : Oper) (k : SV → KM → Option ρ) : Option ρ := match o.op with
 | .buildSlice t n parts => match P.underlying t with
  | some (.slice E) => match tcOf P 9 E, zeroC P E, P.info? E with
   | some u, some z, some inf =>
    let m1 := frzL m (cellsOf m.σ fl parts.toList)
    bif Nat.beq inf.size u.size && (Nat.ble (n * inf.size) 100000 && Nat.ble 1 u.size) then match ptsS m1.σ fl parts.toList with
     | some l => match fillS (fun i => some (i * inf.size, inf.size)) (repC (n * inf.size) z) l with
      | some cs => match ofLs u n cs with
       | some xs => bif cs.all cellOk then k (.own m1.σ.length) ⟨.own u E xs :: m1.σ, m1.lg⟩ else none
       | none => none
      | none => none
     | none => none
    else none
   | _, _, _ => none
  | _ => none
 | _ => none
theorem buildSX_ok {m : KM} (h1 : Mem e m.σ As) (h2 : St e.z (As ++ L0) w) (k : FLIs e fl flv) {o : Oper} {K : SV → KM → Option ρ} {r : ρ} (h : buildSX P m fl o K = some r) : ∃ s m', K s m' = some r ∧ Out P e As L0 flv o w m s m' := by
 unfold buildSX at h
 split at h
 ·rename_i t n parts ho
  split at h
  ·rename_i E hu
   split at h
   ·rename_i u z inf htc hz hinf
    obtain ⟨e1, As1, x1, h1, h3⟩ := frzL_ok (cellsOf m.σ fl parts.toList) h1 h2
    have k' := k.mono x1.le
    simp only at h
    revert x1 h1 h
    generalize frzL m (cellsOf m.σ fl parts.toList) = m1
    intro h x1 h1
    cases hb : (Nat.beq inf.size u.size && (Nat.ble (n * inf.size) 100000 && Nat.ble 1 u.size)) with
    | false => rw [hb] at h; cases h
    | true =>
     rw [hb] at h
     simp only [zT] at h
     simp only [za] at hb
     have hsz := zN hb.1
     have hlim := Nat.le_of_ble_eq_true hb.2.1
     have hpos := Nat.le_of_ble_eq_true hb.2.2
     split at h
     ·rename_i l hl
      split at h
      ·rename_i cs hf
       split at h
       ·rename_i xs hxs
        cases hok : cs.all cellOk with
        | false => rw [hok] at h; cases h
        | true =>
         rw [hok] at h
         simp only [zT] at h
         obtain ⟨zv, z1, z2⟩ := zeroC_run (e := e1) hz
         obtain ⟨us, f1, f2⟩ := fillS_ok (ptsS_is h1 k' hl) (repC_is z1 (n * inf.size)) hf
         obtain ⟨r1, r2⟩ := ofLs_rows n hxs f1
         obtain ⟨g1, g2⟩ := st_new (P := P) (c := us.toArray) (E := E) h3
         have g3 := g2.ownBox (i := 0) (T := u.ty) (E := E) (xs := xs) (n := n) rfl r1 r2 (by
          simp only [maxLen]
          have : n * 1 ≤ n * inf.size := Nat.mul_le_mul_left _ (by omega)
          omega)
         have hle2 := KE.le_push e1 ⟨0, some ⟨w.heap.size, 0, none⟩, n, n⟩
         refine ⟨_, _, h, .value _, .slice (some ⟨w.heap.size, 0, none⟩) n n, _, e1.push ⟨0, some ⟨w.heap.size, 0, none⟩, n, n⟩, _, ?_, .inl rfl, x1.trans ⟨hle2, ExtM.push m1 _, fun _ => ⟨[_], rfl⟩⟩, .own (i := ⟨0, some ⟨w.heap.size, 0, none⟩, n, n⟩) ?_, h1.push (.own r2), g3⟩
         ·have es : (sizeOf E).run P w = .ok inf.size w := by simp [sizeOf, typeInfo, hinf]
          have hno : ¬ n * inf.size > 2 ^ 24 := by omega
          have hfill : Instr.fill (fun i => some (i * inf.size, inf.size)) ((Array.range (n * inf.size)).map (fun x => (zv.cells)[x % zv.cells.size]!)) ((parts.map fun (i, x) => (i, ev flv x)).toList) = some us.toArray := by
           have ea : (Array.range (n * inf.size)).map (fun x => (zv.cells)[x % zv.cells.size]!) = ((List.range (n * inf.size)).map fun i => zv.cells.toList.getD (i % zv.cells.toList.length) default).toArray := by
            apply Array.ext'
            simp only [Array.toList_map, Array.toList_range, Array.length_toList]
            refine List.map_congr_left fun i _ => ?_
            simp [getElem!_def, List.getD_eq_getElem?_getD]
            cases zv.cells[i % zv.cells.size]? <;> rfl
           rw [ea, ← f2]; simp
          by_cases h0 : n * inf.size = 0
          ·have en : n = 0 := by
            rcases Nat.mul_eq_zero.1 h0 with h0 | h0
            ·exact h0
            ·omega
           subst en
           simp only [Nat.zero_mul] at hfill
           have hf0 : Instr.fill (fun i => some (i * inf.size, inf.size)) ((Array.range 0).map (fun x => (#[] : Array Value)[x % (#[] : Array Value).size]!)) ((parts.map fun (i, x) => (i, ev flv x)).toList) = some us.toArray := by
            have ez : ∀ f : Nat → Value, (Array.range 0).map f = #[] := fun f => by simp
            rw [ez] at hfill ⊢; exact hfill
           simp only [execOp, ho, Instr.buildSlice, Sem.run_bind, run_underlying hu, es, Result.andThen_ok, Nat.zero_mul, Nat.not_lt_zero, gt_iff_lt, if_false, if_true, Sem.run_pure]
           rw [hf0]
           simp only [Sem.run_bind, g1, Result.andThen_ok, Sem.run_pure]
          ·simp only [execOp, ho, Instr.buildSlice, Sem.run_bind, run_underlying hu, es, Result.andThen_ok, hno, if_false, h0, z2, Sem.run_pure]
           rw [hfill]
           simp only [Sem.run_bind, g1, Result.andThen_ok, Sem.run_pure]
         ·show at' (_ :: e1.bs) m1.σ.length = _
          rw [h1.lb]; exact at_new
       ·cases h
      ·cases h
     ·cases h
   ·cases h
  ·cases h
 ·cases h
def isOO (P : Program) (o : Oper) : Bool := match o.op with
 | .makeSlice t _ _ => (match P.underlying t with
  | some (.slice E) => (match tcOf P 9 E with
   | some (.sl .bool) => true
   | _ => false)
  | _ => false)
 | _ => false
def makeOX (P : Program) (m : KM) (fl : SFL) (o : Oper) (k : SV → KM → Option ρ) : Option ρ := match o.op with
 | .makeSlice t l c => match i64S m.σ fl l, P.underlying t with
  | some n, some (.slice E) => bif sameO l c then match P.underlying E with
   | some (.slice E2) => match elemZ P t (.sl .bool), zeroC P E with
    | some E', some [.raw v] => bif Nat.beq E E' && isNil v then (mkC n ([] : List Bool)).bind fun xss => k (.own m.σ.length) ⟨.oo .bool E E2 xss none :: m.σ, m.lg⟩ else none
    | _, _ => none
   | _ => none
   else none
  | _, _ => none
 | _ => none
theorem nils_st {T : Ty Bool} {E2 : TypeId} (hS : St h L w) : ∀ n : Nat, St h (List.replicate n (ownS T E2 none 0 []) ++ L) w
 | 0 => hS
 | n + 1 => (nils_st hS n).ownNil T E2
theorem makeOX_ok {m : KM} (h1 : Mem e m.σ As) (h2 : St e.z (As ++ L0) w) (k : FLIs e fl flv) {o : Oper} {K : SV → KM → Option ρ} {r : ρ} (h : makeOX P m fl o K = some r) : ∃ s m', K s m' = some r ∧ Out P e As L0 flv o w m s m' := by
 unfold makeOX at h
 split at h
 ·rename_i t l c ho
  split at h
  ·rename_i n E hn hu
   cases hb : sameO l c with
   | false => rw [hb] at h; cases h
   | true =>
    rw [hb] at h
    simp only [zT] at h
    have en := i64S_is h1 k hn
    have ec : ev flv c = ev flv l := by
     unfold sameO at hb
     split at hb
     ·rename_i a b
      have := zN hb
      subst this; rfl
     ·cases hb
    split at h
    ·rename_i E2 hu2
     split at h
     ·rename_i E' v hE' hz
      cases hbE : (Nat.beq E E' && isNil v) with
      | false => rw [hbE] at h; cases h
      | true =>
       rw [hbE] at h
       obtain ⟨hb1, hb2⟩ := Bool.and_eq_true_iff.1 hbE
       have := zN hb1
       subst this
       have hv := isNil_eq hb2
       subst hv
       obtain ⟨xss, g1, g2⟩ := bind_some h
       obtain ⟨zv, hE, hz2⟩ := elemZ_ok hE'
       rw [hz] at hz2
       have hcells : zv.cells.toList = [.slice none 0 0] := by
        have hz3 : [SV.raw (.slice none 0 0)] = zv.cells.toList.map liftC := Option.some.inj hz2
        cases hl : zv.cells.toList with
        | nil => rw [hl] at hz3; cases hz3
        | cons c0 r0 =>
         rw [hl] at hz3
         simp only [List.map_cons, List.cons.injEq] at hz3
         cases r0 with
         | nil =>
          have h3 := hz3.1
          have hc0 : c0 = .slice none 0 0 := by
           cases c0 <;> first | (injection h3 with h4; exact h4.symm) | cases h3
          rw [hc0]
         | cons c1 r1 => cases hz3.2
       have hmk : mkC n (Value.slice none 0 0) = some (List.replicate xss.length (Value.slice none 0 0)) := by
        unfold mkC at g1 ⊢
        split at g1
        ·rename_i hc
         rw [if_pos hc]
         simp only [zI] at g1
         rw [← g1, List.length_replicate]
        ·cases g1
       have hrepl : xss = List.replicate xss.length [] := by
        unfold mkC at g1
        split at g1
        ·simp only [zI] at g1
         rw [← g1, List.length_replicate]
        ·cases g1
       obtain ⟨o', w', k1, k2⟩ := st_makeT (P := P) (T := tyV) (E := E) (n := n) (x0 := Value.slice none 0 0) hE (by show bytN (.sl .bool) ≤ 128; decide) h2 (by rw [hcells]; exact ⟨rfl, rfl⟩) hmk
       rw [List.length_replicate] at k1 k2
       let rs : List (Option (Rw Bool)) := List.replicate xss.length (some ⟨none, 0, []⟩)
       have hmap : rs.map (Go.Sx.rowAt TC.bool.ty E2) = List.replicate xss.length (ownS TC.bool.ty E2 none 0 []) := by
        show (List.replicate xss.length _).map _ = _
        rw [List.map_replicate]; rfl
       have hvr : VR (List.replicate xss.length (Value.slice none 0 0)) rs := ⟨by simp [rs], fun i q hq => by
        have hq' : (List.replicate xss.length (some (⟨none, 0, []⟩ : Rw Bool)))[i]? = some (some q) := hq
        rw [List.getElem?_replicate] at hq'
        split at hq'
        ·rename_i hlt
         cases hq'
         rw [List.getElem?_replicate, if_pos hlt]; rfl
        ·cases hq'⟩
       have k3 := nils_st (T := TC.bool.ty) (E2 := E2) k2 xss.length
       rw [← hmap] at k3
       have k4 : St e.z ((ownS tyV E (some o') xss.length (List.replicate xss.length (Value.slice none 0 0)) :: rs.map (Go.Sx.rowAt TC.bool.ty E2)) ++ (As ++ L0)) w' := k3.perm (by
        rw [List.cons_append]; exact List.perm_middle)
       have k5 := Go.Sx.St.ooClose hvr k4
       have hri : RowsIs none xss rs := by
        refine ⟨by simp [rs], fun i xs hi _ => ⟨⟨none, 0, []⟩, ?_, ?_⟩, fun i hi => by cases hi⟩
        ·have hlt := (List.getElem?_eq_some_iff.1 hi).1
         show (List.replicate xss.length _)[i]? = _
         rw [List.getElem?_replicate, if_pos hlt]
        ·rw [hrepl, List.getElem?_replicate] at hi
         split at hi
         ·cases hi; rfl
         ·cases hi
       have hle := KE.le_push e ⟨0, some o', xss.length, xss.length⟩
       refine ⟨_, _, g2, .value _, .slice (some o') xss.length xss.length, w', e.push ⟨0, some o', xss.length, xss.length⟩, _, ?_, .inl rfl, ⟨hle, ExtM.push m _, fun _ => ⟨[_], rfl⟩⟩, .own (i := ⟨0, some o', xss.length, xss.length⟩) ?_, h1.push (.oo (i := ⟨0, some o', xss.length, xss.length⟩) rfl hri), k5⟩
       ·simp [execOp, ho, en, ec, k1]
       ·show at' (_ :: e.bs) m.σ.length = _
        rw [h1.lb]; exact at_new
     ·cases h
    ·cases h
  ·cases h
 ·cases h
end Go.K
namespace Go.K
open Go.Sl Go.Sx
variable {e e' : KE} {σ : List Blk} {As L0 L : List Atom} {P : Program} {w : World} {h : Zone}
def elemB (P : Program) (t : TypeId) : Option TypeId := match P.underlying t with
 | some (.slice E) => match P.info? E, P.underlying E with
  | some i, some (.int .u8) => match i.zero with
   | some (.int .u8 0) => bif Nat.beq i.size 1 && (Nat.beq i.bytes 1 && Nat.beq (P.cellsOf E) 1) then some E else none
   | _ => none
  | _, _ => none
 | _ => none
theorem elemB_ok {t E : TypeId} (h : elemB P t = some E) : P.underlying t = some (.slice E) ∧ P.cellsOf E = 1 ∧ ∃ i, P.info? E = some i ∧ i.zero = some (.int .u8 0) ∧ i.size = 1 ∧ i.bytes = 1 := by
 unfold elemB at h
 split at h
 ·rename_i E' hu
  split at h
  ·rename_i i hi hu8
   split at h
   ·rename_i hz
    cases hb : (Nat.beq i.size 1 && (Nat.beq i.bytes 1 && Nat.beq (P.cellsOf E') 1)) with
    | false => rw [hb] at h; cases h
    | true =>
     rw [hb] at h
     cases h
     simp only [za] at hb
     exact ⟨hu, zN hb.2.2, i, hi, hz, zN hb.1, zN hb.2.1⟩
   ·cases h
  ·cases h
 ·cases h
theorem bytesI_len (s : ByteArray) : (bytesI s).length = s.size := by
 simp [bytesI]
theorem bytesI_cells (s : ByteArray) : (bytesI s).map (Value.int .u8) = Lib.strCells s := by
 simp [bytesI, Lib.strCells, List.map_map]
abbrev tyB : Ty Int := tyInt .u8
theorem run_append_str {t u ty E : TypeId} {o : Option Addr} {cap j : Nat} {xs : List Int} (hE : elemB P t = some E) (hu : P.underlying u = some .string) (hS : St h L w) (hj : L[j]? = some (ownS tyB E o cap xs)) (s : ByteArray) (hlen : xs.length + s.size ≤ 17592186044416) :
  ∃ o' cap' w', (Builtin.append_ #[t, u] ty #[.slice o xs.length cap, .string s]).run P w = .ok (.slice o' (xs ++ bytesI s).length cap') w' ∧ St h (L.set j (ownS tyB E o' cap' (xs ++ bytesI s))) w' := by
 obtain ⟨ht, _, i, hi, hz, hs1, hb1⟩ := elemB_ok hE
 obtain ⟨x, hx, hxw, dx, hset⟩ := hS.focus hj
 have hx' : OwnP tyB E o cap xs h x := hx
 have hrows : ∀ {cs : List Value}, Sx.Rows tyB h cs (xs ++ bytesI s) ↔ cs = (xs ++ bytesI s).map (Value.int .u8) := rows_k
 have hl : (xs ++ bytesI s).length = xs.length + s.size := by rw [List.length_append, bytesI_len]
 have hcells : (xs ++ bytesI s).map (Value.int .u8) = xs.map (Value.int .u8) ++ Lib.strCells s := by rw [List.map_append, bytesI_cells]
 have h63 : xs.length + s.size ≤ maxLen := by simp only [maxLen]; omega
 rcases hx' with ⟨rfl, rfl, rfl, hxn⟩ | ⟨g, cur, rfl, rfl, h1, h2, h3, h4⟩
 ·obtain ⟨v', w', hrun, hown, hgr, hnil⟩ := Lib.run_append_own_string (P := P) w w.heap.size t u ty E i ht hu hi hz hs1 hb1 (.slice none 0 0) 0 [] (World.ownsRow_nil w _ E 1) s (by simpa using h63) (by simp at hlen; omega) (Nat.le_refl _)
  obtain ⟨hlen', hv⟩ := hown
  rcases hv with ⟨hv, h0⟩ | ⟨g, cap', cur, hv, hbg, hg, hnc, hcm, hcs, htake⟩
  ·have hb : bytesI s = [] := List.eq_nil_of_length_eq_zero (by rw [bytesI_len]; omega)
   refine ⟨none, 0, w', ?_, ?_⟩
   ·rw [hb]; simp only [List.append_nil, zL]; rw [hrun, hv]
   ·rw [hb]
    exact hset w' (ownS tyB E none 0 []) Hp.nil (.inl ⟨rfl, rfl, rfl, rfl⟩) (Hp.nil_le _) (fun b hb hn => hgr.block b hb fun e => by simp [Value.ownBlock] at e) (fun b o e => by simp [Hp.nil] at e) hgr.os hgr.tape hgr.output
  ·refine ⟨some ⟨g, 0, none⟩, cap', w', by rw [hl]; simp only [zL]; rw [hrun, hv], ?_⟩
   refine hset w' (ownS tyB E (some ⟨g, 0, none⟩) cap' ([] ++ bytesI s)) (Hp.one g (.cells cur E (0, 0))) (.inr ⟨g, cur, rfl, rfl, by rw [hl]; simpa using hnc, hcm, hcs, ?_⟩) (Hp.one_le.2 hg) (fun b hb hn => hgr.block b hb fun e => by simp [Value.ownBlock] at e) (fun b o' e => ?_) hgr.os hgr.tape hgr.output
   ·rw [hl]
    show Sx.Rows tyB h (cur.toList.take ((([] : List Int).length + s.size) * 1)) _
    rw [hrows, hcells]; simp only [zL]; rw [htake]; rfl
   ·unfold Hp.one at e
    split at e
    ·rename_i hbg'
     subst hbg'
     exact .inl hbg
    ·cases e
 ·have hg0 : w.heap[g]? = some (.cells cur E (0, 0)) := Hp.one_le.1 hxw
  have hcur : cur.toList.take (xs.length * 1) = xs.map (Value.int .u8) := rows_k.1 h4
  have hown0 : w.ownsRow 0 E 1 (.slice (some ⟨g, 0, none⟩) xs.length cap) xs.length (xs.map (Value.int .u8)) :=
   ⟨by simp, .inr ⟨g, cap, cur, rfl, Nat.zero_le _, hg0, h1, h2, h3, hcur⟩⟩
  obtain ⟨v', w', hrun, hown, hgr, hnil⟩ := Lib.run_append_own_string (P := P) w 0 t u ty E i ht hu hi hz hs1 hb1 _ xs.length _ hown0 s h63 (by omega) (Nat.zero_le _)
  have hat : v'.ownBlock = some g ∨ v'.ownBlock = some w.heap.size := by
   by_cases hroom : xs.length + s.size ≤ cap
   ·have h3' : cur.size = cap * 1 := h3
    have hr := Lib.run_append_room_string (P := P) w t u ty E i ht hu hi hs1 g xs.length cap cur hg0 s hroom (by omega)
    rw [hr] at hrun
    cases hrun
    exact .inl rfl
   ·have hr := Lib.run_append_grow_string (P := P) w t u ty E i (.int .u8 0) ht hu hi hz ⟨g, 0, none⟩ xs.length cap (xs.map (Value.int .u8)) (by rw [hs1]; simp) (hown0.cells (g := g) rfl) s (by omega) (by omega) (by rw [hb1]; exact growslice_fits (by omega) (by omega))
    rw [hr] at hrun
    cases hrun
    exact .inr rfl
  obtain ⟨hlen', hv⟩ := hown
  have hnn : v' ≠ .slice none 0 0 := fun e => by have := (hnil.1 e).1; cases this
  rcases hv with ⟨hv, h0⟩ | ⟨g', cap', cur', hv, hbg, hg, hnc, hcm, hcs, htake⟩
  ·exact absurd hv hnn
  ·refine ⟨some ⟨g', 0, none⟩, cap', w', by rw [hl, hrun, hv], ?_⟩
   refine hset w' (ownS tyB E (some ⟨g', 0, none⟩) cap' (xs ++ bytesI s)) (Hp.one g' (.cells cur' E (0, 0))) (.inr ⟨g', cur', rfl, rfl, by rw [hl]; exact hnc, hcm, hcs, ?_⟩) (Hp.one_le.2 hg) (fun b hb hn => hgr.block b hb fun e => ?_) (fun b o' e => ?_) hgr.os hgr.tape hgr.output
   ·rw [hl]
    show Sx.Rows tyB h (cur'.toList.take ((xs.length + s.size) * 1)) _
    rw [hrows, hcells, htake]
   ·simp only [Value.ownBlock, zI] at e
    subst e
    simp [Hp.one] at hn
   ·unfold Hp.one at e
    split at e
    ·rename_i hbg'
     subst hbg'
     rw [hv] at hat
     rcases hat with e1 | e1
     ·right
      simp only [Value.ownBlock, zI] at e1
      subst e1
      simp [Hp.one]
     ·left
      simp only [Value.ownBlock, zI] at e1
      omega
    ·cases e
theorem run_loadBytesI : ∀ (l : List Int) (a : Addr) (acc : ByteArray), (∀ j x, l[j]? = some x → w.cell? (a.add j) = some (.int .u8 x)) →
  (loadBytes a acc l.length).run P w = .ok (l.foldl (fun r n => r.push (UInt8.ofNat n.toNat)) acc) w
 | [], a, acc, _ => by simp [loadBytes]
 | x :: l, a, acc, h => by
  have h0 : w.cell? a = some (.int .u8 x) := by
   have := h 0 x rfl
   simpa [Addr.add] using this
  have ih := run_loadBytesI l (a.add 1) (acc.push (x.toNat.toUInt8)) (fun j y hy => by
   have := h (j + 1) y (by simpa using hy)
   rw [add_add, Nat.add_comm]; exact this)
  simp only [zC, loadBytes, Sem.run_bind, run_load, h0, Result.andThen]
  rw [ih]
  rfl
theorem run_unsafeStringI (pt it ty e : TypeId) (hp : P.underlying pt = some (.pointer e)) (hc : P.cellsOf e = 1) (g cells : Nat) (hsh : w.shape? g = some (e, cells)) (l : List Int) (h0 : l ≠ []) (hn : l.length ≤ cells) (h63 : l.length ≤ 9223372036854775807)
  (hcell : ∀ j x, l[j]? = some x → w.cell? ((⟨g, 0, none⟩ : Addr).add j) = some (.int .u8 x)) :
  (Builtin.unsafeString_ #[pt, it] ty #[.pointer (some ⟨g, 0, none⟩), .int .i64 l.length]).run P w = .ok (.string (strI l)) (w.freeze ⟨g, 0, none⟩ l.length) := by
 have hl : l.length ≠ 0 := by simpa using h0
 have hlb := run_loadBytesI (P := P) (w := w) l ⟨g, 0, none⟩ .empty hcell
 have hlies := Lib.liesAt_bytes (P := P) hc (cells / P.cellsOf e) l.length (by rw [hc]; simpa using hn)
 have h63' : ¬ (9223372036854775807 : Int) < (l.length : Int) := by omega
 have hdef : Builtin.unsafeString_ #[pt, it] ty #[.pointer (some ⟨g, 0, none⟩), .int .i64 l.length] =
   (do
    let n ← asInt (.int .i64 l.length)
    if n < 0 then runtimePanic (.error "unsafe.String: len out of range")
    if n > IntKind.i64.max then unsupported (.unsafePointer "String: a length above the largest int")
    if n = 0 then pure (.string .empty)
    else if ← variablesAt ⟨g, 0, none⟩ (← elemOf pt) n.toNat then do
     let s ← loadBytes ⟨g, 0, none⟩ .empty n.toNat
     freeze ⟨g, 0, none⟩ n.toNat
     pure (.string s)
    else unsupported (.unsafePointer "String: not so many bytes at ptr")) := rfl
 rw [hdef]
 have hmax : IntKind.i64.max = 9223372036854775807 := rfl
 have hneg : ¬ (l.length : Int) < 0 := by omega
 simp [asInt, asIntOf, hmax, h63', hneg, hl, variablesAt, hsh, elemOf, run_underlying hp, hlies, hlb, strI]
theorem cell_heap {g k : Nat} {cur : Array Value} {E : TypeId} {f : Nat × Nat} (hg : w.heap[g]? = some (.cells cur E f)) : w.cell? ⟨g, k, none⟩ = cur[k]? := by
 simp [World.cell?, hg]
theorem st_unsafe {pt it ty E : TypeId} {o : Option Addr} {cap j : Nat} {xs : List Int} (hp : P.underlying pt = some (.pointer E)) (hc : P.cellsOf E = 1) (hS : St h L w) (hj : L[j]? = some (ownS tyB E o cap xs)) {a : Addr} (ho : o = some a) (h0 : xs ≠ []) :
  ∃ w', (Builtin.unsafeString_ #[pt, it] ty #[.pointer (some a), .int .i64 xs.length]).run P w = .ok (.string (strI xs)) w' ∧ St h (L.set j emp) w' := by
 obtain ⟨x, hx, hxw, dx, hset⟩ := hS.focus hj
 have hx' : OwnP tyB E o cap xs h x := hx
 rcases hx' with ⟨rfl, rfl, rfl, _⟩ | ⟨g, cur, rfl, rfl, h1, h2, h3, h4⟩
 ·exact absurd rfl h0
 ·cases ho
  have hg0 : w.heap[g]? = some (.cells cur E (0, 0)) := Hp.one_le.1 hxw
  have hcur : cur.toList.take (xs.length * 1) = xs.map (Value.int .u8) := rows_k.1 h4
  have h3' : cur.size = cap * 1 := h3
  have hrun := run_unsafeStringI (P := P) (w := w) pt it ty E hp hc g cur.size (by simp [World.shape?, hg0]) xs h0 (by omega) (by simp only [maxLen] at h2; omega) (fun k v hk => by
   rw [add_of, cell_heap hg0]
   have h5 : (cur.toList.take (xs.length * 1))[k]? = some (.int .u8 v) := by rw [hcur, List.getElem?_map, hk]; rfl
   rw [List.getElem?_take] at h5
   split at h5
   ·simpa using h5
   ·cases h5)
  refine ⟨_, hrun, ?_⟩
  have hfz : ∀ b, b ≠ g → (w.freeze ⟨g, 0, none⟩ xs.length).heap[b]? = w.heap[b]? := fun b hb => by
   unfold World.freeze
   split
   ·rfl
   ·simp only [Array.getElem?_modify]
    rw [if_neg (by simpa using fun e => hb e.symm)]
  have hos : (w.freeze ⟨g, 0, none⟩ xs.length).os = w.os ∧ (w.freeze ⟨g, 0, none⟩ xs.length).tape = w.tape ∧ (w.freeze ⟨g, 0, none⟩ xs.length).output = w.output := by
   unfold World.freeze; split <;> exact ⟨rfl, rfl, rfl⟩
  exact hset _ emp Hp.nil rfl (Hp.nil_le _) (fun b hb hn => hfz b fun e => by subst e; simp [Hp.one] at hn) (fun b o' e => by simp [Hp.nil] at e) hos.1 hos.2.1 hos.2.2
end Go.K
namespace Go.K
open Go.Sl Go.Sx
variable {e e' : KE} {σ : List Blk} {As L0 L : List Atom} {P : Program} {w : World} {N : Nat} {fl : SFL} {flv : FL} {ρ : Type} {h : Zone}
def isTxt (P : Program) (o : Oper) : Bool := match o.op with
 | .call { argTypes := ⟨[_, t']⟩, .. } => (match P.underlying t' with
  | some .string => true
  | _ => false)
 | _ => false
def appTX (P : Program) (m : KM) (fl : SFL) (o : Oper) (k : SV → KM → Option ρ) : Option ρ := match o.op with
 | .call { callee := .builtin .append, args := ⟨[s, x]⟩, argTypes := ⟨[t, t']⟩ } => match P.underlying t', elemB P t, strS m.σ fl x with
  | some .string, some E', some b => match evS m.σ fl s with
   | some (.own id) => match at' m.σ id with
    | some (.own (.int .u8) E xs) => bif Nat.beq E E' then (appC (b := bytI) xs (bytesI b)).bind fun zs => k (.own m.σ.length) ⟨.own (.int .u8) E zs :: setAt m.σ id .gone, (id, 0) :: m.lg⟩ else none
    | _ => none
   | some (.raw v) => bif isNil v then (appC (b := bytI) [] (bytesI b)).bind fun zs => k (.own m.σ.length) ⟨.own (.int .u8) E' zs :: m.σ, m.lg⟩ else none
   | _ => none
  | _, _, _ => none
 | _ => none
theorem appT_run {o : Oper} {s x : Operand} {t t' : TypeId} {a b v : Value} {w' : World} (ho : o.op = .call { callee := .builtin .append, args := ⟨[s, x]⟩, argTypes := ⟨[t, t']⟩ }) (h1 : ev flv s = a) (h2 : ev flv x = b)
  (hr : (Builtin.append_ #[t, t'] o.type #[a, b]).run P w = .ok v w') : (execOp (ev flv) o).run P w = .ok (.value v) w' := by
 subst h1 h2
 simp [execOp, ho, resolve, invoke, builtin, hr]
theorem appTX_ok {m : KM} (h1 : Mem e m.σ As) (h2 : St e.z (As ++ L0) w) (k : FLIs e fl flv) {o : Oper} {K : SV → KM → Option ρ} {r : ρ} (h : appTX P m fl o K = some r) : ∃ s m', K s m' = some r ∧ Out P e As L0 flv o w m s m' := by
 unfold appTX at h
 split at h
 ·rename_i s x t t' ho
  split at h
  ·rename_i E' b hu hE' hb
   have hx := strS_is h1 k hb
   split at h
   ·rename_i id hs
    split at h
    ·rename_i E xs hB
     cases hbE : Nat.beq E E' with
     | false => rw [hbE] at h; cases h
     | true =>
      rw [hbE] at h
      have := zN hbE
      subst this
      obtain ⟨zs, g1, g2⟩ := bind_some h
      obtain ⟨hlen, rfl⟩ := appC_spec g1
      rw [bytesI_len] at hlen
      replace hlen : xs.length + b.size ≤ 17592186044416 := by have e : (Inhabited.default : Byt Int).n = 8 := rfl; rw [e] at hlen; omega
      obtain ⟨h0, _⟩ := evS_is h1 k hs
      generalize hgv : ev flv s = gv at h0
      obtain ⟨i, m1, m2, m3⟩ := h1.len hB
      cases h0 with
      | own hi =>
       rw [hi] at m1; cases m1
       obtain ⟨o', cap', w', k1, k2⟩ := run_append_str (ty := o.type) hE' hu h2 (Mem.atom m3) b hlen
       have hfr := st_front k2 (by have := at_lt m3; simp; omega)
       rw [setAt_app (at_lt m3)] at hfr
       rw [← m2] at hgv
       have hle := KE.le_push e ⟨0, o', (xs ++ bytesI b).length, cap'⟩
       refine ⟨_, _, g2, .value _, _, w', e.push ⟨0, o', (xs ++ bytesI b).length, cap'⟩, _, appT_run ho hgv hx k1, .inl rfl, ⟨hle, (ExtM.set hB (fun T cs hh => by cases hh)).trans (ExtM.push _ _), fun hh => absurd hh (by simp)⟩, .own (i := ⟨0, o', (xs ++ bytesI b).length, cap'⟩) ?_, (h1.set hi .gone).push (.own (t := .int .u8) (E := E) rfl), hfr⟩
       show at' (_ :: e.bs) m.σ.length = _
       rw [h1.lb]; exact at_new
    ·cases h
   ·rename_i v hs
    cases hn : isNil v with
    | false => rw [hn] at h; cases h
    | true =>
     rw [hn] at h
     simp only [zT] at h
     have hv := isNil_eq hn
     subst hv
     obtain ⟨zs, g1, g2⟩ := bind_some h
     obtain ⟨hlen, rfl⟩ := appC_spec g1
     rw [bytesI_len] at hlen
     replace hlen : ([] : List Int).length + b.size ≤ 17592186044416 := by have e : (Inhabited.default : Byt Int).n = 8 := rfl; rw [e] at hlen; omega
     obtain ⟨h0, _⟩ := evS_is h1 k hs
     generalize hgv : ev flv s = gv at h0
     cases h0
     obtain ⟨o', cap', w', k1, k2⟩ := run_append_str (ty := o.type) (xs := []) hE' hu (h2.ownNil tyB E') (j := 0) rfl b hlen
     have hle := KE.le_push e ⟨0, o', (([] : List Int) ++ bytesI b).length, cap'⟩
     refine ⟨_, _, g2, .value _, _, w', e.push ⟨0, o', (([] : List Int) ++ bytesI b).length, cap'⟩, _, appT_run ho hgv hx k1, .inl rfl, ⟨hle, ExtM.push m _, fun _ => ⟨[_], rfl⟩⟩, .own (i := ⟨0, o', (([] : List Int) ++ bytesI b).length, cap'⟩) ?_, h1.push (.own (t := .int .u8) (E := E') rfl), k2⟩
     show at' (_ :: e.bs) m.σ.length = _
     rw [h1.lb]; exact at_new
   ·cases h
  ·cases h
 ·cases h
def lenC {α : Type} (n : Int) (xs : List α) : Option Unit := if n = xs.length then some () else none
theorem lenC_spec {α : Type} {n : Int} {xs : List α} {u : Unit} (h : lenC n xs = some u) : n = xs.length := by
 unfold lenC at h; split at h
 ·assumption
 ·cases h
def emp0 {α : Type} : List α → Bool
 | [] => true
 | _ :: _ => false
theorem emp0_eq {α : Type} {xs : List α} (h : emp0 xs = true) : xs = [] := by
 cases xs with
 | nil => rfl
 | cons x xs => cases h
def unsX (P : Program) (m : KM) (fl : SFL) (o : Oper) (k : SV → KM → Option ρ) : Option ρ := match o.op with
 | .call { callee := .builtin .unsafeSliceData, args := ⟨[x]⟩, argTypes := ⟨[_]⟩ } => match evS m.σ fl x with
  | some (.own id) => match at' m.σ id with
   | some (.own (.int .u8) _ xs) => match P.underlying o.type with
    | some (.pointer _) => cond (emp0 xs) (k (.nilp m.σ.length 0) ⟨.gone :: m.σ, m.lg⟩) ((getI xs 0).bind fun _ => k (.oel id (.int .u8) 0 0) m)
    | _ => none
   | _ => none
  | some (.raw v) => bif isNil v then k (.raw (.pointer none)) m else none
  | _ => none
 | .call { callee := .builtin .unsafeString, args := ⟨[x, y]⟩, argTypes := ⟨[t, _]⟩ } => match evS m.σ fl x, i64S m.σ fl y with
  | some (.oel id (.int .u8) (.ofNat 0) 0), some n => match at' m.σ id, P.underlying t with
   | some (.own (.int .u8) E xs), some (.pointer E') => bif Nat.beq E E' && Nat.beq (P.cellsOf E) 1 then (getI xs 0).bind fun _ => (lenC n xs).bind fun _ => k (.str (strI xs)) ⟨setAt m.σ id .gone, (id, 0) :: m.lg⟩ else none
   | _, _ => none
  | some (.raw v), some n => bif isNilP v then (lenC n ([] : List Int)).bind fun _ => k (.str ByteArray.empty) m else none
  | some (.nilp _ _), some n => (lenC n ([] : List Int)).bind fun _ => k (.str ByteArray.empty) m
  | _, _ => none
 | _ => none
theorem ownP_cap {xs : List Int} {E : TypeId} {cap j : Nat} {a : Addr} {L : List Atom} (hS : St h L w) (hj : L[j]? = some (ownS tyB E (some a) cap xs)) : xs.length ≤ cap := by
 obtain ⟨x, hx, hxw, dx, hset⟩ := hS.focus hj
 have hx' : OwnP tyB E (some a) cap xs h x := hx
 rcases hx' with ⟨h, _⟩ | ⟨g, cur, _, rfl, h1, _⟩
 ·cases h
 ·exact h1
theorem st_emp {A : Atom} {j : Nat} (hS : St h L w) (hj : L[j]? = some A) : St h (emp :: L) w := by
 have := hS.split (i := j) (A := A) (B := emp) (C := A) hj fun z hz => ⟨Hp.nil, z, rfl, hz, Hp.apart_comm (Hp.apart_nil _), rfl⟩
 have e : L.set j A = L := by
  apply List.ext_getElem?
  intro n
  rw [List.getElem?_set]
  split
  ·rename_i hn; subst hn; rw [hj]; simp [(List.getElem?_eq_some_iff.1 hj).1]
  ·rfl
 rwa [e] at this
theorem unsX_ok {m : KM} (h1 : Mem e m.σ As) (h2 : St e.z (As ++ L0) w) (k : FLIs e fl flv) {o : Oper} {K : SV → KM → Option ρ} {r : ρ} (h : unsX P m fl o K = some r) : ∃ s m', K s m' = some r ∧ Out P e As L0 flv o w m s m' := by
 unfold unsX at h
 split at h
 ·rename_i x t ho
  split at h
  ·rename_i id hs
   split at h
   ·rename_i E xs hB
    split at h
    ·rename_i ep hu
     cases hem : emp0 xs with
     | true =>
      rw [hem] at h
      simp only [zT] at h
      have := emp0_eq hem
      subst this
      obtain ⟨h0, _⟩ := evS_is h1 k hs
      generalize hgv : ev flv x = gv at h0
      obtain ⟨i, m1, m2, m3⟩ := h1.len hB
      cases h0 with
      | own hi =>
       rw [hi] at m1; cases m1
       obtain ⟨z, hz, hzw, dz, hset⟩ := h2.focus (Mem.atom m3)
       have hz' : OwnP tyB E i.o i.c [] e.z z := hz
       rcases hz' with ⟨e1, e2, _, _⟩ | ⟨g, cur, e1, rfl, e3, e4, e5, e6⟩
       ·rw [e1] at hgv
        have hle := KE.le_push e ⟨0, none, 0, 0⟩
        refine ⟨_, _, h, .value (.pointer none), _, w, e.push ⟨0, none, 0, 0⟩, emp :: As, ?_, .inl rfl, ⟨hle, ExtM.push m _, fun _ => ⟨[_], rfl⟩⟩, .nil0 (i := ⟨0, none, 0, 0⟩) (by show at' (_ :: e.bs) m.σ.length = _; rw [h1.lb]; exact at_new), h1.push .gone, st_emp h2 (Mem.atom m3)⟩
        have hr := Lib.run_unsafeSliceData_nil (P := P) w #[t] o.type i.n i.c
        simp [execOp, ho, resolve, invoke, builtin, hgv, hr]
       ·rw [e1] at hgv
        by_cases hc : i.c = 0
        ·have hg0 : w.heap[g]? = some (.cells cur E (0, 0)) := Hp.one_le.1 hzw
         rw [hc] at hgv
         have hle := KE.le_push e ⟨w.heap.size, none, 0, 0⟩
         refine ⟨_, _, h, .value (.pointer (some ⟨w.heap.size, 0, none⟩)), _, w.alloc (.view ⟨g, 0, none⟩ ep), e.push ⟨w.heap.size, none, 0, 0⟩, ⟨fun _ _ => True, fun _ _ _ _ h => h⟩ :: As, ?_, .inl rfl, ⟨hle, ExtM.push m _, fun _ => ⟨[_], rfl⟩⟩, .nil1 (i := ⟨w.heap.size, none, 0, 0⟩) (by show at' (_ :: e.bs) m.σ.length = _; rw [h1.lb]; exact at_new), h1.push .gone, h2.new _ _ trivial⟩
         have hr := Lib.run_unsafeSliceData_zero (P := P) (w := w) #[t] o.type ep hu ⟨g, 0, none⟩ i.n (E, cur.size) (by simp [World.shape?, hg0])
         simp [execOp, ho, resolve, invoke, builtin, hgv, hr]
        ·have hle := KE.le_push e ⟨g, none, 0, 0⟩
         refine ⟨_, _, h, .value (.pointer (some ⟨g, 0, none⟩)), _, w, e.push ⟨g, none, 0, 0⟩, emp :: As, ?_, .inl rfl, ⟨hle, ExtM.push m _, fun _ => ⟨[_], rfl⟩⟩, .nil1 (i := ⟨g, none, 0, 0⟩) (by show at' (_ :: e.bs) m.σ.length = _; rw [h1.lb]; exact at_new), h1.push .gone, st_emp h2 (Mem.atom m3)⟩
         have hr := Lib.run_unsafeSliceData_row (P := P) w #[t] o.type ⟨g, 0, none⟩ i.n i.c hc
         simp [execOp, ho, resolve, invoke, builtin, hgv, hr]
     | false =>
      rw [hem] at h
      simp only [zF] at h
      obtain ⟨y, g1, g2⟩ := bind_some h
      obtain ⟨h0, _⟩ := evS_is h1 k hs
      generalize hgv : ev flv x = gv at h0
      obtain ⟨i, m1, m2, m3⟩ := h1.len hB
      cases h0 with
      | own hi =>
       rw [hi] at m1; cases m1
       obtain ⟨a, ho', _⟩ := h2.ownGet (Mem.atom m3) g1
       obtain ⟨hb, _⟩ := getI_spec g1
       have hA := Mem.atom (L0 := L0) m3
       rw [ho'] at hA
       have hcap := ownP_cap h2 hA
       rw [ho'] at hgv
       refine ⟨_, _, g2, .value _, _, w, e, As, ?_, .inl rfl, .refl, .oel (t := .int .u8) (i := 0) (off := 0) hi ho', h1, h2⟩
       have hr := Lib.run_unsafeSliceData_row (P := P) w #[t] o.type a i.n i.c (by omega)
       have ea : (a.add ((0 : Int).toNat * (TC.int IntKind.u8).size)).add 0 = a := by simp [Addr.add]
       rw [ea]
       simp [execOp, ho, resolve, invoke, builtin, hgv, hr]
    ·cases h
   ·cases h
  ·rename_i v hs
   cases hn : isNil v with
   | false => rw [hn] at h; cases h
   | true =>
    rw [hn] at h
    have hv := isNil_eq hn
    subst hv
    obtain ⟨h0, _⟩ := evS_is h1 k hs
    generalize hgv : ev flv x = gv at h0
    cases h0
    refine ⟨_, _, h, .value _, _, w, e, As, ?_, .inl rfl, .refl, .raw _, h1, h2⟩
    have hr := Lib.run_unsafeSliceData_nil (P := P) w #[t] o.type 0 0
    simp [execOp, ho, resolve, invoke, builtin, hgv, hr]
  ·cases h
 ·rename_i x y t t2 ho
  split at h
  ·rename_i id n hs hn
   split at h
   ·rename_i E xs E' hB hu
    cases hb : (Nat.beq E E' && Nat.beq (P.cellsOf E) 1) with
    | false => rw [hb] at h; cases h
    | true =>
     rw [hb] at h
     simp only [za] at hb
     have := zN hb.1
     subst this
     obtain ⟨y0, g1, g2⟩ := bind_some h
     obtain ⟨_, g3, g4⟩ := bind_some g2
     have hnl := lenC_spec g3
     obtain ⟨h0, _⟩ := evS_is h1 k hs
     have hy := i64S_is h1 k hn
     generalize hgv : ev flv x = gv at h0
     obtain ⟨i, m1, m2, m3⟩ := h1.len hB
     cases h0 with
     | oel hbi hbo =>
      rename_i bb a
      rw [hbi] at m1; cases m1
      obtain ⟨hbd, _⟩ := getI_spec g1
      obtain ⟨w', k1, k2⟩ := st_unsafe (P := P) (pt := t) (it := t2) (ty := o.type) hu (zN hb.2) h2 (Mem.atom m3) hbo (fun e => by subst e; simp at hbd)
      rw [setAt_app (at_lt m3)] at k2
      have ea : (a.add ((Int.ofNat 0).toNat * (TC.int IntKind.u8).size)).add 0 = a := by simp [Addr.add]
      rw [ea] at hgv
      subst hnl
      refine ⟨_, _, g4, .value _, _, w', e, _, ?_, .inl rfl, ⟨.rfl, ExtM.set hB (fun T cs hh => by cases hh), fun hh => absurd hh (by simp)⟩, .str _, h1.set hbi .gone, k2⟩
      simp [execOp, ho, resolve, invoke, builtin, hgv, hy, k1]
   ·cases h
  ·rename_i v n hs hn
   cases hb : isNilP v with
   | false => rw [hb] at h; cases h
   | true =>
    rw [hb] at h
    obtain ⟨_, g3, g4⟩ := bind_some h
    have hnl : n = 0 := lenC_spec g3
    have hv := isNilP_eq hb
    subst hv hnl
    obtain ⟨h0, _⟩ := evS_is h1 k hs
    have hy := i64S_is h1 k hn
    generalize hgv : ev flv x = gv at h0
    cases h0
    refine ⟨_, _, g4, .value _, _, w, e, As, ?_, .inl rfl, .refl, .str _, h1, h2⟩
    have hr := Lib.run_unsafeString_none (P := P) w t t2 o.type none
    simp [execOp, ho, resolve, invoke, builtin, hgv, hy, hr]
  ·rename_i id off n hs hn
   obtain ⟨_, g3, g4⟩ := bind_some h
   have hnl : n = 0 := lenC_spec g3
   subst hnl
   obtain ⟨h0, _⟩ := evS_is h1 k hs
   have hy := i64S_is h1 k hn
   generalize hgv : ev flv x = gv at h0
   have hp : ∃ p, gv = .pointer p := by
    cases h0 with
    | nil0 => exact ⟨_, rfl⟩
    | nil1 => exact ⟨_, rfl⟩
   obtain ⟨p, rfl⟩ := hp
   refine ⟨_, _, g4, .value _, _, w, e, As, ?_, .inl rfl, .refl, .str _, h1, h2⟩
   have hr := Lib.run_unsafeString_none (P := P) w t t2 o.type p
   simp [execOp, ho, resolve, invoke, builtin, hgv, hy, hr]
  ·cases h
 ·cases h
end Go.K
namespace Go.K
open Go.Sl Go.Sx
variable {e e' : KE} {σ : List Blk} {As L0 L : List Atom} {P : Program} {w : World} {N : Nat} {fl : SFL} {flv : FL} {ρ : Type} {h : Zone} {a : Act} {ds : List Deferred} {R : Array Oper} {mL : List Nat} {S : World → Prop} {K : Act → World → Prop}
def eop (P : Program) (m : KM) (fl : SFL) (o : Oper) (k : SV → KM → Option ρ) : Option ρ := match o.op with
 | .box .. => boxX P m fl o k
 | .alloc .. => boxX P m fl o k
 | .store .. => storeX P m fl o k
 | .makeSlice .. => bif isOO P o then makeOX P m fl o k else makeX P m fl o k
 | .buildSlice .. => buildSX P m fl o k
 | .call { callee := .builtin .append, .. } => bif isTxt P o then appTX P m fl o k else appX P m fl o k
 | .call { callee := .builtin .unsafeSliceData, .. } => unsX P m fl o k
 | .call { callee := .builtin .unsafeString, .. } => unsX P m fl o k
 | _ => none
theorem eop_ok {m : KM} (h1 : Mem e m.σ As) (h2 : St e.z (As ++ L0) w) (k : FLIs e fl flv) {o : Oper} {K : SV → KM → Option ρ} {r : ρ} (h : eop P m fl o K = some r) : ∃ s m', K s m' = some r ∧ Out P e As L0 flv o w m s m' := by
 unfold eop at h
 split at h
 ·exact boxX_ok h1 h2 k h
 ·exact boxX_ok h1 h2 k h
 ·exact storeX_ok h1 h2 k h
 ·cases hb : isOO P o with
  | true => rw [hb] at h; exact makeOX_ok h1 h2 k h
  | false => rw [hb] at h; exact makeX_ok h1 h2 k h
 ·exact buildSX_ok h1 h2 k h
 ·cases hb : isTxt P o with
  | true => rw [hb] at h; exact appTX_ok h1 h2 k h
  | false => rw [hb] at h; exact appX_ok h1 h2 k h
 ·exact unsX_ok h1 h2 k h
 ·exact unsX_ok h1 h2 k h
 ·cases h
def putS (fl : SFL) : Option Nat → SV → SFL
 | none, _ => fl
 | some d, s => (d, s) :: fl
theorem FLIs.put {s : SV} {v : Value} (k : FLIs e fl flv) (h : Is e s v) (d : Option Nat) : FLIs e (putS fl d s) (putF flv d v) := by
 cases d with
 | none => exact k
 | some d => exact ⟨rfl, h, k⟩
def FX (fl : SFL) (flv : FL) (fl' : SFL) (flv' : FL) : Prop := ∃ d dv, fl' = d ++ fl ∧ flv' = dv ++ flv ∧ d.length = dv.length
theorem FX.refl : FX fl flv fl flv := ⟨[], [], rfl, rfl, rfl⟩
theorem FX.trans {fl1 fl2 : SFL} {flv1 flv2 : FL} : FX fl flv fl1 flv1 → FX fl1 flv1 fl2 flv2 → FX fl flv fl2 flv2 := fun ⟨d, dv, h1, h2, h3⟩ ⟨d', dv', k1, k2, k3⟩ => ⟨d' ++ d, dv' ++ dv, by rw [k1, h1, List.append_assoc], by rw [k2, h2, List.append_assoc], by simp [h3, k3]⟩
theorem FX.put (d : Option Nat) (s : SV) (v : Value) : FX fl flv (putS fl d s) (putF flv d v) := by
 cases d with
 | none => exact .refl
 | some d => exact ⟨[(d, s)], [(d, v)], rfl, rfl, rfl⟩
def knS (fl : SFL) : Operand → Bool
 | .tmp t => (lookS fl t).isSome
 | _ => true
theorem knS_is (k : FLIs e fl flv) {x : Operand} (h : knS fl x = true) : knownX flv x = true := by
 cases x with
 | tmp t =>
  simp only [knS] at h
  cases hl : lookS fl t with
  | none => rw [hl] at h; cases h
  | some s => obtain ⟨v, h1, _⟩ := k.look hl; simp [knownX, h1]
 | _ => rfl
def opsOk (fl : SFL) (o : Oper) : Bool := o.op.operands.toList.all (knS fl) && noSel o
theorem opsOk_is (k : FLIs e fl flv) {o : Oper} (h : opsOk fl o = true) : known flv o = true := by
 simp only [opsOk, za, List.all_eq_true] at h
 simp only [known, za, List.all_eq_true]
 exact ⟨fun x hx => knS_is k (h.1 x hx), h.2⟩
def dstOk (N : Nat) (o : Oper) : Bool := match o.dst with | some d => Nat.blt d N | none => true
def isBoolV : Value → Bool | .bool _ => true | _ => false
def grd (R : Array Oper) (fl : SFL) (o : Oper) (run skip : SFL → Option ρ) : Option ρ := match o.guard with
 | none => run fl
 | some (j, b) => match (R[j]?).bind (·.dst) with
  | none => none
  | some d => match lookS fl d with
   | some (.bool c) => cond c (cond b (run ((d, .bool true) :: fl)) (skip ((d, .bool true) :: fl))) (cond b (skip ((d, .bool false) :: fl)) (run ((d, .bool false) :: fl)))
   | some (.raw v) => bif isBoolV v then none else skip fl
   | _ => none
theorem grd_ok (hf : Fr a N flv ds) (k : FLIs e fl flv) {o : Oper} {run skip : SFL → Option ρ} {r : ρ} (h : grd R fl o run skip = some r) :
  ∃ fl' flv', FX fl flv fl' flv' ∧ Fr a N flv' ds ∧ FLIs e fl' flv' ∧ ((wantedF R flv' o = some true ∧ run fl' = some r) ∨ (wantedF R flv' o = some false ∧ skip fl' = some r)) := by
 unfold grd at h
 unfold wantedF
 cases hg : o.guard with
 | none => rw [hg] at h; exact ⟨fl, flv, .refl, hf, k, .inl ⟨rfl, h⟩⟩
 | some g =>
  obtain ⟨j, b⟩ := g
  rw [hg] at h
  simp only at h ⊢
  cases hd : (R[j]?).bind (·.dst) with
  | none => rw [hd] at h; cases h
  | some d =>
   rw [hd] at h
   simp only at h ⊢
   split at h
   ·rename_i c hl
    obtain ⟨v, h1, h2⟩ := k.look hl
    cases h2
    have hfx : FX fl flv ((d, .bool c) :: fl) ((d, .bool c) :: flv) := FX.put (some d) (.bool c) (.bool c)
    have hfr : Fr a N ((d, .bool c) :: flv) ds := ⟨hf.size, hf.defers, fun t u hh => by
     simp only [Sx.look] at hh
     cases hb : Nat.beq d t with
     | true => rw [hb] at hh; have := zN hb; subst this; cases hh; exact hf.look _ _ h1
     | false => rw [hb] at hh; exact hf.look _ _ hh⟩
    have hk : FLIs e ((d, .bool c) :: fl) ((d, .bool c) :: flv) := ⟨rfl, .bool c, k⟩
    have hlk : Sx.look ((d, .bool c) :: flv) d = some (.bool c) := by simp [Sx.look]
    refine ⟨_, _, hfx, hfr, hk, ?_⟩
    rw [hlk]
    cases c <;> cases b <;> simp only [zT, zF] at h <;> first | exact .inl ⟨rfl, h⟩ | exact .inr ⟨rfl, h⟩
   ·rename_i v hl
    obtain ⟨u, h1, h2⟩ := k.look hl
    cases hb : isBoolV v with
    | true => rw [hb] at h; cases h
    | false =>
     rw [hb] at h
     cases h2
     refine ⟨fl, flv, .refl, hf, k, .inr ⟨?_, h⟩⟩
     rw [h1]
     cases v <;> first | rfl | simp [isBoolV] at hb
   ·cases h
end Go.K
namespace Go.K
open Go.Sl Go.Sx
variable {e e' : KE} {σ : List Blk} {As L0 L : List Atom} {P : Program} {w : World} {N : Nat} {fl : SFL} {flv : FL} {ρ : Type} {h : Zone} {a : Act} {ds : List Deferred} {R : Array Oper} {mL : List Nat} {S : World → Prop} {K : Act → World → Prop}
inductive CR where
 | val (s : SV) | pan (s : SV)
abbrev CallF (ρ : Type) := FuncId → List SV → KM → (CR → KM → Option ρ) → Option ρ
abbrev pch (v : Value) : List PanicEntry := [{ v := v, recovered := false }]
def CallEnd (e : KE) : CR → Ending → Prop
 | .val s, en => ∃ v, en = .returned v ∧ Is e s v
 | .pan s, en => ∃ v, en = .panicked (pch v) ∧ Is e s v
def CallR {ρ : Type} (L0 : List Atom) (e : KE) (As : List Atom) (m : KM) (k : CR → KM → Option ρ) (r : ρ) (en : Ending) (w' : World) : Prop :=
 ∃ c m' e' As', k c m' = some r ∧ CallEnd e' c en ∧ Go1 e As m e' As' m' ∧ Mem e' m'.σ As' ∧ St e'.z (As' ++ L0) w'
def CallOk (P : Program) (L0 : List Atom) (call : CallF ρ) : Prop := ∀ {g : FuncId} {args : List SV} {vs : List Value} {m : KM} {e : KE} {As : List Atom} {w : World} {k : CR → KM → Option ρ} {r : ρ},
 call g args m k = some r → Mem e m.σ As → St e.z (As ++ L0) w → IsL e args vs → Calls P g vs.toArray w (CallR L0 e As m k r)
def callOK (P : Program) (g : FuncId) : Bool := match P.funcs[g]? with
 | some fn => !(fn.name == "runtime.NumGoroutine") && fn.body.isSome
 | none => false
def callOp (P : Program) (σ : List Blk) (fl : SFL) (o : Oper) : Option (FuncId × List SV) := match o.op with
 | .call { callee := .value f, args, .. } => match evS σ fl f, evL σ fl args.toList with
  | some (.fn g x c), some l => bif callOK P g then some (g, x ++ l ++ c) else none
  | _, _ => none
 | _ => none
theorem callOp_ok (m : Mem e σ As) (k : FLIs e fl flv) {o : Oper} {g : FuncId} {args : List SV} (h : callOp P σ fl o = some (g, args)) : ∃ vs, IsL e args vs ∧ (execOp (ev flv) o).run P w = .ok (.enter g vs.toArray) w := by
 unfold callOp at h
 split at h
 ·rename_i f az ts ho
  split at h
  ·rename_i g' x c l hf hl
   cases hb : callOK P g' with
   | false => rw [hb] at h; cases h
   | true =>
    rw [hb] at h
    simp only [zT, zI, Prod.mk.injEq] at h
    obtain ⟨rfl, rfl⟩ := h
    obtain ⟨h0, _⟩ := evS_is m k hf
    have hl' := evL_is m k hl
    generalize hgv : ev flv f = gv at h0
    unfold callOK at hb
    split at hb
    ·rename_i fn hfn
     simp only [za, Bool.not_eq_true'] at hb
     have hbody : fn.body.isNone = false := by cases hx : fn.body <;> simp_all
     cases h0 with
     | fn hx hc =>
      rename_i vs us
      refine ⟨_, (hx.app hl').app hc, ?_⟩
      have hargs : (vs.toArray ++ az.map (ev flv)) ++ us.toArray = (vs ++ List.map (ev flv) az.toList ++ us).toArray := by
       apply Array.ext'; simp
      have hn : ¬ fn.name = "runtime.NumGoroutine" := by simpa using hb.1
      have hnb : ¬ fn.body = none := fun e => by simp [e] at hbody
      simp [execOp, ho, resolve, hgv, Deferred.ofValue, invoke, callFunc, hfn, hn, hnb]
    ·cases hb
  ·cases h
 ·cases h
def nilCall (σ : List Blk) (fl : SFL) (o : Oper) : Bool := match o.op with
 | .call { callee := .value f, .. } => (match evS σ fl f with
  | some (.raw .nilFunc) => true
  | _ => false)
 | _ => false
def isNf (σ : List Blk) (fl : SFL) (o : Oper) : Bool := match o.op with
 | .load _ x => (match evS σ fl x with
  | some (.oel _ u _ _) => !u.flat
  | _ => false)
 | _ => false
def ldN (P : Program) (m : KM) (fl : SFL) (o : Oper) (k : SV → KM → Option ρ) : Option ρ := match o.op with
 | .load t x => match evS m.σ fl x with
  | some (.oel id u i off) => match at' m.σ id with
   | some (.own u' E xs) => if u' = u then (getI xs i).bind fun y => match ld P t (u'.exp y) off with
     | some v => k v m
     | none => none
    else none
   | _ => none
  | _ => none
 | _ => none
theorem ldN_ok {m : KM} (h1 : Mem e m.σ As) (h2 : St e.z (As ++ L0) w) (k : FLIs e fl flv) {o : Oper} {K : SV → KM → Option ρ} {r : ρ} (h : ldN P m fl o K = some r) : ∃ s v, K s m = some r ∧ Is e s v ∧ (execOp (ev flv) o).run P w = .ok (.value v) w := by
 unfold ldN at h
 split at h
 ·rename_i t x ho
  split at h
  ·rename_i id u i off hs
   obtain ⟨h0, _⟩ := evS_is h1 k hs
   generalize hgv : ev flv x = gv at h0
   split at h
   ·rename_i u' E xs hB
    split at h
    ·rename_i hu
     obtain ⟨y, g1, g2⟩ := bind_some h
     split at g2
     ·rename_i v hv
      subst hu
      obtain ⟨bi, A, m1, m2, m3⟩ := h1.get hB
      cases m3 with
      | own hn =>
       cases h0 with
       | oel hb ho' =>
        rename_i bb a
        rw [hb] at m1; cases m1
        obtain ⟨a', e1, _, cs, h3, h4⟩ := h2.ownGet (Mem.atom m2) g1
        rw [ho'] at e1
        cases e1
        obtain ⟨q, k1, k2⟩ := ld_run hv (exp_is u' h3) (a.add (i.toNat * u'.size))
        rw [u'.size_eq] at h4
        exact ⟨v, q, g2, k1, load_run ho hgv (k2 w fun j u hj => h4 j u hj)⟩
     ·cases g2
    ·cases h
   ·cases h
  ·cases h
 ·cases h
noncomputable def opX (P : Program) (call : CallF ρ) (fl : SFL) (m : KM) (o : Oper) (k kp : SV → KM → Option ρ) : Option ρ :=
 bif isNf m.σ fl o then ldN P m fl o k else bif isQ o then qop P m.σ fl o (fun s => k s m) else match o.op with
  | .panic x => match evS m.σ fl x with
   | some (.ifc T s) => kp (.ifc T s) m
   | _ => none
  | _ => match callOp P m.σ fl o with
   | some (g, args) => call g args m (fun c m' => match c with
    | .val s => k s m'
    | .pan s => kp s m')
   | none => bif nilCall m.σ fl o then outI else eop P m fl o k
theorem isLd_wm {W : World → Prop} (h : ∀ w, W w → WM e As L0 w) {o : Oper} : isLd o = true → ∀ w, W w → WM e As L0 w := fun _ => h
theorem p_enter2 {ε : Px} {pl : List (Nat × Bool)} {i : Nat} {o : Oper} {f : FuncId} {args : Array Value} (hf : Fr a N flv ds) (ho : opAt R N pl flv = some (i, o)) (hrun : (execOp (ev flv) o).run P w = .ok (.enter f args) w)
  (hc : Calls P f args w fun en w' => (∃ v, en = .returned v ∧ ∀ a', Fr a' N (putF flv o.dst v) ds → (mL.contains i = false → S w') ∧ wpPlan ε P R mL S K pl.tail a' w') ∨ (∃ ch, en = .panicked ch ∧ ε ch a w')) : wpPlan ε P R mL S K pl a w := by
 obtain ⟨rest, rfl, hR, hw, hk, hd⟩ := opAt_spec ho
 show wpOp P R (pex ε) i (fun a' w' => (mL.contains i = false → S w') ∧ wpPlan ε P R mL S K rest a' w') a w
 unfold wpOp
 simp only [hR, wantedF_sound hf hw, if_true]
 refine .inl ?_
 unfold Oper.wp
 rw [hf.exec hk, hrun]
 refine Calls.mono hc ?_
 rintro en w' (⟨v, rfl, h⟩ | ⟨ch, rfl, h⟩)
 ·exact h _ (hf.put hd v)
 ·exact h
theorem p_panic2 {ε : Px} {pl : List (Nat × Bool)} {i : Nat} {o : Oper} {v : Value} (hf : Fr a N flv ds) (ho : opAt R N pl flv = some (i, o)) (hrun : (execOp (ev flv) o).run P w = .halt (.panic v) w)
  (hc : ε (pch v) a w) : wpPlan ε P R mL S K pl a w := by
 obtain ⟨rest, rfl, hR, hw, hk, hd⟩ := opAt_spec ho
 show wpOp P R (pex ε) i (fun a' w' => (mL.contains i = false → S w') ∧ wpPlan ε P R mL S K rest a' w') a w
 unfold wpOp
 simp only [hR, wantedF_sound hf hw, if_true]
 refine .inl ?_
 unfold Oper.wp
 rw [hf.exec hk, hrun]
 exact hc
theorem opX_ok {ε : Px} {call : CallF ρ} (hc : CallOk P L0 call) {m : KM} (hf : Fr a N flv ds) (k : FLIs e fl flv) (h1 : Mem e m.σ As) (h2 : St e.z (As ++ L0) w) {i : Nat} {o : Oper} (hR : R[i]? = some o) (hw : wantedF R flv o = some true)
  (hd : dstOk N o = true) (ho : opsOk fl o = true) {rest : List (Nat × Bool)} {Kx Kp : SV → KM → Option ρ} {r : ρ} (h : opX P call fl m o Kx Kp = some r)
  (hk : ∀ s v m' e' As' w' a', Kx s m' = some r → Go1 e As m e' As' m' → Is e' s v → Mem e' m'.σ As' → St e'.z (As' ++ L0) w' → Fr a' N (putF flv o.dst v) ds → (mL.contains i = false → S w') ∧ wpPlan ε P R mL S K rest a' w')
  (hp : ∀ s v m' e' As' w', Kp s m' = some r → Go1 e As m e' As' m' → Is e' s v → Mem e' m'.σ As' → St e'.z (As' ++ L0) w' → ε (pch v) a w') :
  wpPlan ε P R mL S K ((i, false) :: rest) a w := by
 have hop : opAt R N ((i, false) :: rest) flv = some (i, o) := by
  have hkn := opsOk_is k ho
  unfold opAt
  simp only [hR, hw, hkn]
  unfold dstOk at hd
  cases hdst : o.dst with
  | none => rfl
  | some d => rw [hdst] at hd; simp only at hd ⊢; rw [hd]; rfl
 have hwm : WM e As L0 w := ⟨e.z, Zone.le_refl _, h2⟩
 unfold opX at h
 cases hnf : isNf m.σ fl o with
 | true =>
  rw [hnf] at h
  obtain ⟨s, v, g1, g2, g3⟩ := ldN_ok h1 h2 k h
  exact p_val hf hop g3 fun a' hf' => hk s v m e As w a' g1 .refl g2 h1 h2 hf'
 | false =>
 rw [hnf] at h
 simp only [zF] at h
 cases hq : isQ o with
 | true =>
  rw [hq] at h
  obtain ⟨s, g1, v, g2, g3⟩ := qop_ok (W := WM e As L0) h1 k hwm (isLd_wm fun w h => h) h
  exact p_val hf hop (g3 w hwm) fun a' hf' => hk s v m e As w a' g1 .refl g2 h1 h2 hf'
 | false =>
  rw [hq] at h
  simp only [zF] at h
  split at h
  ·rename_i x hox
   split at h
   ·rename_i T s hs
    obtain ⟨h0, _⟩ := evS_is h1 k hs
    generalize hgv : ev flv x = gv at h0
    have h0' := h0
    cases h0 with
    | ifc hv =>
     refine p_panic2 hf hop ?_ (hp _ _ m e As w h .refl h0' h1 h2)
     simp only [execOp, hox, hgv]; rfl
   ·cases h
  ·split at h
   ·rename_i g args hcl
    obtain ⟨vs, g1, g2⟩ := callOp_ok (w := w) h1 k hcl
    refine p_enter2 hf hop g2 (Calls.mono (hc h h1 h2 g1) ?_)
    rintro en w' ⟨c, m', e', As', k1, k2, k3, k4, k5⟩
    cases c with
    | val s => obtain ⟨v, rfl, hv⟩ := k2; exact .inl ⟨v, rfl, fun a' hf' => hk s v m' e' As' w' a' k1 k3 hv k4 k5 hf'⟩
    | pan s => obtain ⟨v, rfl, hv⟩ := k2; exact .inr ⟨_, rfl, hp s v m' e' As' w' k1 k3 hv k4 k5⟩
   ·cases hnc : nilCall m.σ fl o with
    | true => rw [hnc] at h; simp [outI] at h
    | false =>
    rw [hnc] at h
    simp only [zF] at h
    obtain ⟨s, m', g1, n, v, w', e', As', g2, g3, g4, g5, g6, g7⟩ := eop_ok h1 h2 k h
    rcases g3 with rfl | ⟨rfl, rfl⟩
    ·exact p_val hf hop g2 fun a' hf' => hk s v m' e' As' w' a' g1 g4 g5 g6 g7 hf'
    ·exact p_skip hf hop g2 fun a' hf' => hk s undef m' e' As' w' a' g1 g4 g5 g6 g7 hf'
noncomputable def seqX (P : Program) (call : CallF ρ) (R : Array Oper) (N : Nat) (kp : SFL → SV → KM → Option ρ) : List Nat → SFL → KM → (SFL → KM → Option ρ) → Option ρ
 | [], fl, m, k => k fl m
 | i :: is, fl, m, k => match R[i]? with
  | none => none
  | some o => bif dstOk N o then grd R fl o (fun fl => bif opsOk fl o then opX P call fl m o (fun s m' => seqX P call R N kp is (putS fl o.dst s) m' k) (kp fl) else none) (fun fl => seqX P call R N kp is (putS fl o.dst (.raw undef)) m k) else none
theorem seqX_ok {ε : Px} {call : CallF ρ} {kp : SFL → SV → KM → Option ρ} (hc : CallOk P L0 call) : ∀ (is : List Nat) {fl : SFL} {flv : FL} {m : KM} {e : KE} {As : List Atom} {a : Act} {w : World} {k : SFL → KM → Option ρ} {r : ρ},
  seqX P call R N kp is fl m k = some r → Fr a N flv ds → FLIs e fl flv → Mem e m.σ As → St e.z (As ++ L0) w →
  (∀ fl' flv' m' e' As' a' w', k fl' m' = some r → FX fl flv fl' flv' → Go1 e As m e' As' m' → Fr a' N flv' ds → FLIs e' fl' flv' → Mem e' m'.σ As' → St e'.z (As' ++ L0) w' → K a' w') →
  (∀ s v fl' flv' m' e' As' a' w', kp fl' s m' = some r → FX fl flv fl' flv' → Go1 e As m e' As' m' → Fr a' N flv' ds → FLIs e' fl' flv' → Is e' s v → Mem e' m'.σ As' → St e'.z (As' ++ L0) w' → ε (pch v) a' w') →
  wpPlan ε P R [] (fun _ => True) K (is.map fun i => (i, false)) a w
 | [], fl, flv, m, e, As, a, w, k, r, h, hf, hl, h1, h2, hk, hp => hk fl flv m e As a w h .refl .refl hf hl h1 h2
 | i :: is, fl, flv, m, e, As, a, w, k, r, h, hf, hl, h1, h2, hk, hp => by
  simp only [seqX] at h
  cases hR : R[i]? with
  | none => rw [hR] at h; cases h
  | some o =>
   rw [hR] at h
   simp only at h
   cases hd : dstOk N o with
   | false => rw [hd] at h; cases h
   | true =>
    rw [hd] at h
    simp only [zT] at h
    obtain ⟨fl1, flv1, fx, hf1, hl1, hor⟩ := grd_ok hf hl h
    rcases hor with ⟨hw, hrun⟩ | ⟨hw, hrun⟩
    ·cases ho : opsOk fl1 o with
     | false => rw [ho] at hrun; cases hrun
     | true =>
      rw [ho] at hrun
      simp only [zT] at hrun
      refine opX_ok hc hf1 hl1 h1 h2 hR hw hd ho hrun (fun s v m' e' As' w' a' g1 g2 g3 g4 g5 g6 => ⟨fun _ => trivial, ?_⟩) (fun s v m' e' As' w' g1 g2 g3 g4 g5 => hp s v fl1 flv1 m' e' As' a w' g1 fx g2 hf1 (hl1.mono g2.le) g3 g4 g5)
      exact seqX_ok hc is g1 g6 ((hl1.mono g2.le).put g3 o.dst) g4 g5 (fun fl2 flv2 m2 e2 As2 a2 w2 q1 q2 q3 => hk fl2 flv2 m2 e2 As2 a2 w2 q1 (fx.trans ((FX.put o.dst s v).trans q2)) (g2.trans q3))
       (fun s2 v2 fl2 flv2 m2 e2 As2 a2 w2 q1 q2 q3 => hp s2 v2 fl2 flv2 m2 e2 As2 a2 w2 q1 (fx.trans ((FX.put o.dst s v).trans q2)) (g2.trans q3))
    ·show wpOp P R _ i (fun a' w' => (([] : List Nat).contains i = false → True) ∧ wpPlan ε P R [] (fun _ => True) K (is.map fun i => (i, false)) a' w') a w
     unfold wpOp
     simp only [hR, wantedF_sound hf1 hw, Bool.false_eq_true, if_false]
     refine ⟨fun _ => trivial, ?_⟩
     exact seqX_ok hc is hrun (hf1.put hd undef) (hl1.put (.raw undef) o.dst) h1 h2 (fun fl2 flv2 m2 e2 As2 a2 w2 q1 q2 q3 => hk fl2 flv2 m2 e2 As2 a2 w2 q1 (fx.trans ((FX.put o.dst (.raw undef) undef).trans q2)) q3)
      (fun s2 v2 fl2 flv2 m2 e2 As2 a2 w2 q1 q2 q3 => hp s2 v2 fl2 flv2 m2 e2 As2 a2 w2 q1 (fx.trans ((FX.put o.dst (.raw undef) undef).trans q2)) q3)
end Go.K
namespace Go.K
open Go.Sl Go.Sx
variable {e e' e0 : KE} {σ : List Blk} {As As0 L0 L : List Atom} {P : Program} {w : World} {N : Nat} {fl : SFL} {flv : FL} {ρ : Type} {h : Zone} {a : Act} {ds : List Deferred} {R : Array Oper} {mL : List Nat} {S : World → Prop} {K : Act → World → Prop}
def isWr (calls : Bool) (pu : List Nat) (o : Oper) : Bool := match o.op with
 | .store .. => true
 | .call { callee := .value (.func f), .. } => calls && !pu.contains f
 | .call { callee := .value _, .. } => calls
 | .call { callee := .builtin .unsafeSliceData, .. } => false
 | .call { callee := .builtin .len, .. } => false
 | .call { callee := .builtin .min, .. } => false
 | .call { callee := .builtin .max, .. } => false
 | .call _ => true
 | .mapUpdate .. => true
 | .insert .. => true
 | .mapEntry .. => true
 | .entryStore .. => true
 | .next .. => true
 | _ => false
def lateOf (calls : Bool) (pu : List Nat) (R : Array Oper) : List Nat :=
 let W := (List.range R.size).filter fun i => match R[i]? with | some o => isWr calls pu o | none => false
 bif W.isEmpty then [] else (List.range R.size).filter fun j => W.contains j || (aheadL .any R j).any (W.contains ·)
inductive PT where
 | nil | fr (i : Nat) (t : PT) | one (i : Nat) (t : PT) | two (i : Nat) (t : PT) (j : Nat) (u : PT) | three (i : Nat) (t : PT) (j : Nat) (u : PT) (l : Nat) (v : PT) | four (i : Nat) (t : PT) (j : Nat) (u : PT) (l : Nat) (v : PT) (o : Nat) (x : PT)
def planG (R : Array Oper) (mL : List Nat) : Nat → Array Bool → PT
 | 0, _ => .nil
 | n + 1, listed =>
  let rd := Region.ready .any R listed
  match rd.find? (fun i => Region.free .any R listed i && (!mL.contains i && (match R[i]? with | some o => isQ o && (!isLd o || lateB .any R mL i) | none => false))) with
  | some i => .fr i (planG R mL n (listed.setIfInBounds i true))
  | none => match rd with
   | [i] => .one i (planG R mL n (listed.setIfInBounds i true))
   | [i, j] => .two i (planG R mL n (listed.setIfInBounds i true)) j (planG R mL n (listed.setIfInBounds j true))
   | [i, j, l] => .three i (planG R mL n (listed.setIfInBounds i true)) j (planG R mL n (listed.setIfInBounds j true)) l (planG R mL n (listed.setIfInBounds l true))
   | [i, j, l, o] => .four i (planG R mL n (listed.setIfInBounds i true)) j (planG R mL n (listed.setIfInBounds j true)) l (planG R mL n (listed.setIfInBounds l true)) o (planG R mL n (listed.setIfInBounds o true))
   | _ => .nil
def normT (ops : Array Oper) (m : List Nat) : Nat → PT → Array Bool → Bool
 | 0, .nil, listed => (Region.ready .any ops listed).isEmpty
 | n + 1, .fr i t, listed => (Region.ready .any ops listed).contains i && Region.free .any ops listed i && !m.contains i && normT ops m n t (listed.setIfInBounds i true)
 | n + 1, .one i t, listed => (match Region.ready .any ops listed with | [j] => Nat.beq i j | _ => false) && normT ops m n t (listed.setIfInBounds i true)
 | n + 1, .two i t j u, listed => (match Region.ready .any ops listed with | [a, b] => Nat.beq i a && Nat.beq j b | _ => false) && (normT ops m n t (listed.setIfInBounds i true) && normT ops m n u (listed.setIfInBounds j true))
 | n + 1, .three i t j u l v, listed => (match Region.ready .any ops listed with | [a, b, c] => Nat.beq i a && (Nat.beq j b && Nat.beq l c) | _ => false) && (normT ops m n t (listed.setIfInBounds i true) && (normT ops m n u (listed.setIfInBounds j true) && normT ops m n v (listed.setIfInBounds l true)))
 | n + 1, .four i t j u l v o x, listed => (match Region.ready .any ops listed with | [a, b, c, d] => Nat.beq i a && (Nat.beq j b && (Nat.beq l c && Nat.beq o d)) | _ => false) && (normT ops m n t (listed.setIfInBounds i true) && (normT ops m n u (listed.setIfInBounds j true) && (normT ops m n v (listed.setIfInBounds l true) && normT ops m n x (listed.setIfInBounds o true))))
 | _, _, _ => false
def drawT (c : Code) (pl : PT) (m : List Nat) : Bool :=
 (isReg true c && noDefer (cops c)) && (Region.noSelect (cops c) && normT (cops c) m (cops c).size pl (Array.replicate (cops c).size false))
def wpPlanS (ε : Px) (P : Program) (ops : Array Oper) (m : List Nat) (K : Act → World → Prop) : PT → Bool → (World → Prop) → Act → World → Prop
 | .nil, _, _, a, w => K a w
 | .fr i rest, q, S, a, w => ∃ o v, ops[i]? = some o ∧ ((YieldsIf P ops S o v a ∧ S w ∧ lateB .any ops m i = true) ∨ YieldsIf P ops (fun _ => True) o v a) ∧ wpPlanS ε P ops m K rest q S (a.put o.dst v) w
 | .one i rest, q, S, a, w => wpOp P ops (pex ε) i (fun a' w' => ∃ S2 : World → Prop, (∀ w, S2 w → S w) ∧ (q = true → m.contains i = false → S2 w') ∧ wpPlanS ε P ops m K rest (q && !m.contains i) S2 a' w') a w
 | .two i t j u, q, S, a, w => wpOp P ops (pex ε) i (fun a' w' => ∃ S2 : World → Prop, (∀ w, S2 w → S w) ∧ (q = true → m.contains i = false → S2 w') ∧ wpPlanS ε P ops m K t (q && !m.contains i) S2 a' w') a w ∧
  wpOp P ops (pex ε) j (fun a' w' => ∃ S2 : World → Prop, (∀ w, S2 w → S w) ∧ (q = true → m.contains j = false → S2 w') ∧ wpPlanS ε P ops m K u (q && !m.contains j) S2 a' w') a w
 | .three i t j u l v, q, S, a, w => wpOp P ops (pex ε) i (fun a' w' => ∃ S2 : World → Prop, (∀ w, S2 w → S w) ∧ (q = true → m.contains i = false → S2 w') ∧ wpPlanS ε P ops m K t (q && !m.contains i) S2 a' w') a w ∧
  (wpOp P ops (pex ε) j (fun a' w' => ∃ S2 : World → Prop, (∀ w, S2 w → S w) ∧ (q = true → m.contains j = false → S2 w') ∧ wpPlanS ε P ops m K u (q && !m.contains j) S2 a' w') a w ∧
  wpOp P ops (pex ε) l (fun a' w' => ∃ S2 : World → Prop, (∀ w, S2 w → S w) ∧ (q = true → m.contains l = false → S2 w') ∧ wpPlanS ε P ops m K v (q && !m.contains l) S2 a' w') a w)
 | .four i t j u l v o x, q, S, a, w => wpOp P ops (pex ε) i (fun a' w' => ∃ S2 : World → Prop, (∀ w, S2 w → S w) ∧ (q = true → m.contains i = false → S2 w') ∧ wpPlanS ε P ops m K t (q && !m.contains i) S2 a' w') a w ∧ (wpOp P ops (pex ε) j (fun a' w' => ∃ S2 : World → Prop, (∀ w, S2 w → S w) ∧ (q = true → m.contains j = false → S2 w') ∧ wpPlanS ε P ops m K u (q && !m.contains j) S2 a' w') a w ∧ (wpOp P ops (pex ε) l (fun a' w' => ∃ S2 : World → Prop, (∀ w, S2 w → S w) ∧ (q = true → m.contains l = false → S2 w') ∧ wpPlanS ε P ops m K v (q && !m.contains l) S2 a' w') a w ∧ wpOp P ops (pex ε) o (fun a' w' => ∃ S2 : World → Prop, (∀ w, S2 w → S w) ∧ (q = true → m.contains o = false → S2 w') ∧ wpPlanS ε P ops m K x (q && !m.contains o) S2 a' w') a w))
theorem wpAnyK_sub {P : Program} {md : Region.Mode} {ops : Array Oper} {Q : Exit → Act → World → Prop} {m : List Nat} {S S2 : World → Prop} (hs : ∀ w, S2 w → S w) : ∀ (fuel : Nat) (listed : Array Bool) (a : Act) (w : World), wpAnyK P md ops Q m S2 fuel listed a w → wpAnyK P md ops Q m S fuel listed a w
 | 0, _, _, _, h => h
 | fuel + 1, _, _, _, h => ⟨h.1, fun i hi => wpOp_mono (fun a' w' h' => ⟨fun hn => hs _ (h'.1 hn), wpAnyK_sub hs fuel _ a' w' h'.2⟩) (h.2 i hi)⟩
theorem wpAnyK_planS {ε : Px} {P : Program} {ops : Array Oper} {K : Act → World → Prop} {m : List Nat} (hs : Region.noSelect ops = true) (hε : PxOK ops ε) :
  ∀ (n : Nat) (pl : PT) (q : Bool) (S : World → Prop) (listed : Array Bool) (a : Act) (w : World), Closed .any ops listed → listed.size = ops.size → (noLate m listed → S w) → (noLate m listed → q = true) → normT ops m n pl listed = true → wpPlanS ε P ops m K pl q S a w →
   wpAnyK P .any ops (qK ε K) m S n listed a w
 | 0, .nil, q, S, listed, a, w, _, _, _, _, hB, h => ⟨by simpa [normT] using hB, h⟩
 | n + 1, .fr i rest, q, S, listed, a, w, hcl, hsz, h0, hq, hB, h => by
  simp only [normT, za] at hB
  obtain ⟨⟨⟨hr, hf⟩, him⟩, hB'⟩ := hB
  have hr' : i ∈ Region.ready .any ops listed := by simpa using hr
  have him' : i ∉ m := by simpa using him
  obtain ⟨o, v, hi, hy, hrest⟩ := h
  have hrec := wpAnyK_planS hs hε n rest q S _ _ _ (hcl.set hr') (by simp [hsz]) (fun h => h0 h.unset) (fun h => hq h.unset) hB' hrest
  rcases hy with ⟨hy, hS, hl⟩ | hy
  ·exact wpAnyK_first hl hi (Region.noSelect_spec hs) (fun c a w h => hε i o v c a w hi h) n listed a w hcl hsz (Region.free_spec hi hf) hr' hy hS hrec
  ·exact wpAnyK_firstP him' hi (Region.noSelect_spec hs) (fun c a w h => hε i o v c a w hi h) n listed a w (Region.free_spec hi hf) hr' hy h0 hrec
 | n + 1, .one i rest, q, S, listed, a, w, hcl, hsz, h0, hq, hB, h => by
  simp only [normT, za] at hB
  obtain ⟨hr, hB'⟩ := hB
  have hready : Region.ready .any ops listed = [i] := by
   split at hr
   ·rename_i j hj; have := zN hr; subst this; exact hj
   ·cases hr
  refine ⟨fun h0 => (by rw [hready] at h0; cases h0), fun j hj => ?_⟩
  have hj0 := hj
  rw [hready] at hj
  simp only [List.mem_singleton] at hj
  subst hj
  have h2 := wpOp_post (Q' := qK ε K) pex_qK (show wpOp P ops (pex ε) j _ a w from h)
  refine wpOp_mono (fun a' w' h3 => ?_) h2
  obtain ⟨S2, hsub, h4, h5⟩ := h3
  have hni : noLate m (listed.setIfInBounds j true) → m.contains j = false := fun hn => by
   have := hn.not_mem (unlisted_lt (mem_ready.1 hj0).1)
   simpa using this
  have hS' : noLate m (listed.setIfInBounds j true) → S2 w' := fun hn => h4 (hq hn.unset) (hni hn)
  exact ⟨fun hn => hsub _ (hS' hn), wpAnyK_sub hsub _ _ _ _ (wpAnyK_planS hs hε n rest _ S2 _ _ _ (hcl.set hj0) (by simp [hsz]) hS' (fun hn => by rw [hq hn.unset, hni hn]; rfl) hB' h5)⟩
 | n + 1, .two i t j u, q, S, listed, a, w, hcl, hsz, h0, hq, hB, h => by
  simp only [normT, za] at hB
  obtain ⟨hr, hBt, hBu⟩ := hB
  have hready : Region.ready .any ops listed = [i, j] := by
   split at hr
   ·rename_i a b hj
    simp only [za] at hr
    have h1 := zN hr.1
    have h2 := zN hr.2
    subst h1 h2; exact hj
   ·cases hr
  refine ⟨fun h0 => (by rw [hready] at h0; cases h0), fun k hk => ?_⟩
  have hk0 := hk
  rw [hready] at hk
  have key : ∀ (t : PT), k = k → normT ops m n t (listed.setIfInBounds k true) = true → wpOp P ops (pex ε) k (fun a' w' => ∃ S2 : World → Prop, (∀ w, S2 w → S w) ∧ (q = true → m.contains k = false → S2 w') ∧ wpPlanS ε P ops m K t (q && !m.contains k) S2 a' w') a w →
    wpOp P ops (qK ε K) k (fun a' w' => (noLate m (listed.setIfInBounds k true) → S w') ∧ wpAnyK P .any ops (qK ε K) m S n (listed.setIfInBounds k true) a' w') a w := by
   intro t _ hBt h
   have h2 := wpOp_post (Q' := qK ε K) pex_qK h
   refine wpOp_mono (fun a' w' h3 => ?_) h2
   obtain ⟨S2, hsub, h4, h5⟩ := h3
   have hni : noLate m (listed.setIfInBounds k true) → m.contains k = false := fun hn => by
    have := hn.not_mem (unlisted_lt (mem_ready.1 hk0).1)
    simpa using this
   have hS' : noLate m (listed.setIfInBounds k true) → S2 w' := fun hn => h4 (hq hn.unset) (hni hn)
   exact ⟨fun hn => hsub _ (hS' hn), wpAnyK_sub hsub _ _ _ _ (wpAnyK_planS hs hε n t _ S2 _ _ _ (hcl.set hk0) (by simp [hsz]) hS' (fun hn => by rw [hq hn.unset, hni hn]; rfl) hBt h5)⟩
  simp only [List.mem_cons, List.not_mem_nil, or_false] at hk
  rcases hk with rfl | rfl
  ·exact key t rfl hBt h.1
  ·exact key u rfl hBu h.2
 | n + 1, .three i t j u l v, q, S, listed, a, w, hcl, hsz, h0, hq, hB, h => by
  simp only [normT, za] at hB
  obtain ⟨hr, hBt, hBu, hBv⟩ := hB
  have hready : Region.ready .any ops listed = [i, j, l] := by
   split at hr
   ·rename_i a b c hj
    simp only [za] at hr
    have h1 := zN hr.1
    have h2 := zN hr.2.1
    have h3 := zN hr.2.2
    subst h1 h2 h3; exact hj
   ·cases hr
  refine ⟨fun h0 => (by rw [hready] at h0; cases h0), fun k hk => ?_⟩
  have hk0 := hk
  rw [hready] at hk
  have key : ∀ (t : PT), k = k → normT ops m n t (listed.setIfInBounds k true) = true → wpOp P ops (pex ε) k (fun a' w' => ∃ S2 : World → Prop, (∀ w, S2 w → S w) ∧ (q = true → m.contains k = false → S2 w') ∧ wpPlanS ε P ops m K t (q && !m.contains k) S2 a' w') a w →
    wpOp P ops (qK ε K) k (fun a' w' => (noLate m (listed.setIfInBounds k true) → S w') ∧ wpAnyK P .any ops (qK ε K) m S n (listed.setIfInBounds k true) a' w') a w := by
   intro t _ hBt h
   have h2 := wpOp_post (Q' := qK ε K) pex_qK h
   refine wpOp_mono (fun a' w' h3 => ?_) h2
   obtain ⟨S2, hsub, h4, h5⟩ := h3
   have hni : noLate m (listed.setIfInBounds k true) → m.contains k = false := fun hn => by
    have := hn.not_mem (unlisted_lt (mem_ready.1 hk0).1)
    simpa using this
   have hS' : noLate m (listed.setIfInBounds k true) → S2 w' := fun hn => h4 (hq hn.unset) (hni hn)
   exact ⟨fun hn => hsub _ (hS' hn), wpAnyK_sub hsub _ _ _ _ (wpAnyK_planS hs hε n t _ S2 _ _ _ (hcl.set hk0) (by simp [hsz]) hS' (fun hn => by rw [hq hn.unset, hni hn]; rfl) hBt h5)⟩
  simp only [List.mem_cons, List.not_mem_nil, or_false] at hk
  rcases hk with rfl | rfl | rfl
  ·exact key t rfl hBt h.1
  ·exact key u rfl hBu h.2.1
  ·exact key v rfl hBv h.2.2
 | n + 1, .four i t j u l v o x, q, S, listed, a, w, hcl, hsz, h0, hq, hB, h => by
  simp only [normT, za] at hB
  obtain ⟨hr, hBt, hBu, hBv, hBx⟩ := hB
  have hready : Region.ready .any ops listed = [i, j, l, o] := by
   split at hr
   ·rename_i a b c d hj
    simp only [za] at hr
    have h1 := zN hr.1
    have h2 := zN hr.2.1
    have h3 := zN hr.2.2.1
    have h4 := zN hr.2.2.2
    subst h1 h2 h3 h4; exact hj
   ·cases hr
  refine ⟨fun h0 => (by rw [hready] at h0; cases h0), fun k hk => ?_⟩
  have hk0 := hk
  rw [hready] at hk
  have key : ∀ (t : PT), k = k → normT ops m n t (listed.setIfInBounds k true) = true → wpOp P ops (pex ε) k (fun a' w' => ∃ S2 : World → Prop, (∀ w, S2 w → S w) ∧ (q = true → m.contains k = false → S2 w') ∧ wpPlanS ε P ops m K t (q && !m.contains k) S2 a' w') a w →
    wpOp P ops (qK ε K) k (fun a' w' => (noLate m (listed.setIfInBounds k true) → S w') ∧ wpAnyK P .any ops (qK ε K) m S n (listed.setIfInBounds k true) a' w') a w := by
   intro t _ hBt h
   have h2 := wpOp_post (Q' := qK ε K) pex_qK h
   refine wpOp_mono (fun a' w' h3 => ?_) h2
   obtain ⟨S2, hsub, h4, h5⟩ := h3
   have hni : noLate m (listed.setIfInBounds k true) → m.contains k = false := fun hn => by
    have := hn.not_mem (unlisted_lt (mem_ready.1 hk0).1)
    simpa using this
   have hS' : noLate m (listed.setIfInBounds k true) → S2 w' := fun hn => h4 (hq hn.unset) (hni hn)
   exact ⟨fun hn => hsub _ (hS' hn), wpAnyK_sub hsub _ _ _ _ (wpAnyK_planS hs hε n t _ S2 _ _ _ (hcl.set hk0) (by simp [hsz]) hS' (fun hn => by rw [hq hn.unset, hni hn]; rfl) hBt h5)⟩
  simp only [List.mem_cons, List.not_mem_nil, or_false] at hk
  rcases hk with rfl | rfl | rfl | rfl
  ·exact key t rfl hBt h.1
  ·exact key u rfl hBu h.2.1
  ·exact key v rfl hBv h.2.2.1
  ·exact key x rfl hBx h.2.2.2
 | 0, .fr _ _, _, _, _, _, _, _, _, _, _, hB, _ => by simp [normT] at hB
 | 0, .one _ _, _, _, _, _, _, _, _, _, _, hB, _ => by simp [normT] at hB
 | 0, .two _ _ _ _, _, _, _, _, _, _, _, _, _, hB, _ => by simp [normT] at hB
 | 0, .three _ _ _ _ _ _, _, _, _, _, _, _, _, _, _, hB, _ => by simp [normT] at hB
 | 0, .four _ _ _ _ _ _ _ _, _, _, _, _, _, _, _, _, _, hB, _ => by simp [normT] at hB
 | _ + 1, .nil, _, _, _, _, _, _, _, _, _, hB, _ => by simp [normT] at hB
noncomputable def stpX (P : Program) (call : CallF ρ) (R : Array Oper) (N : Nat) (mL : List Nat) (kp : SFL → SV → KM → Option ρ) (i : Nat) (cl : Bool) (fl : SFL) (m : KM) (k : Bool → SFL → KM → Option ρ) : Option ρ := match R[i]? with
 | none => none
 | some o => bif dstOk N o then grd R fl o
   (fun fl => bif opsOk fl o then opX P call fl m o (fun s m' => bif mL.contains i then k false (putS fl o.dst s) m' else
    bif cl then (bif Nat.beq m'.lg.length m.lg.length then k cl (putS fl o.dst s) m' else none) else k cl (putS fl o.dst s) m') (kp fl) else none)
   (fun fl => k cl (putS fl o.dst (.raw undef)) m) else none
noncomputable def drwX (P : Program) (call : CallF ρ) (R : Array Oper) (N : Nat) (mL : List Nat) (kp : SFL → SV → KM → Option ρ) : PT → Bool → SFL → KM → (SFL → KM → Option ρ) → Option ρ
 | .nil, _, fl, m, k => k fl m
 | .fr i pl, cl, fl, m, k => match R[i]? with
  | none => none
  | some o => bif dstOk N o then grd R fl o
    (fun fl => bif isQ o && (opsOk fl o && (!isLd o || (cl && lateB .any R mL i))) then qop P m.σ fl o (fun s => drwX P call R N mL kp pl cl (putS fl o.dst s) m k) else none)
    (fun fl => drwX P call R N mL kp pl cl (putS fl o.dst (.raw undef)) m k) else none
 | .one i pl, cl, fl, m, k => stpX P call R N mL kp i cl fl m fun cl fl m => drwX P call R N mL kp pl cl fl m k
 | .two i t j u, cl, fl, m, k => agree (stpX P call R N mL kp i cl fl m fun cl fl m => drwX P call R N mL kp t cl fl m k) (stpX P call R N mL kp j cl fl m fun cl fl m => drwX P call R N mL kp u cl fl m k)
 | .three i t j u l v, cl, fl, m, k => agree (stpX P call R N mL kp i cl fl m fun cl fl m => drwX P call R N mL kp t cl fl m k) (agree (stpX P call R N mL kp j cl fl m fun cl fl m => drwX P call R N mL kp u cl fl m k) (stpX P call R N mL kp l cl fl m fun cl fl m => drwX P call R N mL kp v cl fl m k))
 | .four i t j u l v o x, cl, fl, m, k => agree (stpX P call R N mL kp i cl fl m fun cl fl m => drwX P call R N mL kp t cl fl m k) (agree (stpX P call R N mL kp j cl fl m fun cl fl m => drwX P call R N mL kp u cl fl m k) (agree (stpX P call R N mL kp l cl fl m fun cl fl m => drwX P call R N mL kp v cl fl m k) (stpX P call R N mL kp o cl fl m fun cl fl m => drwX P call R N mL kp x cl fl m k)))
theorem WM.sub {l : List Atom} (hle : e.le e') (h : WM e' (l ++ As) L0 w) : WM e As L0 w := by
 obtain ⟨z', h1, h2⟩ := h
 exact ⟨z', Zone.le_trans hle.z h1, St.mid h2⟩
theorem stpX_ok {ε : Px} {call : CallF ρ} {kp : SFL → SV → KM → Option ρ} (hc : CallOk P L0 call) {i : Nat} {pl : PT} {kk : Bool → SFL → KM → Option ρ} {q : Bool} {S : World → Prop} {cl : Bool} {fl : SFL} {flv : FL} {m : KM} {e : KE} {As : List Atom} {a : Act} {w : World} {r : ρ}
  (h : stpX P call R N mL kp i cl fl m kk = some r) (hcl : cl = true → S = WM e As L0) (hq : q = true → cl = true) (hf : Fr a N flv ds) (hl : FLIs e fl flv) (h1 : Mem e m.σ As) (h2 : St e.z (As ++ L0) w)
  (hk : ∀ cl' S' fl' flv' m' e' As' a' w', kk cl' fl' m' = some r → (cl' = true → S' = WM e' As' L0) → ((q && !mL.contains i) = true → cl' = true) → FX fl flv fl' flv' → Go1 e As m e' As' m' → Fr a' N flv' ds → FLIs e' fl' flv' → Mem e' m'.σ As' → St e'.z (As' ++ L0) w' → wpPlanS ε P R mL K pl (q && !mL.contains i) S' a' w')
  (hp : ∀ s v fl' flv' m' e' As' a' w', kp fl' s m' = some r → FX fl flv fl' flv' → Go1 e As m e' As' m' → Fr a' N flv' ds → FLIs e' fl' flv' → Is e' s v → Mem e' m'.σ As' → St e'.z (As' ++ L0) w' → ε (pch v) a' w') :
  wpOp P R (pex ε) i (fun a' w' => ∃ S2 : World → Prop, (∀ w, S2 w → S w) ∧ (q = true → mL.contains i = false → S2 w') ∧ wpPlanS ε P R mL K pl (q && !mL.contains i) S2 a' w') a w := by
  unfold stpX at h
  cases hR : R[i]? with
  | none => rw [hR] at h; cases h
  | some o =>
   rw [hR] at h
   simp only at h
   cases hd : dstOk N o with
   | false => rw [hd] at h; cases h
   | true =>
    rw [hd] at h
    simp only [zT] at h
    obtain ⟨fl1, flv1, fx, hf1, hl1, hor⟩ := grd_ok hf hl h
    rcases hor with ⟨hw, hrun⟩ | ⟨hw, hrun⟩
    ·cases ho : opsOk fl1 o with
     | false => rw [ho] at hrun; cases hrun
     | true =>
      rw [ho] at hrun
      simp only [zT] at hrun
      have hop := opX_ok (ε := ε) (mL := []) (S := fun _ => True) (rest := []) (K := fun a' w' => ∃ S2 : World → Prop, (∀ w, S2 w → S w) ∧ (q = true → mL.contains i = false → S2 w') ∧ wpPlanS ε P R mL K pl (q && !mL.contains i) S2 a' w') (a := a) hc hf1 hl1 h1 h2 hR hw hd ho hrun (fun s v m' e' As' w' a' g1 g2 g3 g4 g5 g6 => ⟨fun _ => trivial, ?_⟩) (fun s v m' e' As' w' g1 g2 g3 g4 g5 => hp s v fl1 flv1 m' e' As' a w' g1 fx g2 hf1 (hl1.mono g2.le) g3 g4 g5)
      ·exact wpOp_mono (fun a' w' hh => hh.2) (show wpOp P R (pex ε) i _ a w from hop)
      ·cases hm : mL.contains i with
       | true =>
        rw [hm] at g1
        refine ⟨S, fun _ h => h, (fun _ hh => by cases hh), ?_⟩
        rw [← hm]
        exact hk false S _ _ m' e' As' a' w' g1 (fun hh => by cases hh) (fun hh => by rw [hm] at hh; simp at hh) (fx.trans (FX.put o.dst s v)) g2 g6 ((hl1.mono g2.le).put g3 o.dst) g4 g5
       | false =>
        rw [hm] at g1
        simp only [zF] at g1
        rw [← hm]
        cases hcl' : cl with
        | false =>
         rw [hcl'] at g1
         simp only [zF] at g1
         have hqf : q = false := by
          cases hq0 : q with
          | false => rfl
          | true => have := hq hq0; rw [hcl'] at this; cases this
         refine ⟨S, fun _ h => h, (fun hh => by rw [hqf] at hh; cases hh), ?_⟩
         exact hk false S _ _ m' e' As' a' w' g1 (fun hh => by cases hh) (fun hh => by rw [hqf] at hh; simp at hh) (fx.trans (FX.put o.dst s v)) g2 g6 ((hl1.mono g2.le).put g3 o.dst) g4 g5
        | true =>
         rw [hcl'] at g1
         simp only [zT] at g1
         cases hb : Nat.beq m'.lg.length m.lg.length with
         | false => rw [hb] at g1; cases g1
         | true =>
          rw [hb] at g1
          simp only [zT] at g1
          have hSe := hcl hcl'
          subst hSe
          obtain ⟨l', rfl⟩ := g2.az (zN hb)
          refine ⟨WM e' (l' ++ As) L0, fun w hw => hw.sub g2.le, fun _ _ => ⟨e'.z, Zone.le_refl _, g5⟩, ?_⟩
          exact hk true _ _ _ m' e' (l' ++ As) a' w' g1 (fun _ => rfl) (fun _ => rfl) (fx.trans (FX.put o.dst s v)) g2 g6 ((hl1.mono g2.le).put g3 o.dst) g4 g5
    ·unfold wpOp
     simp only [hR, wantedF_sound hf1 hw, Bool.false_eq_true, if_false]
     refine ⟨S, fun _ h => h, fun hh _ => ?_, ?_⟩
     ·have hSe := hcl (hq hh)
      subst hSe
      exact ⟨e.z, Zone.le_refl _, h2⟩
     ·exact hk cl S _ _ m e As _ w hrun hcl (fun hh => hq (by simp only [za] at hh; exact hh.1)) (fx.trans (FX.put o.dst (.raw undef) undef)) .refl (hf1.put hd undef) (hl1.put (.raw undef) o.dst) h1 h2
theorem drwX_ok {ε : Px} {call : CallF ρ} {kp : SFL → SV → KM → Option ρ} (hc : CallOk P L0 call) : ∀ (pl : PT) {q : Bool} {S : World → Prop} {cl : Bool} {fl : SFL} {flv : FL} {m : KM} {e : KE} {As : List Atom} {a : Act} {w : World} {k : SFL → KM → Option ρ} {r : ρ},
  drwX P call R N mL kp pl cl fl m k = some r → (cl = true → S = WM e As L0) → (q = true → cl = true) → Fr a N flv ds → FLIs e fl flv → Mem e m.σ As → St e.z (As ++ L0) w →
  (∀ fl' flv' m' e' As' a' w', k fl' m' = some r → FX fl flv fl' flv' → Go1 e As m e' As' m' → Fr a' N flv' ds → FLIs e' fl' flv' → Mem e' m'.σ As' → St e'.z (As' ++ L0) w' → K a' w') →
  (∀ s v fl' flv' m' e' As' a' w', kp fl' s m' = some r → FX fl flv fl' flv' → Go1 e As m e' As' m' → Fr a' N flv' ds → FLIs e' fl' flv' → Is e' s v → Mem e' m'.σ As' → St e'.z (As' ++ L0) w' → ε (pch v) a' w') →
  wpPlanS ε P R mL K pl q S a w
 | .nil, q, S, cl, fl, flv, m, e, As, a, w, k, r, h, hcl, hq0, hf, hl, h1, h2, hk, hp => hk fl flv m e As a w h .refl .refl hf hl h1 h2
 | .fr i pl, q, S, cl, fl, flv, m, e, As, a, w, k, r, h, hcl, hq0, hf, hl, h1, h2, hk, hp => by
  simp only [drwX] at h
  cases hR : R[i]? with
  | none => rw [hR] at h; cases h
  | some o =>
   rw [hR] at h
   simp only at h
   cases hd : dstOk N o with
   | false => rw [hd] at h; cases h
   | true =>
    rw [hd] at h
    simp only [zT] at h
    obtain ⟨fl1, flv1, fx, hf1, hl1, hor⟩ := grd_ok hf hl h
    rcases hor with ⟨hw, hrun⟩ | ⟨hw, hrun⟩
    ·cases hb : (isQ o && (opsOk fl1 o && (!isLd o || (cl && lateB .any R mL i)))) with
     | false => rw [hb] at hrun; cases hrun
     | true =>
      rw [hb] at hrun
      simp only [zT] at hrun
      simp only [za] at hb
      obtain ⟨hq, ho, hld⟩ := hb
      have hwm : WM e As L0 w := ⟨e.z, Zone.le_refl _, h2⟩
      have hwa := wantedF_sound hf1 hw
      have hex := hf1.exec (opsOk_is hl1 ho)
      cases hL : isLd o with
      | false =>
       obtain ⟨s, g1, v, g2, g3⟩ := qop_ok (W := fun _ => True) h1 hl1 hwm (fun hh => by rw [hL] at hh; cases hh) hrun
       refine ⟨o, v, hR, .inr (.inl ⟨hwa, fun w' _ => by rw [hex]; exact g3 w' trivial⟩), ?_⟩
       exact drwX_ok hc pl g1 hcl hq0 (hf1.put hd v) (hl1.put g2 o.dst) h1 h2 (fun fl2 flv2 m2 e2 As2 a2 w2 q1 q2 q3 => hk fl2 flv2 m2 e2 As2 a2 w2 q1 (fx.trans ((FX.put o.dst s v).trans q2)) q3) (fun s2 v2 fl2 flv2 m2 e2 As2 a2 w2 q1 q2 q3 => hp s2 v2 fl2 flv2 m2 e2 As2 a2 w2 q1 (fx.trans ((FX.put o.dst s v).trans q2)) q3)
      | true =>
       rw [hL] at hld
       simp only [Bool.not_true, Bool.false_or, za] at hld
       obtain ⟨hcl1, hlate⟩ := hld
       have hSe := hcl hcl1
       subst hSe
       obtain ⟨s, g1, v, g2, g3⟩ := qop_ok (W := WM e As L0) h1 hl1 hwm (isLd_wm fun w h => h) hrun
       refine ⟨o, v, hR, .inl ⟨.inl ⟨hwa, fun w' hw' => by rw [hex]; exact g3 w' hw'⟩, hwm, hlate⟩, ?_⟩
       exact drwX_ok hc pl g1 hcl hq0 (hf1.put hd v) (hl1.put g2 o.dst) h1 h2 (fun fl2 flv2 m2 e2 As2 a2 w2 q1 q2 q3 => hk fl2 flv2 m2 e2 As2 a2 w2 q1 (fx.trans ((FX.put o.dst s v).trans q2)) q3) (fun s2 v2 fl2 flv2 m2 e2 As2 a2 w2 q1 q2 q3 => hp s2 v2 fl2 flv2 m2 e2 As2 a2 w2 q1 (fx.trans ((FX.put o.dst s v).trans q2)) q3)
    ·refine ⟨o, undef, hR, .inr (.inr ⟨wantedF_sound hf1 hw, rfl⟩), ?_⟩
     exact drwX_ok hc pl hrun hcl hq0 (hf1.put hd undef) (hl1.put (.raw undef) o.dst) h1 h2 (fun fl2 flv2 m2 e2 As2 a2 w2 q1 q2 q3 => hk fl2 flv2 m2 e2 As2 a2 w2 q1 (fx.trans ((FX.put o.dst (.raw undef) undef).trans q2)) q3) (fun s2 v2 fl2 flv2 m2 e2 As2 a2 w2 q1 q2 q3 => hp s2 v2 fl2 flv2 m2 e2 As2 a2 w2 q1 (fx.trans ((FX.put o.dst (.raw undef) undef).trans q2)) q3)
 | .one i pl, q, S, cl, fl, flv, m, e, As, a, w, k, r, h, hcl, hq0, hf, hl, h1, h2, hk, hp => by
  simp only [drwX] at h
  exact stpX_ok hc h hcl hq0 hf hl h1 h2 (fun cl' S' fl' flv' m' e' As' a' w' g1 g2 gq g3 g4 g5 g6 g7 g8 => drwX_ok hc pl g1 g2 gq g5 g6 g7 g8 (fun fl2 flv2 m2 e2 As2 a2 w2 q1 q2 q3 => hk fl2 flv2 m2 e2 As2 a2 w2 q1 (g3.trans q2) (g4.trans q3)) (fun s2 v2 fl2 flv2 m2 e2 As2 a2 w2 q1 q2 q3 => hp s2 v2 fl2 flv2 m2 e2 As2 a2 w2 q1 (g3.trans q2) (g4.trans q3))) hp
 | .two i t j u, q, S, cl, fl, flv, m, e, As, a, w, k, r, h, hcl, hq0, hf, hl, h1, h2, hk, hp => by
  simp only [drwX] at h
  obtain ⟨ha, hb⟩ := agree_ok h
  exact ⟨stpX_ok hc ha hcl hq0 hf hl h1 h2 (fun cl' S' fl' flv' m' e' As' a' w' g1 g2 gq g3 g4 g5 g6 g7 g8 => drwX_ok hc t g1 g2 gq g5 g6 g7 g8 (fun fl2 flv2 m2 e2 As2 a2 w2 q1 q2 q3 => hk fl2 flv2 m2 e2 As2 a2 w2 q1 (g3.trans q2) (g4.trans q3)) (fun s2 v2 fl2 flv2 m2 e2 As2 a2 w2 q1 q2 q3 => hp s2 v2 fl2 flv2 m2 e2 As2 a2 w2 q1 (g3.trans q2) (g4.trans q3))) hp,
   stpX_ok hc hb hcl hq0 hf hl h1 h2 (fun cl' S' fl' flv' m' e' As' a' w' g1 g2 gq g3 g4 g5 g6 g7 g8 => drwX_ok hc u g1 g2 gq g5 g6 g7 g8 (fun fl2 flv2 m2 e2 As2 a2 w2 q1 q2 q3 => hk fl2 flv2 m2 e2 As2 a2 w2 q1 (g3.trans q2) (g4.trans q3)) (fun s2 v2 fl2 flv2 m2 e2 As2 a2 w2 q1 q2 q3 => hp s2 v2 fl2 flv2 m2 e2 As2 a2 w2 q1 (g3.trans q2) (g4.trans q3))) hp⟩
 | .three i t j u l v, q, S, cl, fl, flv, m, e, As, a, w, k, r, h, hcl, hq0, hf, hl, h1, h2, hk, hp => by
  simp only [drwX] at h
  obtain ⟨ha, hb0⟩ := agree_ok h
  obtain ⟨hb, hb2⟩ := agree_ok hb0
  exact ⟨stpX_ok hc ha hcl hq0 hf hl h1 h2 (fun cl' S' fl' flv' m' e' As' a' w' g1 g2 gq g3 g4 g5 g6 g7 g8 => drwX_ok hc t g1 g2 gq g5 g6 g7 g8 (fun fl2 flv2 m2 e2 As2 a2 w2 q1 q2 q3 => hk fl2 flv2 m2 e2 As2 a2 w2 q1 (g3.trans q2) (g4.trans q3)) (fun s2 v2 fl2 flv2 m2 e2 As2 a2 w2 q1 q2 q3 => hp s2 v2 fl2 flv2 m2 e2 As2 a2 w2 q1 (g3.trans q2) (g4.trans q3))) hp,
   stpX_ok hc hb hcl hq0 hf hl h1 h2 (fun cl' S' fl' flv' m' e' As' a' w' g1 g2 gq g3 g4 g5 g6 g7 g8 => drwX_ok hc u g1 g2 gq g5 g6 g7 g8 (fun fl2 flv2 m2 e2 As2 a2 w2 q1 q2 q3 => hk fl2 flv2 m2 e2 As2 a2 w2 q1 (g3.trans q2) (g4.trans q3)) (fun s2 v2 fl2 flv2 m2 e2 As2 a2 w2 q1 q2 q3 => hp s2 v2 fl2 flv2 m2 e2 As2 a2 w2 q1 (g3.trans q2) (g4.trans q3))) hp,
   stpX_ok hc hb2 hcl hq0 hf hl h1 h2 (fun cl' S' fl' flv' m' e' As' a' w' g1 g2 gq g3 g4 g5 g6 g7 g8 => drwX_ok hc v g1 g2 gq g5 g6 g7 g8 (fun fl2 flv2 m2 e2 As2 a2 w2 q1 q2 q3 => hk fl2 flv2 m2 e2 As2 a2 w2 q1 (g3.trans q2) (g4.trans q3)) (fun s2 v2 fl2 flv2 m2 e2 As2 a2 w2 q1 q2 q3 => hp s2 v2 fl2 flv2 m2 e2 As2 a2 w2 q1 (g3.trans q2) (g4.trans q3))) hp⟩
 | .four i t j u l v o x, q, S, cl, fl, flv, m, e, As, a, w, k, r, h, hcl, hq0, hf, hl, h1, h2, hk, hp => by
  simp only [drwX] at h
  obtain ⟨ha, hb0⟩ := agree_ok h
  obtain ⟨hb, hc0⟩ := agree_ok hb0
  obtain ⟨hb2, hb3⟩ := agree_ok hc0
  exact ⟨stpX_ok hc ha hcl hq0 hf hl h1 h2 (fun cl' S' fl' flv' m' e' As' a' w' g1 g2 gq g3 g4 g5 g6 g7 g8 => drwX_ok hc t g1 g2 gq g5 g6 g7 g8 (fun fl2 flv2 m2 e2 As2 a2 w2 q1 q2 q3 => hk fl2 flv2 m2 e2 As2 a2 w2 q1 (g3.trans q2) (g4.trans q3)) (fun s2 v2 fl2 flv2 m2 e2 As2 a2 w2 q1 q2 q3 => hp s2 v2 fl2 flv2 m2 e2 As2 a2 w2 q1 (g3.trans q2) (g4.trans q3))) hp,
   stpX_ok hc hb hcl hq0 hf hl h1 h2 (fun cl' S' fl' flv' m' e' As' a' w' g1 g2 gq g3 g4 g5 g6 g7 g8 => drwX_ok hc u g1 g2 gq g5 g6 g7 g8 (fun fl2 flv2 m2 e2 As2 a2 w2 q1 q2 q3 => hk fl2 flv2 m2 e2 As2 a2 w2 q1 (g3.trans q2) (g4.trans q3)) (fun s2 v2 fl2 flv2 m2 e2 As2 a2 w2 q1 q2 q3 => hp s2 v2 fl2 flv2 m2 e2 As2 a2 w2 q1 (g3.trans q2) (g4.trans q3))) hp,
   stpX_ok hc hb2 hcl hq0 hf hl h1 h2 (fun cl' S' fl' flv' m' e' As' a' w' g1 g2 gq g3 g4 g5 g6 g7 g8 => drwX_ok hc v g1 g2 gq g5 g6 g7 g8 (fun fl2 flv2 m2 e2 As2 a2 w2 q1 q2 q3 => hk fl2 flv2 m2 e2 As2 a2 w2 q1 (g3.trans q2) (g4.trans q3)) (fun s2 v2 fl2 flv2 m2 e2 As2 a2 w2 q1 q2 q3 => hp s2 v2 fl2 flv2 m2 e2 As2 a2 w2 q1 (g3.trans q2) (g4.trans q3))) hp,
   stpX_ok hc hb3 hcl hq0 hf hl h1 h2 (fun cl' S' fl' flv' m' e' As' a' w' g1 g2 gq g3 g4 g5 g6 g7 g8 => drwX_ok hc x g1 g2 gq g5 g6 g7 g8 (fun fl2 flv2 m2 e2 As2 a2 w2 q1 q2 q3 => hk fl2 flv2 m2 e2 As2 a2 w2 q1 (g3.trans q2) (g4.trans q3)) (fun s2 v2 fl2 flv2 m2 e2 As2 a2 w2 q1 q2 q3 => hp s2 v2 fl2 flv2 m2 e2 As2 a2 w2 q1 (g3.trans q2) (g4.trans q3))) hp⟩
end Go.K
namespace Go.K
open Go.Sl Go.Sx
variable {e e' e0 : KE} {σ : List Blk} {As As0 L0 L : List Atom} {P : Program} {w : World} {N : Nat} {fl : SFL} {flv : FL} {ρ : Type} {h : Zone} {a : Act} {ds : List Deferred}
theorem FLIs.back {e e' : KE} (h : e.le e') : ∀ {l : SFL} {m m' : FL}, FLIs e l m → FLIs e' l m' → FLIs ⟨e'.z, e.bs⟩ l m'
 | [], [], [], _, _ => trivial
 | (_, _) :: _, (_, _) :: _, (_, _) :: _, ⟨_, h2, h3⟩, ⟨k1, k2, k3⟩ => ⟨k1, h2.back h k2, h3.back h k3⟩
 | [], _ :: _, _, h, _ => h.elim
 | _ :: _, [], _, h, _ => h.elim
 | [], [], _ :: _, _, k => k.elim
 | _ :: _, _ :: _, [], _, k => k.elim
abbrev DF := FuncId × List SV
structure KS where
 fl : SFL
 m : KM
 ds : List DF := []
 rg : Bool := false
def DsIs (e : KE) : List DF → List Deferred → Prop
 | [], [] => True
 | (f, c) :: r, d :: r' => (∃ us vs, d = { target := .fn (.func f) vs.toArray, args := us.toArray } ∧ IsL e c (us ++ vs)) ∧ DsIs e r r'
 | _, _ => False
theorem DsIs.mono (h : e.le e') : ∀ {l : List DF} {m : List Deferred}, DsIs e l m → DsIs e' l m
 | [], [], _ => trivial
 | (_, _) :: _, _ :: _, ⟨⟨us, vs, h1, h2⟩, h3⟩ => ⟨⟨us, vs, h1, h2.mono h⟩, h3.mono h⟩
 | [], _ :: _, h => h.elim
 | _ :: _, [], h => h.elim
theorem DsIs.len : ∀ {l : List DF} {m : List Deferred}, DsIs e l m → l.length = m.length
 | [], [], _ => rfl
 | (_, _) :: _, _ :: _, ⟨_, h3⟩ => by simp [h3.len]
 | [], _ :: _, h => h.elim
 | _ :: _, [], h => h.elim
def mkD (d : Deferred) : Option Nat := match d.target with
 | .collected r => some r
 | _ => none
def marksOf (dv : List Deferred) : List Nat := dv.filterMap mkD
def noMk (dv : List Deferred) : List Deferred := dv.filter fun d => (mkD d).isNone
def mkA (dv : List Deferred) : List Atom := (marksOf dv).map defA
theorem noMk_app (a b : List Deferred) : noMk (a ++ b) = noMk a ++ noMk b := List.filter_append ..
def DX (ds ds' : List Deferred) : Prop := ∃ q, ds' = q ++ ds
theorem DX.refl : DX ds ds := ⟨[], rfl⟩
theorem DX.trans {a b c : List Deferred} : DX a b → DX b c → DX a c := fun ⟨q, h⟩ ⟨q', h'⟩ => ⟨q' ++ q, by rw [h', h, List.append_assoc]⟩
theorem DX.same {a b : List Deferred} (h : DX a b) (hl : (noMk b).length = (noMk a).length) : noMk b = noMk a := by
 obtain ⟨q, rfl⟩ := h
 rw [noMk_app] at hl ⊢
 have : noMk q = [] := by
  cases hq : noMk q with
  | nil => rfl
  | cons => rw [hq] at hl; simp at hl; omega
 rw [this]; rfl
structure KR (N : Nat) (L0 : List Atom) (e : KE) (As : List Atom) (flv : FL) (dv : List Deferred) (s : KS) (a : Act) (w : World) : Prop where
 fr : Fr a N flv dv
 fl : FLIs e s.fl flv
 mem : Mem e s.m.σ As
 st : St e.z (As ++ (mkA dv ++ L0)) w
 dI : DsIs e s.ds (noMk dv)
 rI : s.rg = false → marksOf dv = []
inductive Pl where
 | slot (t : Nat) | cell (t j : Nat) (is : List Nat := [])
inductive Kd where
 | dat (u : TC) | agg (u : TC) | own (u : TC) (E : TypeId) | oo (u : TC) (E E2 : TypeId) | bx (T : TypeId) (u : TC) (E E2 : TypeId) | b2 (T : TypeId) (u : TC) (E : TypeId)
abbrev Kd.ty : Kd → Type
 | .dat u => u.den | .agg u => u.den | .own u _ => List u.den | .oo u _ _ => List (List u.den) | .bx _ u _ _ => List (List u.den) | .b2 _ u _ => List u.den × List u.den
abbrev Vr := Pl × Kd
abbrev vty : List Vr → Type
 | [] => Unit
 | [v] => v.2.ty
 | v :: v' :: l => v.2.ty × vty (v' :: l)
def wlk : List Nat → SV → Nat → Option (Nat × Nat)
 | [], .ptr id off, j => some (id, off + j)
 | i :: is, .fn _ _ caps, j => match caps[i]? with
  | some v => wlk is v j
  | none => none
 | i :: is, .yld _ fr, j => match fr[i]? with
  | some v => wlk is v j
  | none => none
 | _, _, _ => none
def plc (fl : SFL) (t j : Nat) (is : List Nat) : Option (Nat × Nat) := match lookS fl t with
 | some v => wlk is v j
 | none => none
def rdP (fl : SFL) (s : KS) : Pl → Option SV
 | .slot t => match lookS s.fl t with
  | some v => some (res s.m.σ v)
  | none => none
 | .cell t j is => match plc fl t j is with
  | some (id, q) => match at' s.m.σ id with
   | some (.cells _ cs) => match cs[q]? with
    | some v => some (res s.m.σ v)
    | none => none
   | _ => none
  | none => none
def takeK (n : Nat) (gone : List Nat) (σ : List Blk) : (k : Kd) → SV → Option (k.ty × List Blk)
 | .dat u, s => match u.ofL [s] with
  | some (x, []) => some (x, σ)
  | _ => none
 | .agg u, .agg cs => match u.ofL cs with
  | some (x, []) => some (x, σ)
  | _ => none
 | .own u E, .own id => match at' σ id with
  | some (.own u' E' xs) => bif Nat.beq E' E && (Nat.ble n id || gone.contains id) then (if h : u' = u then some (h ▸ xs, setAt σ id .gone) else none) else none
  | _ => none
 | .own u E, .raw v => bif isNil v then some ([], σ) else none
 | .oo u E E2, .own id => match at' σ id with
  | some (.oo u' E' E2' xss none) => bif Nat.beq E' E && (Nat.beq E2' E2 && (Nat.ble n id || gone.contains id)) then (if h : u' = u then some (h ▸ xss, setAt σ id .gone) else none) else none
  | _ => none
 | .bx T u E E2, .ptr id 0 => match at' σ id with
  | some (.cells T' [.own id2]) => match at' σ id2 with
   | some (.oo u' E' E2' xss none) => bif Nat.beq T' T && (Nat.beq E' E && (Nat.beq E2' E2 && (Nat.ble n id && (Nat.ble n id2 && !Nat.beq id id2)))) then (if h : u' = u then some (h ▸ xss, setAt (setAt σ id2 .gone) id .gone) else none) else none
   | _ => none
  | _ => none
 | .b2 T u E, .ptr id 0 => match at' σ id with
  | some (.cells T' [.own id1, .own id2]) => match at' σ id1 with
   | some (.own u1 E1 xs) => match at' σ id2 with
    | some (.own u2 E2 ys) => bif Nat.beq T' T && (Nat.beq E1 E && (Nat.beq E2 E && (Nat.ble n id && (Nat.ble n id1 && (Nat.ble n id2 && (!Nat.beq id id1 && (!Nat.beq id id2 && !Nat.beq id1 id2))))))) then (if h : u1 = u then (if h2 : u2 = u then some ((h ▸ xs, h2 ▸ ys), setAt (setAt (setAt σ id1 .gone) id2 .gone) id .gone) else none) else none) else none
    | _ => none
   | _ => none
  | _ => none
 | _, _ => none
def giveK (σ : List Blk) : (k : Kd) → k.ty → SV × List Blk
 | .dat u, x => ((u.exp x).headD .any, σ)
 | .agg u, x => (.agg (u.exp x), σ)
 | .own u E, xs => (.own σ.length, .own u E xs :: σ)
 | .oo u E E2, xss => (.own σ.length, .oo u E E2 xss none :: σ)
 | .bx T u E E2, xss => (.ptr (σ.length + 1) 0, .cells T [.own σ.length] :: .oo u E E2 xss none :: σ)
 | .b2 T u E, p => (.ptr (σ.length + 2) 0, .cells T [.own σ.length, .own (σ.length + 1)] :: .own u E p.2 :: .own u E p.1 :: σ)
def putP (fl0 : SFL) (s : SV) (fl : SFL) (σ : List Blk) : Pl → SFL × List Blk
 | .slot t => ((t, s) :: fl, σ)
 | .cell t j is => match plc fl0 t j is with
  | some (id, q) => match at' σ id with
   | some (.cells T cs) => (fl, setAt σ id (.cells T (cs.set q s)))
   | _ => (fl, σ)
  | none => (fl, σ)
def getV (fl : SFL) (n : Nat) (gone : List Nat) : (l : List Vr) → KS → Option (vty l)
 | [], _ => some ()
 | [v], s => match rdP fl s v.1 with
  | some x => match takeK n gone s.m.σ v.2 x with
   | some (y, _) => some y
   | none => none
  | none => none
 | v :: v' :: l, s => match rdP fl s v.1 with
  | some x => match takeK n gone s.m.σ v.2 x with
   | some (y, σ') => match getV fl n gone (v' :: l) ⟨s.fl, ⟨σ', s.m.lg⟩, s.ds, s.rg⟩ with
    | some z => some (y, z)
    | none => none
   | none => none
  | none => none
def putV (fl0 : SFL) : (l : List Vr) → vty l → SFL → List Blk → SFL × List Blk
 | [], _, fl, σ => (fl, σ)
 | [v], y, fl, σ => match giveK σ v.2 y with
  | (x, σ') => putP fl0 x fl σ' v.1
 | v :: v' :: l, y, fl, σ => match giveK σ v.2 y.1 with
  | (x, σ') => match putP fl0 x fl σ' v.1 with
   | (fl', σ'') => putV fl0 (v' :: l) y.2 fl' σ''
structure Mid (N : Nat) (ds : List Deferred) (L0 : List Atom) (e : KE) (n : Nat) (gone : List Nat) (fl0 : SFL) (flv0 : FL) (a : Act) (w : World)
  (e' : KE) (A' : List Atom) (flv' : FL) (s' : KS) (c : KE) (F : List Atom) (flvc : FL) (flc : SFL) (σc : List Blk) : Prop where
 le : e.le e'
 hn : n = e.bs.length
 m' : Mem e' s'.m.σ A'
 f' : FLIs e' s'.fl flv'
 fr' : Fr a N flv' ds
 cz : c.z = e'.z
 cb : ∃ l, c.bs = l ++ e.bs
 mc : Mem c σc (F ++ A'.drop (A'.length - n))
 hg : ∀ id, gone.contains id = true → id < n → at' σc id = some .gone
 fc : FLIs c flc flvc
 frc : Fr a N flvc ds
 fx : FX fl0 flv0 flc flvc
 f0 : FLIs e fl0 flv0
 st : St e'.z (F ++ A' ++ L0) w
 big : n ≤ A'.length
variable {n : Nat} {gone : List Nat} {fl0 : SFL} {flv0 : FL} {A' F : List Atom} {flv' flvc : FL} {s' : KS} {c : KE} {flc : SFL} {σc : List Blk}
theorem rep_is {c : KE} (hz : c.z = e'.z) (u : TC) {x : u.den} {cs : List Value} (h : u.ty.rep e'.z cs x) : IsL c (u.exp x) cs := by
 rw [← hz] at h; exact exp_is u h
theorem box_inj {b b' : Nat} {vs vs' : List Value} {T T' : TypeId} (h : box b vs T = box b' vs' T') : b = b' ∧ vs = vs' ∧ T = T' := by
 have h1 : (box b vs T).P (Zone.all default) (Hp.one b (.cells vs.toArray T (0, 0))) := rfl
 rw [h] at h1
 have h2 : Hp.one b (.cells vs.toArray T (0, 0)) = Hp.one b' (.cells vs'.toArray T' (0, 0)) := h1
 have h3 := congrFun h2 b
 unfold Hp.one at h3
 simp only [if_true] at h3
 split at h3
 ·rename_i e
  simp only [zI, Obj.cells.injEq] at h3
  exact ⟨e, by simpa using h3.1, h3.2.1⟩
 ·cases h3
theorem at_drop {α : Type} {l : List α} {n id : Nat} {x : α} (hn : n ≤ l.length) (h : at' (l.drop (l.length - n)) id = some x) : at' l id = some x := by
 have := at_app h (l.take (l.length - n))
 rwa [List.take_append_drop] at this
theorem drop_len {α : Type} {l : List α} {n : Nat} (hn : n ≤ l.length) : (l.drop (l.length - n)).length = n := by simp; omega
theorem Mid.base (h : Mid N ds L0 e n gone fl0 flv0 a w e' A' flv' s' c F flvc flc σc) {id : Nat} (hid : id < n) {A : Atom} (hA : at' (F ++ A'.drop (A'.length - n)) id = some A) : at' A' id = some A := by
 have hl := drop_len h.big
 obtain ⟨B, hB⟩ := at_some (l := A'.drop (A'.length - n)) (id := id) (by rw [hl]; exact hid)
 have := at_app hB F
 rw [this] at hA; cases hA
 exact at_drop h.big hB
theorem Mid.put_slot (h : Mid N ds L0 e n gone fl0 flv0 a w e' A' flv' s' c F flvc flc σc) {t : Nat} {x : SV} {v : Value} (hv : Sx.look flv' t = some v) (hx : Is c x v) :
  Mid N ds L0 e n gone fl0 flv0 a w e' A' flv' s' c F ((t, v) :: flvc) ((t, x) :: flc) σc :=
 { h with
  fc := ⟨rfl, hx, h.fc⟩
  frc := ⟨h.frc.size, h.frc.defers, fun q u hq => by
   simp only [Sx.look] at hq
   cases hb : Nat.beq t q with
   | true => rw [hb] at hq; have := zN hb; subst this; cases hq; exact h.fr'.look _ _ hv
   | false => rw [hb] at hq; exact h.frc.look _ _ hq⟩
  fx := h.fx.trans (FX.put (some t) x v) }
theorem wlk_lt : ∀ {is : List Nat} {s : SV} {v : Value} {j id q : Nat}, Is e s v → wlk is s j = some (id, q) → id < e.bs.length
 | [], .ptr id' off, v, j, id, q, h, hp => by
  cases hp
  cases h with
  | ptr hi => exact at_lt hi
 | i :: is, .fn f a caps, v, j, id, q, h, hp => by
  simp only [wlk] at hp
  split at hp
  ·rename_i s' hs
   cases h with
   | fn h1 h2 =>
    obtain ⟨u, _, hu⟩ := h2.get hs
    exact wlk_lt hu hp
  ·cases hp
 | i :: is, .yld id' fr, v, j, id, q, h, hp => by
  simp only [wlk] at hp
  split at hp
  ·rename_i s' hs
   cases h with
   | yld h1 h2 =>
    obtain ⟨u, _, hu⟩ := h2.get hs
    exact wlk_lt hu hp
  ·cases hp
 | [], .int .., _, _, _, _, _, hp => by simp [wlk] at hp
 | [], .bool .., _, _, _, _, _, hp => by simp [wlk] at hp
 | [], .str .., _, _, _, _, _, hp => by simp [wlk] at hp
 | [], .raw .., _, _, _, _, _, hp => by simp [wlk] at hp
 | [], .own .., _, _, _, _, _, hp => by simp [wlk] at hp
 | [], .sl .., _, _, _, _, _, hp => by simp [wlk] at hp
 | [], .el .., _, _, _, _, _, hp => by simp [wlk] at hp
 | [], .oel .., _, _, _, _, _, hp => by simp [wlk] at hp
 | [], .agg .., _, _, _, _, _, hp => by simp [wlk] at hp
 | [], .tup .., _, _, _, _, _, hp => by simp [wlk] at hp
 | [], .fn .., _, _, _, _, _, hp => by simp [wlk] at hp
 | [], .ifc .., _, _, _, _, _, hp => by simp [wlk] at hp
 | [], .nilp .., _, _, _, _, _, hp => by simp [wlk] at hp
 | [], .yld .., _, _, _, _, _, hp => by simp [wlk] at hp
 | [], .mp .., _, _, _, _, _, hp => by simp [wlk] at hp
 | [], .nsl .., _, _, _, _, _, hp => by simp [wlk] at hp
 | [], .mpc .., _, _, _, _, _, hp => by simp [wlk] at hp
 | [], .any, _, _, _, _, _, hp => by simp [wlk] at hp
 | _ :: _, .int .., _, _, _, _, _, hp => by simp [wlk] at hp
 | _ :: _, .bool .., _, _, _, _, _, hp => by simp [wlk] at hp
 | _ :: _, .str .., _, _, _, _, _, hp => by simp [wlk] at hp
 | _ :: _, .raw .., _, _, _, _, _, hp => by simp [wlk] at hp
 | _ :: _, .ptr .., _, _, _, _, _, hp => by simp [wlk] at hp
 | _ :: _, .own .., _, _, _, _, _, hp => by simp [wlk] at hp
 | _ :: _, .sl .., _, _, _, _, _, hp => by simp [wlk] at hp
 | _ :: _, .el .., _, _, _, _, _, hp => by simp [wlk] at hp
 | _ :: _, .oel .., _, _, _, _, _, hp => by simp [wlk] at hp
 | _ :: _, .agg .., _, _, _, _, _, hp => by simp [wlk] at hp
 | _ :: _, .tup .., _, _, _, _, _, hp => by simp [wlk] at hp
 | _ :: _, .ifc .., _, _, _, _, _, hp => by simp [wlk] at hp
 | _ :: _, .nilp .., _, _, _, _, _, hp => by simp [wlk] at hp
 | _ :: _, .mp .., _, _, _, _, _, hp => by simp [wlk] at hp
 | _ :: _, .nsl .., _, _, _, _, _, hp => by simp [wlk] at hp
 | _ :: _, .mpc .., _, _, _, _, _, hp => by simp [wlk] at hp
 | _ :: _, .any, _, _, _, _, _, hp => by simp [wlk] at hp
theorem plc_lt (h : FLIs e fl0 flv0) {t j id q : Nat} {is : List Nat} (hp : plc fl0 t j is = some (id, q)) : id < e.bs.length := by
 unfold plc at hp
 split at hp
 ·rename_i s hl
  obtain ⟨v, _, hv⟩ := h.look hl
  exact wlk_lt hv hp
 ·cases hp
theorem list_set_same {α : Type} {l : List α} {i : Nat} {x : α} (h : l[i]? = some x) : l.set i x = l := by
 apply List.ext_getElem?
 intro j
 by_cases hj : i = j
 ·subst hj
  have hlt := (List.getElem?_eq_some_iff.1 h).1
  rw [List.getElem?_set_self hlt, h]
 ·rw [List.getElem?_set_ne hj]
theorem Mid.put_cell (h : Mid N ds L0 e n gone fl0 flv0 a w e' A' flv' s' c F flvc flc σc) {t j id q : Nat} {is : List Nat} (hp : plc fl0 t j is = some (id, q)) {T' : TypeId} {cs' : List SV} {sv : SV} {v : Value} {i' : BI} {vs' : List Value}
  (hi' : at' A' id = some (box i'.b vs' T')) (hv : vs'[q]? = some v) {x : SV} (hx : Is c x v) :
  Mid N ds L0 e n gone fl0 flv0 a w e' A' flv' s' c F flvc (putP fl0 x flc σc (.cell t j is)).1 (putP fl0 x flc σc (.cell t j is)).2 := by
 have hid : id < n := by rw [h.hn]; exact plc_lt h.f0 hp
 simp only [putP, hp]
 split
 ·rename_i T cs hB
  obtain ⟨i, A, m1, m2, m3⟩ := h.mc.get hB
  have hA := h.base hid m2
  rw [hi'] at hA
  cases m3 with
  | cells hl hone =>
   rename_i vs
   obtain ⟨rb, rfl, rT⟩ := box_inj (Option.some.inj hA)
   have hset : IsL c (cs.set q x) vs' := by
    have := hl.set hx q
    rwa [list_set_same hv] at this
   have hm := h.mc.set (B := .cells T (cs.set q x)) m1 (.cells hset hone)
   have e1 : setAt (F ++ A'.drop (A'.length - n)) id (box i.b vs' T) = F ++ A'.drop (A'.length - n) := by
    unfold setAt
    exact list_set_same (at_pos m2)
   rw [e1] at hm
   refine { h with mc := hm, hg := fun g hg1 hg2 => ?_ }
   have hne : id ≠ g := fun e => by subst e; rw [h.hg id hg1 hg2] at hB; cases hB
   show at' (setAt σc id _) g = _
   rw [at_set_ne (at_lt hB) hne]
   exact h.hg g hg1 hg2
 ·exact h
theorem Mid.pushB (h : Mid N ds L0 e n gone fl0 flv0 a w e' A' flv' s' c F flvc flc σc) {B : Blk} {A : Atom} {i : BI} (hk : BlkIs (c.push i) B i A) {A1 : List Atom} {σ1 : List Blk}
  (hm : Mem e' σ1 A1) (hst : St e'.z (A :: (F ++ A1 ++ L0)) w) (hl : A1.length = A'.length) (hmc : Mem c σc (F ++ A1.drop (A1.length - n))) :
  Mid N ds L0 e n gone fl0 flv0 a w e' A1 flv' ⟨s'.fl, ⟨σ1, s'.m.lg⟩, s'.ds, s'.rg⟩ (c.push i) (A :: F) flvc flc (B :: σc) :=
 { h with
  m' := hm
  cb := by
   obtain ⟨l, e1⟩ := h.cb
   exact ⟨i :: l, by simp [KE.push, e1]⟩
  mc := hmc.push hk
  hg := fun id h1 h2 => at_cons (h.hg id h1 h2)
  fc := h.fc.mono (KE.le_push c i)
  st := hst
  big := by rw [hl]; exact h.big }
theorem Mid.push (h : Mid N ds L0 e n gone fl0 flv0 a w e' A' flv' s' c F flvc flc σc) {u : TC} {E : TypeId} {xs : List u.den} {i : BI} (hn : xs.length = i.n) {A1 : List Atom} {σ1 : List Blk}
  (hm : Mem e' σ1 A1) (hst : St e'.z (ownS u.ty E i.o i.c xs :: (F ++ A1 ++ L0)) w) (hl : A1.length = A'.length) (hmc : Mem c σc (F ++ A1.drop (A1.length - n))) :
  Mid N ds L0 e n gone fl0 flv0 a w e' A1 flv' ⟨s'.fl, ⟨σ1, s'.m.lg⟩, s'.ds, s'.rg⟩ (c.push i) (ownS u.ty E i.o i.c xs :: F) flvc flc (.own u E xs :: σc) := h.pushB (.own hn) hm hst hl hmc
theorem Mid.takeB (h : Mid N ds L0 e n gone fl0 flv0 a w e' A' flv' s' c F flvc flc σc) {B : Blk} {A : Atom} {id : Nat} {i : BI} (m1 : at' e'.bs id = some i) (m3 : at' A' id = some A) (hk : BlkIs (c.push i) B i A) (hid : (Nat.ble n id || gone.contains id) = true) :
  id < A'.length ∧ Mid N ds L0 e n gone fl0 flv0 a w e' (setAt A' id emp) flv' ⟨s'.fl, ⟨setAt s'.m.σ id .gone, s'.m.lg⟩, s'.ds, s'.rg⟩ (c.push i) (A :: F) flvc flc (B :: σc) := by
 have hlt := at_lt m3
 refine ⟨hlt, h.pushB hk (h.m'.set m1 .gone) ?_ (len_setAt _ _ _) ?_⟩
 ·have hpos : (F ++ A' ++ L0)[F.length + (A'.length - 1 - id)]? = some (A) := by
   rw [List.append_assoc, List.getElem?_append_right (by omega), show F.length + (A'.length - 1 - id) - F.length = A'.length - 1 - id by omega]
   exact Mem.atom m3
  have hset : (F ++ A' ++ L0).set (F.length + (A'.length - 1 - id)) (A) = F ++ A' ++ L0 := list_set_same hpos
  have h1 := h.st
  rw [← hset] at h1
  have h2 := st_front h1 (by simp; omega)
  have h3 : (F ++ A' ++ L0).set (F.length + (A'.length - 1 - id)) emp = F ++ setAt A' id emp ++ L0 := by
   rw [List.append_assoc, List.set_append_right _ _ (by omega), show F.length + (A'.length - 1 - id) - F.length = A'.length - 1 - id by omega, setAt_app hlt, List.append_assoc]
  rw [h3] at h2
  exact h2
 ·rw [len_setAt]
  rcases Nat.lt_or_ge id n with hl | hg
  ·have hgo : gone.contains id = true := by
    rcases Bool.or_eq_true_iff.1 hid with h1 | h1
    ·have := Nat.le_of_ble_eq_true h1; omega
    ·exact h1
   have hgone := h.hg id hgo hl
   obtain ⟨i2, A2, k1, k2, k3⟩ := h.mc.get hgone
   have hm := h.mc.set (B := .gone) (A := emp) k1 .gone
   have e1 : setAt σc id .gone = σc := by unfold setAt; exact list_set_same (at_pos hgone)
   have hdl := drop_len h.big
   have e2 : setAt (F ++ A'.drop (A'.length - n)) id emp = F ++ (setAt A' id emp).drop (A'.length - n) := by
    unfold setAt
    have hbig := h.big
    rw [List.length_append, hdl, List.set_append_right _ _ (by omega), List.drop_set, if_neg (by omega), show F.length + n - 1 - id - F.length = A'.length - 1 - id - (A'.length - n) by omega]
   rw [e1, e2] at hm
   exact hm
  ·have e1 : (setAt A' id emp).drop (A'.length - n) = A'.drop (A'.length - n) := by
    unfold setAt
    rw [List.drop_set_of_lt (by omega)]
   rw [e1]; exact h.mc
theorem Mid.own (h : Mid N ds L0 e n gone fl0 flv0 a w e' A' flv' s' c F flvc flc σc) {u : TC} {E : TypeId} {id : Nat} {xs : List u.den} (hB : at' s'.m.σ id = some (.own u E xs)) (hid : (Nat.ble n id || gone.contains id) = true) :
  ∃ i, at' e'.bs id = some i ∧ id < A'.length ∧ Mid N ds L0 e n gone fl0 flv0 a w e' (setAt A' id emp) flv' ⟨s'.fl, ⟨setAt s'.m.σ id .gone, s'.m.lg⟩, s'.ds, s'.rg⟩ (c.push i) (ownS u.ty E i.o i.c xs :: F) flvc flc (.own u E xs :: σc) := by
 obtain ⟨i, m1, m2, m3⟩ := h.m'.len hB
 obtain ⟨h1, h2⟩ := h.takeB m1 m3 (.own m2) hid
 exact ⟨i, m1, h1, h2⟩
theorem Mid.nil (h : Mid N ds L0 e n gone fl0 flv0 a w e' A' flv' s' c F flvc flc σc) (u : TC) (E : TypeId) :
  Mid N ds L0 e n gone fl0 flv0 a w e' A' flv' s' (c.push ⟨0, none, 0, 0⟩) (ownS u.ty E none 0 [] :: F) flvc flc (.own u E [] :: σc) :=
 h.push (i := ⟨0, none, 0, 0⟩) rfl h.m' (h.st.ownNil u.ty E) rfl h.mc
end Go.K
namespace Go.K
open Go.Sl Go.Sx
variable {e e' e0 : KE} {σ : List Blk} {As As0 L0 L : List Atom} {P : Program} {w : World} {N : Nat} {fl : SFL} {flv : FL} {ρ : Type} {h : Zone} {a : Act} {ds : List Deferred}
variable {n : Nat} {gone : List Nat} {fl0 : SFL} {flv0 : FL} {A' F : List Atom} {flv' flvc : FL} {s' : KS} {c : KE} {flc : SFL} {σc : List Blk}
theorem one_is {c : KE} {u : TC} {y : u.den} {v : Value} (k : IsL c (u.exp y) [v]) : Is c ((u.exp y).headD .any) v := by
 generalize u.exp y = l at k
 cases k with
 | cons h1 h2 => exact h1
theorem kd_step (h : Mid N ds L0 e n gone fl0 flv0 a w e' A' flv' s' c F flvc flc σc) {kd : Kd} {sv : SV} {v : Value} (hv : Is e' sv v) {y : kd.ty} {σ1 : List Blk} (ht : takeK n gone s'.m.σ kd sv = some (y, σ1)) :
  ∃ c' F' A1, Mid N ds L0 e n gone fl0 flv0 a w e' A1 flv' ⟨s'.fl, ⟨σ1, s'.m.lg⟩, s'.ds, s'.rg⟩ c' F' flvc flc (giveK σc kd y).2 ∧ Is c' (giveK σc kd y).1 v ∧ ∀ {jd T cs}, jd < n → at' s'.m.σ jd = some (.cells T cs) → at' A1 jd = at' A' jd := by
 unfold takeK at ht
 split at ht
 ·rename_i u
  split at ht
  ·rename_i x hx
   simp only [zI, Prod.mk.injEq] at ht
   obtain ⟨rfl, rfl⟩ := ht
   obtain ⟨v1, v2, q1, q2, q3⟩ := ofL_is u hx (.cons hv .nil)
   cases q3
   rw [List.append_nil] at q1
   subst q1
   exact ⟨c, F, A', h, one_is (rep_is h.cz u q2), fun _ _ => rfl⟩
  ·cases ht
 ·rename_i u cs
  split at ht
  ·rename_i x hx
   simp only [zI, Prod.mk.injEq] at ht
   obtain ⟨rfl, rfl⟩ := ht
   cases hv with
   | agg hl =>
    obtain ⟨v1, v2, q1, q2, q3⟩ := ofL_is u hx hl
    cases q3
    rw [List.append_nil] at q1
    subst q1
    exact ⟨c, F, A', h, .agg (rep_is h.cz u q2), fun _ _ => rfl⟩
  ·cases ht
 ·rename_i u E id
  split at ht
  ·rename_i u' E' xs hB
   cases hb : (Nat.beq E' E && (Nat.ble n id || gone.contains id)) with
   | false => rw [hb] at ht; cases ht
   | true =>
    rw [hb] at ht
    simp only [zT] at ht
    simp only [za] at hb
    have hE := zN hb.1
    subst hE
    split at ht
    ·rename_i hu
     subst hu
     simp only [zI, Prod.mk.injEq] at ht
     obtain ⟨rfl, rfl⟩ := ht
     cases hv with
     | own hi =>
      rename_i i
      have hm' := h.m'
      obtain ⟨i2, m1, hlt, hM⟩ := h.own hB hb.2
      rw [hi] at m1; cases m1
      refine ⟨_, _, _, hM, ?_, fun {jd T cs} _ hj => ?_⟩
      ·show Is _ (.own σc.length) _
       exact .own (by
        have hlb := h.mc.lb
        show at' (_ :: c.bs) σc.length = _
        rw [hlb]; exact at_new)
      ·exact at_set_ne hlt fun e => by subst e; rw [hB] at hj; cases hj
    ·cases ht
  ·cases ht
 ·rename_i u E v'
  cases hn : isNil v' with
  | false => rw [hn] at ht; cases ht
  | true =>
   rw [hn] at ht
   simp only [zT, zI, Prod.mk.injEq] at ht
   obtain ⟨rfl, rfl⟩ := ht
   have := isNil_eq hn
   subst this
   cases hv
   refine ⟨_, _, A', h.nil u E, ?_, fun _ _ => rfl⟩
   show Is _ (.own σc.length) _
   exact .own (i := ⟨0, none, 0, 0⟩) (by
    have hlb := h.mc.lb
    show at' (_ :: c.bs) σc.length = _
    rw [hlb]; exact at_new)
 ·rename_i u E E2 id
  split at ht
  ·rename_i u' E' E2' xss hB
   cases hb : (Nat.beq E' E && (Nat.beq E2' E2 && (Nat.ble n id || gone.contains id))) with
   | false => rw [hb] at ht; cases ht
   | true =>
    rw [hb] at ht
    simp only [zT] at ht
    rw [za, za] at hb
    have hE := zN hb.1
    have hE2 := zN hb.2.1
    subst hE hE2
    split at ht
    ·rename_i hu
     subst hu
     simp only [zI, Prod.mk.injEq] at ht
     obtain ⟨rfl, rfl⟩ := ht
     cases hv with
     | own hi =>
      obtain ⟨i2, A2, m1, m2, m3⟩ := h.m'.get hB
      rw [hi] at m1; cases m1
      cases m3 with
      | oo hn hr =>
       obtain ⟨hlt, hM⟩ := h.takeB hi m2 (.oo hn hr) hb.2.2
       refine ⟨_, _, _, hM, ?_, fun {jd T cs} _ hj => ?_⟩
       ·show Is _ (.own σc.length) _
        exact .own (by
         have hlb := h.mc.lb
         show at' (_ :: c.bs) σc.length = _
         rw [hlb]; exact at_new)
       ·exact at_set_ne hlt fun e => by subst e; rw [hB] at hj; cases hj
    ·cases ht
  ·cases ht
 ·rename_i T u E E2 id
  split at ht
  ·rename_i T' id2 hB
   split at ht
   ·rename_i u' E' E2' xss hB2
    cases hb : (Nat.beq T' T && (Nat.beq E' E && (Nat.beq E2' E2 && (Nat.ble n id && (Nat.ble n id2 && !Nat.beq id id2))))) with
    | false => rw [hb] at ht; cases ht
    | true =>
     rw [hb] at ht
     simp only [zT] at ht
     rw [za, za, za, za, za] at hb
     obtain ⟨hb1, hb2, hb3, hb4, hb5, hb6⟩ := hb
     have hT := zN hb1
     have hE := zN hb2
     have hE2 := zN hb3
     subst hT hE hE2
     have hne : id ≠ id2 := fun ee => by subst ee; simp at hb6
     split at ht
     ·rename_i hu
      subst hu
      simp only [zI, Prod.mk.injEq] at ht
      obtain ⟨rfl, rfl⟩ := ht
      cases hv with
      | ptr hi =>
       rename_i i
       obtain ⟨i1, A1, n1, n2, n3⟩ := h.m'.get hB
       rw [hi] at n1; cases n1
       obtain ⟨i2, A2, m1, m2, m3⟩ := h.m'.get hB2
       cases n3 with
       | cells hl hone =>
        rename_i vs
        cases hl with
        | cons hx hnil =>
         rename_i v0 vr
         cases hnil
         cases hx with
         | own hi2 =>
          rename_i i2'
          rw [hi2] at m1; cases m1
          cases m3 with
          | oo hn hr =>
           obtain ⟨hlt, hM⟩ := h.takeB hi2 m2 (.oo hn hr) (by rw [hb5]; rfl)
           have hself : at' (c.push i2).bs σc.length = some i2 := by
            have hlb := h.mc.lb
            show at' (_ :: c.bs) σc.length = _
            rw [hlb]; exact at_new
           have n2' : at' (setAt A' id2 emp) id = some (box i.b [.slice i2.o i2.n i2.c] T') := by rw [at_set_ne hlt (Ne.symm hne)]; exact n2
           have hself2 : at' ((c.push i2).push i).bs σc.length = some i2 := at_cons hself
           obtain ⟨hlt2, hM2⟩ := hM.takeB hi n2' (.cells (.cons (.own hself2) .nil) hone) (by rw [hb4]; rfl)
           refine ⟨_, _, _, hM2, ?_, fun {jd T cs} hjn hj => ?_⟩
           ·show Is _ (.ptr (σc.length + 1) 0) _
            exact .ptr (by
             have hlb := hM.mc.lb
             have hll : (Blk.oo u' E' E2' xss none :: σc).length = σc.length + 1 := rfl
             show at' (_ :: (c.push i2).bs) (σc.length + 1) = _
             rw [← hll, hlb]; exact at_new)
           ·have h1 := Nat.le_of_ble_eq_true hb4
            have h2 := Nat.le_of_ble_eq_true hb5
            rw [at_set_ne hlt2 (by omega), at_set_ne hlt (by omega)]
     ·cases ht
   ·cases ht
  ·cases ht
 ·rename_i T u E id
  split at ht
  ·rename_i T' id1 id2 hB
   split at ht
   ·rename_i u1 E1 xs hB1
    split at ht
    ·rename_i u2 E2 ys hB2
     cases hb : (Nat.beq T' T && (Nat.beq E1 E && (Nat.beq E2 E && (Nat.ble n id && (Nat.ble n id1 && (Nat.ble n id2 && (!Nat.beq id id1 && (!Nat.beq id id2 && !Nat.beq id1 id2)))))))) with
     | false => rw [hb] at ht; cases ht
     | true =>
      rw [hb] at ht
      simp only [zT] at ht
      simp only [za] at hb
      obtain ⟨hb1, hb2, hb3, hb4, hb5, hb6, hb7, hb8, hb9⟩ := hb
      have hT := zN hb1
      have hE := zN hb2
      have hE2 := zN hb3
      subst hT hE hE2
      have hne1 : id ≠ id1 := fun ee => by subst ee; simp at hb7
      have hne2 : id ≠ id2 := fun ee => by subst ee; simp at hb8
      have hne3 : id1 ≠ id2 := fun ee => by subst ee; simp at hb9
      split at ht
      ·rename_i hu
       subst hu
       split at ht
       ·rename_i hu2
        subst hu2
        simp only [zI, Prod.mk.injEq] at ht
        obtain ⟨rfl, rfl⟩ := ht
        cases hv with
        | ptr hi =>
         rename_i i
         obtain ⟨i0, A0, n1, n2, n3⟩ := h.m'.get hB
         rw [hi] at n1; cases n1
         obtain ⟨j1, A1, p1, p2, p3⟩ := h.m'.get hB1
         obtain ⟨j2, A2, q1, q2, q3⟩ := h.m'.get hB2
         cases n3 with
         | cells hl hone =>
          rename_i vs
          cases hl with
          | cons hx hl2 =>
           cases hl2 with
           | cons hy hnil =>
            cases hnil
            cases hx with
            | own hi1 =>
             rename_i i1'
             cases hy with
             | own hi2 =>
              rename_i i2'
              rw [hi1] at p1; cases p1
              rw [hi2] at q1; cases q1
              cases p3 with
              | own hn1 =>
               cases q3 with
               | own hn2 =>
                obtain ⟨hlt, hM⟩ := h.takeB hi1 p2 (.own hn1) (by rw [hb5]; rfl)
                have q2' : at' (setAt A' id1 emp) id2 = _ := (at_set_ne hlt hne3).trans q2
                obtain ⟨hlt2, hM2⟩ := hM.takeB hi2 q2' (.own hn2) (by rw [hb6]; rfl)
                have hs1 : at' (c.push j1).bs σc.length = some j1 := by
                 have hlb := h.mc.lb
                 show at' (_ :: c.bs) σc.length = _
                 rw [hlb]; exact at_new
                have hs2 : at' ((c.push j1).push j2).bs (σc.length + 1) = some j2 := by
                 have hlb := hM.mc.lb
                 have hll : σc.length + 1 = (c.push j1).bs.length := hlb
                 show at' (_ :: (c.push j1).bs) (σc.length + 1) = _
                 rw [hll]; exact at_new
                have n2' : at' (setAt (setAt A' id1 emp) id2 emp) id = some (box i.b [.slice j1.o j1.n j1.c, .slice j2.o j2.n j2.c] T') := by rw [at_set_ne hlt2 (Ne.symm hne2), at_set_ne hlt (Ne.symm hne1)]; exact n2
                obtain ⟨hlt3, hM3⟩ := hM2.takeB hi n2' (.cells (.cons (.own (at_cons (at_cons hs1))) (.cons (.own (at_cons hs2)) .nil)) hone) (by rw [hb4]; rfl)
                refine ⟨_, _, _, hM3, ?_, fun {jd T cs} hjn hj => ?_⟩
                ·show Is _ (.ptr (σc.length + 2) 0) _
                 exact .ptr (by
                  have hlb := hM2.mc.lb
                  have hll : σc.length + 2 = ((c.push j1).push j2).bs.length := hlb
                  show at' (_ :: ((c.push j1).push j2).bs) (σc.length + 2) = _
                  rw [hll]; exact at_new)
                ·have h1 := Nat.le_of_ble_eq_true hb4
                 have h2 := Nat.le_of_ble_eq_true hb5
                 have h3 := Nat.le_of_ble_eq_true hb6
                 rw [at_set_ne hlt3 (by omega), at_set_ne hlt2 (by omega), at_set_ne hlt (by omega)]
       ·cases ht
      ·cases ht
    ·cases ht
   ·cases ht
  ·cases ht
 ·cases ht
theorem vr_step (h : Mid N ds L0 e n gone fl0 flv0 a w e' A' flv' s' c F flvc flc σc) {v : Vr} {sv : SV} (hr : rdP fl0 s' v.1 = some sv) {y : v.2.ty} {σ1 : List Blk} (ht : takeK n gone s'.m.σ v.2 sv = some (y, σ1)) :
  ∃ c' F' A1 flvc', Mid N ds L0 e n gone fl0 flv0 a w e' A1 flv' ⟨s'.fl, ⟨σ1, s'.m.lg⟩, s'.ds, s'.rg⟩ c' F' flvc' (putP fl0 (giveK σc v.2 y).1 flc (giveK σc v.2 y).2 v.1).1 (putP fl0 (giveK σc v.2 y).1 flc (giveK σc v.2 y).2 v.1).2 := by
 obtain ⟨p, kd⟩ := v
 cases p with
 | slot t =>
  simp only [rdP] at hr
  split at hr
  ·rename_i s0 hl
   cases hr
   obtain ⟨u, h1, h2⟩ := h.f'.look hl
   obtain ⟨c', F', A1, hM, hx, _⟩ := kd_step h (res_is h.m' h2) ht
   exact ⟨c', F', A1, _, hM.put_slot h1 hx⟩
  ·cases hr
 | cell t j =>
  simp only [rdP] at hr
  split at hr
  ·rename_i id q hp
   split at hr
   ·rename_i T cs hB
    split at hr
    ·rename_i s0 hq
     cases hr
     obtain ⟨i, A, m1, m2, m3⟩ := h.m'.get hB
     cases m3 with
     | cells hl hone =>
      rename_i vs
      obtain ⟨u, h1, h2⟩ := hl.get hq
      obtain ⟨c', F', A1, hM, hx, hk⟩ := kd_step h (res_is h.m' h2) ht
      exact ⟨c', F', A1, flvc, hM.put_cell (cs' := cs) (sv := s0) hp ((hk (by rw [h.hn]; exact plc_lt h.f0 hp) hB).trans m2) h1 hx⟩
    ·cases hr
   ·cases hr
  ·cases hr
theorem vr_all : ∀ {l : List Vr} {s' : KS} {A' : List Atom} {c : KE} {F : List Atom} {flvc : FL} {flc : SFL} {σc : List Blk} {y : vty l}, Mid N ds L0 e n gone fl0 flv0 a w e' A' flv' s' c F flvc flc σc → getV fl0 n gone l s' = some y →
  ∃ c' F' A1 flvc' s1, Mid N ds L0 e n gone fl0 flv0 a w e' A1 flv' s1 c' F' flvc' (putV fl0 l y flc σc).1 (putV fl0 l y flc σc).2
 | [], s', A', c, F, flvc, flc, σc, y, h, hg => ⟨c, F, A', flvc, s', h⟩
 | [v], s', A', c, F, flvc, flc, σc, y, h, hg => by
  simp only [getV] at hg
  split at hg
  ·rename_i x hx
   split at hg
   ·rename_i y' σ1 ht
    cases hg
    obtain ⟨c', F', A1, flvc', hM⟩ := vr_step h hx ht
    exact ⟨c', F', A1, flvc', _, hM⟩
   ·cases hg
  ·cases hg
 | v :: v' :: l, s', A', c, F, flvc, flc, σc, y, h, hg => by
  simp only [getV] at hg
  split at hg
  ·rename_i x hx
   split at hg
   ·rename_i y' σ1 ht
    split at hg
    ·rename_i z hz
     cases hg
     obtain ⟨c', F', A1, flvc', hM⟩ := vr_step h hx ht
     have := vr_all (l := v' :: l) hM hz
     exact this
    ·cases hg
   ·cases hg
  ·cases hg
end Go.K
namespace Go.K
open Go.Sl Go.Sx
variable {e e' e0 : KE} {σ σ' : List Blk} {As As0 L0 L : List Atom} {P : Program} {w : World} {N : Nat} {fl : SFL} {flv : FL} {ρ : Type} {h : Zone} {a : Act} {ds : List Deferred}
variable {n : Nat} {gone : List Nat} {fl0 : SFL} {flv0 : FL} {A' F : List Atom} {flv' flvc : FL} {s' : KS} {c : KE} {flc : SFL} {σc : List Blk}
structure EX (D : List (Nat × Nat)) (g : List Nat) (σ σ' : List Blk) : Prop where
 len : σ.length ≤ σ'.length
 cells : ∀ {id T cs}, at' σ id = some (.cells T cs) → ∃ cs', at' σ' id = some (.cells T cs') ∧ cs'.length = cs.length ∧ ∀ off, (id, off) ∉ D → cs'[off]? = cs[off]?
 other : ∀ {id B}, at' σ id = some B → (∀ T cs, B ≠ .cells T cs) → id ∉ g → at' σ' id = some B
theorem EX.refl {D : List (Nat × Nat)} {g : List Nat} : EX D g σ σ := ⟨Nat.le_refl _, fun h => ⟨_, h, rfl, fun _ _ => rfl⟩, fun h _ _ => h⟩
theorem EX.trans {D : List (Nat × Nat)} {g : List Nat} {x y z : List Blk} (h : EX D g x y) (k : EX D g y z) : EX D g x z :=
 ⟨Nat.le_trans h.len k.len, fun {id T cs} h1 => by
  obtain ⟨c1, a1, a2, a3⟩ := h.cells h1
  obtain ⟨c2, b1, b2, b3⟩ := k.cells a1
  exact ⟨c2, b1, by rw [b2, a2], fun off hn => by rw [b3 off hn, a3 off hn]⟩, fun h1 h2 h3 => k.other (h.other h1 h2 h3) h2 h3⟩
theorem EX.push {D : List (Nat × Nat)} {g : List Nat} (B : Blk) : EX D g σ (B :: σ) := ⟨by simp, fun h => ⟨_, at_cons h, rfl, fun _ _ => rfl⟩, fun h _ _ => at_cons h⟩
theorem EX.cell {D : List (Nat × Nat)} {g : List Nat} {id q : Nat} {T : TypeId} {cs : List SV} (hB : at' σ id = some (.cells T cs)) (hD : (id, q) ∈ D) (s : SV) : EX D g σ (setAt σ id (.cells T (cs.set q s))) := by
 have hl := at_lt hB
 refine ⟨by rw [len_setAt]; exact Nat.le_refl _, fun {j U us} hj => ?_, fun {j C} hj hC _ => ?_⟩
 ·by_cases h1 : id = j
  ·subst h1
   rw [hB] at hj; cases hj
   refine ⟨_, at_set hl, by simp, fun off hn => List.getElem?_set_ne fun e => by subst e; exact hn hD⟩
  ·exact ⟨us, by rw [at_set_ne hl h1]; exact hj, rfl, fun _ _ => rfl⟩
 ·have h1 : id ≠ j := fun e => by subst e; rw [hB] at hj; exact hC _ _ (Option.some.inj hj).symm
  rw [at_set_ne hl h1]; exact hj
theorem EX.gon {D : List (Nat × Nat)} {g : List Nat} {id : Nat} {B : Blk} (hB : at' σ id = some B) (hne : ∀ T cs, B ≠ .cells T cs) (hg : id ∈ g) : EX D g σ (setAt σ id .gone) := by
 have hl := at_lt hB
 refine ⟨by rw [len_setAt]; exact Nat.le_refl _, fun {j U us} hj => ?_, fun {j C} hj hC hn => ?_⟩
 ·have h1 : id ≠ j := fun e => by subst e; rw [hB] at hj; exact hne _ _ (Option.some.inj hj)
  exact ⟨us, by rw [at_set_ne hl h1]; exact hj, rfl, fun _ _ => rfl⟩
 ·have h1 : id ≠ j := fun e => by subst e; exact hn hg
  rw [at_set_ne hl h1]; exact hj
def anyC1 (σ : List Blk) (p : Nat × Nat) : List Blk := match at' σ p.1 with
 | some (.cells T cs) => setAt σ p.1 (.cells T (cs.set p.2 .any))
 | _ => σ
def goneC1 (σ : List Blk) (id : Nat) : List Blk := match at' σ id with
 | some (.cells _ _) => σ
 | some _ => setAt σ id .gone
 | none => σ
def anyC (D : List (Nat × Nat)) (σ : List Blk) : List Blk := D.foldl anyC1 σ
def goneC (g : List Nat) (σ : List Blk) : List Blk := g.foldl goneC1 σ
theorem anyC_ext {D0 : List (Nat × Nat)} {g : List Nat} : ∀ (D : List (Nat × Nat)) (σ : List Blk), (∀ p ∈ D, p ∈ D0) → EX D0 g σ (anyC D σ)
 | [], σ, _ => .refl
 | p :: D, σ, hD => by
  refine EX.trans (y := anyC1 σ p) ?_ (anyC_ext D _ fun q hq => hD q (List.mem_cons_of_mem _ hq))
  unfold anyC1
  split
  ·rename_i T cs hB; exact EX.cell hB (hD _ (List.mem_cons_self ..)) _
  ·exact .refl
theorem goneC_ext {D0 : List (Nat × Nat)} {g0 : List Nat} : ∀ (g : List Nat) (σ : List Blk), (∀ p ∈ g, p ∈ g0) → EX D0 g0 σ (goneC g σ)
 | [], σ, _ => .refl
 | p :: g, σ, hg => by
  refine EX.trans (y := goneC1 σ p) ?_ (goneC_ext g _ fun q hq => hg q (List.mem_cons_of_mem _ hq))
  unfold goneC1
  split
  ·exact .refl
  ·rename_i B hB hne; exact EX.gon hne (fun T cs e => hB T cs e) (hg _ (List.mem_cons_self ..))
  ·exact .refl
theorem anyC_len (D : List (Nat × Nat)) : ∀ σ : List Blk, (anyC D σ).length = σ.length := by
 induction D with
 | nil => intro σ; rfl
 | cons p D ih =>
  intro σ
  show (anyC D (anyC1 σ p)).length = _
  rw [ih]
  unfold anyC1; split
  ·exact len_setAt _ _ _
  ·rfl
theorem goneC_len (g : List Nat) : ∀ σ : List Blk, (goneC g σ).length = σ.length := by
 induction g with
 | nil => intro σ; rfl
 | cons p g ih =>
  intro σ
  show (goneC g (goneC1 σ p)).length = _
  rw [ih]
  unfold goneC1; split
  ·rfl
  ·exact len_setAt _ _ _
  ·rfl
theorem anyC_any : ∀ (D : List (Nat × Nat)) {σ : List Blk} {id : Nat} {T : TypeId} {cs cs1 : List SV}, at' σ id = some (.cells T cs1) → at' (anyC D σ) id = some (.cells T cs) →
  ∀ off sv, cs[off]? = some sv → sv = .any ∨ (cs1[off]? = some sv ∧ (id, off) ∉ D)
 | [], σ, id, T, cs, cs1, h1, h2, off, sv, hs => by
  have h3 : at' σ id = some (.cells T cs) := h2
  rw [h1] at h3; cases h3
  exact .inr ⟨hs, by simp⟩
 | p :: D, σ, id, T, cs, cs1, h1, h2, off, sv, hs => by
  have h3 : at' (anyC D (anyC1 σ p)) id = some (.cells T cs) := h2
  by_cases hid : p.1 = id
  ·subst hid
   have hm : at' (anyC1 σ p) p.1 = some (.cells T (cs1.set p.2 .any)) := by
    unfold anyC1; rw [h1]; exact at_set (at_lt h1)
   rcases anyC_any D hm h3 off sv hs with h4 | ⟨h4, h5⟩
   ·exact .inl h4
   ·by_cases ho : p.2 = off
    ·subst ho
     have hlt : p.2 < cs1.length := by have := (List.getElem?_eq_some_iff.1 h4).1; simpa using this
     rw [List.getElem?_set_self hlt] at h4
     exact .inl (Option.some.inj h4).symm
    ·rw [List.getElem?_set_ne ho] at h4
     refine .inr ⟨h4, fun hm => ?_⟩
     rcases List.mem_cons.1 hm with e1 | e1
     ·rw [← e1] at ho; exact ho rfl
     ·exact h5 e1
  ·have hm : at' (anyC1 σ p) id = some (.cells T cs1) := by
    unfold anyC1
    split
    ·rename_i T' cs' hB; rw [at_set_ne (at_lt hB) hid]; exact h1
    ·exact h1
   rcases anyC_any D hm h3 off sv hs with h4 | ⟨h4, h5⟩
   ·exact .inl h4
   ·refine .inr ⟨h4, fun hm => ?_⟩
    rcases List.mem_cons.1 hm with e1 | e1
    ·rw [← e1] at hid; exact hid rfl
    ·exact h5 e1
theorem goneC_gone : ∀ (g : List Nat) {σ : List Blk} {id : Nat} {B : Blk}, at' σ id = some B → (∀ T cs, B ≠ .cells T cs) → (id ∈ g → at' (goneC g σ) id = some .gone) ∧ (id ∉ g → at' (goneC g σ) id = some B)
 | [], σ, id, B, h1, h2 => ⟨(fun h => by cases h), fun _ => h1⟩
 | p :: g, σ, id, B, h1, h2 => by
  have hs : goneC (p :: g) σ = goneC g (goneC1 σ p) := rfl
  rw [hs]
  by_cases hid : p = id
  ·subst hid
   have hm : at' (goneC1 σ p) p = some .gone := by
    unfold goneC1
    rw [h1]
    cases B <;> first | exact absurd rfl (h2 _ _) | exact at_set (at_lt h1)
   obtain ⟨k1, k2⟩ := goneC_gone g hm (fun T cs e => by cases e)
   refine ⟨fun _ => ?_, fun hn => absurd (List.mem_cons_self ..) hn⟩
   by_cases hg : p ∈ g
   ·exact k1 hg
   ·exact k2 hg
  ·have hm : at' (goneC1 σ p) id = some B := by
    unfold goneC1
    split
    ·exact h1
    ·rename_i B' hB hne; rw [at_set_ne (at_lt hne) hid]; exact h1
    ·exact h1
   obtain ⟨k1, k2⟩ := goneC_gone g hm h2
   exact ⟨fun h => k1 ((List.mem_cons.1 h).resolve_left fun e => hid e.symm), fun h => k2 fun hg => h (List.mem_cons_of_mem _ hg)⟩
theorem goneC_cells : ∀ (g : List Nat) {σ : List Blk} {id : Nat} {T : TypeId} {cs : List SV}, at' (goneC g σ) id = some (.cells T cs) → at' σ id = some (.cells T cs)
 | [], σ, id, T, cs, h => h
 | p :: g, σ, id, T, cs, h => by
  have h1 := goneC_cells g (σ := goneC1 σ p) h
  unfold goneC1 at h1
  split at h1
  ·exact h1
  ·rename_i B hB hne
   by_cases hid : p = id
   ·subst hid; rw [at_set (at_lt hne)] at h1; cases h1
   ·rwa [at_set_ne (at_lt hne) hid] at h1
  ·exact h1
end Go.K
namespace Go.K
open Go.Sl Go.Sx
variable {e e' e0 : KE} {σ σ' : List Blk} {As As0 L0 L : List Atom} {P : Program} {w : World} {N : Nat} {fl : SFL} {flv : FL} {ρ : Type} {h : Zone} {a : Act} {ds : List Deferred}
variable {n : Nat} {fl0 : SFL} {flv0 : FL} {A' F : List Atom} {flv' flvc : FL} {s' : KS} {c : KE} {flc : SFL} {σc : List Blk}
def keysS (fl : SFL) : List Nat := fl.map (·.1)
theorem look_keys : ∀ {fl : SFL} {flv : FL} {t : Nat} {v : Value}, FLIs e fl flv → Sx.look flv t = some v → t ∈ keysS fl
 | [], [], t, v, _, h => by cases h
 | (k, s) :: r, (k', u) :: r', t, v, ⟨h1, _, h3⟩, h => by
  subst h1
  simp only [Sx.look] at h
  cases hb : Nat.beq k t with
  | true => have := zN hb; subst this; simp [keysS]
  | false => rw [hb] at h; have := look_keys h3 h; simp only [keysS, List.map_cons, List.mem_cons]; exact .inr this
 | [], _ :: _, _, _, h, _ => h.elim
 | _ :: _, [], _, _, h, _ => h.elim
theorem look_app {d : FL} {m : FL} {t : Nat} (h : t ∉ d.map (·.1)) : Sx.look (d ++ m) t = Sx.look m t := by
 induction d with
 | nil => rfl
 | cons p d ih =>
  simp only [List.map_cons, List.mem_cons, not_or] at h
  show (bif Nat.beq p.1 t then _ else _) = _
  have hb : Nat.beq p.1 t = false := by
   cases hb : Nat.beq p.1 t with
   | true => exact absurd (zN hb).symm h.1
   | false => rfl
  rw [hb]; exact ih h.2
theorem fl_keys : ∀ {d : SFL} {dv : FL} {m : SFL} {mv : FL}, FLIs e (d ++ m) (dv ++ mv) → d.length = dv.length → dv.map (·.1) = keysS d ∧ FLIs e m mv
 | [], [], m, mv, h, _ => ⟨rfl, h⟩
 | (k, s) :: d, (k', v) :: dv, m, mv, ⟨h1, _, h3⟩, hl => by
  obtain ⟨k1, k2⟩ := fl_keys h3 (by simpa using hl)
  subst h1
  exact ⟨by simp [keysS] at k1 ⊢; exact k1, k2⟩
 | [], _ :: _, _, _, _, hl => by simp at hl
 | _ :: _, [], _, _, _, hl => by simp at hl
def cellsD (fl0 : SFL) : List Vr → List (Nat × Nat)
 | [] => []
 | (.cell t j is, _) :: l => match plc fl0 t j is with
  | some p => p :: cellsD fl0 l
  | none => cellsD fl0 l
 | _ :: l => cellsD fl0 l
def goneD (s : KS) : List Vr → List Nat
 | [] => []
 | (p, _) :: l => match rdP s.fl s p with
  | some (.own id) => id :: goneD s l
  | _ => goneD s l
def T0fl (kill : List Nat) (fl : SFL) : SFL := kill.map (fun t => (t, SV.any)) ++ fl
def tmpl (kill : List Nat) (l : List Vr) (s : KS) (y : vty l) : KS :=
 let D := cellsD s.fl l
 let g := goneD s l
 let r := putV s.fl l y (T0fl kill s.fl) (goneC g (anyC D s.m.σ))
 ⟨r.1, ⟨r.2, (s.m.σ.length, 0) :: (g.map (fun i => (i, 0)) ++ (D ++ s.m.lg))⟩, s.ds, s.rg⟩
def isCells : Option Blk → Bool
 | some (.cells _ _) => true
 | _ => false
def chk0 (N : Nat) (kill : List Nat) (l : List Vr) (s : KS) : Bool :=
 kill.all (fun t => Nat.blt t N) && ((cellsD s.fl l).all (fun p => isCells (at' s.m.σ p.1)) && (goneD s l).all (fun i => !isCells (at' s.m.σ i) && Nat.blt i s.m.σ.length))
def chk (kill : List Nat) (l : List Vr) (s s' : KS) : Bool :=
 (Nat.beq s'.ds.length s.ds.length && (!s'.rg || s.rg)) && (((s'.fl.take (s'.fl.length - s.fl.length)).all fun p => !(keysS s.fl).contains p.1 || kill.contains p.1) &&
 ((s'.m.lg.take (s'.m.lg.length - s.m.lg.length)).all fun p => Nat.ble s.m.σ.length p.1 || ((cellsD s.fl l).contains p && isCells (at' s.m.σ p.1) || ((goneD s l).contains p.1 && Nat.beq p.2 0))))
def leaf (kill : List Nat) (l : List Vr) (s s' : KS) : Option (vty l) := bif chk kill l s s' then getV s.fl s.m.σ.length (goneD s l) l s' else none
theorem isCells_eq {x : Option Blk} (h : isCells x = true) : ∃ T cs, x = some (.cells T cs) := by
 unfold isCells at h
 split at h
 ·exact ⟨_, _, rfl⟩
 ·cases h
theorem IsL.of_get : ∀ {l : List SV} {m : List Value}, l.length = m.length → (∀ (i : Nat) (s : SV), l[i]? = some s → ∃ v, m[i]? = some v ∧ Is e s v) → IsL e l m
 | [], [], _, _ => .nil
 | s :: l, v :: m, hl, hk => by
  obtain ⟨v', h1, h2⟩ := hk 0 s rfl
  cases h1
  exact .cons h2 (IsL.of_get (by simpa using hl) fun i s hs => by simpa using hk (i + 1) s (by simpa using hs))
 | [], _ :: _, hl, _ => by simp at hl
 | _ :: _, [], hl, _ => by simp at hl
theorem EX.putP {D : List (Nat × Nat)} {g : List Nat} {p : Pl} {x : SV} (hp : ∀ t j is q, p = .cell t j is → plc fl0 t j is = some q → q ∈ D) : EX D g σ (putP fl0 x fl σ p).2 := by
 cases p with
 | slot t => exact .refl
 | cell t j =>
  simp only [K.putP]
  split
  ·rename_i id q hpl
   split
   ·rename_i T cs hB; exact EX.cell hB (hp t j _ _ rfl hpl) x
   ·exact .refl
  ·exact .refl
theorem EX.give {D : List (Nat × Nat)} {g : List Nat} (k : Kd) (y : k.ty) : EX D g σ (giveK σ k y).2 := by
 cases k with
 | dat u => exact .refl
 | agg u => exact .refl
 | own u E => exact EX.push _
 | oo u E E2 => exact EX.push _
 | bx T u E E2 => exact (EX.push _).trans (EX.push _)
 | b2 T u E => exact ((EX.push _).trans (EX.push _)).trans (EX.push _)
theorem cellsD_mem {p : Pl} {k : Kd} {l : List Vr} : ∀ t j is q, p = .cell t j is → plc fl0 t j is = some q → q ∈ cellsD fl0 ((p, k) :: l) := by
 rintro t j is q rfl hq
 simp [cellsD, hq]
theorem cellsD_tail {v : Vr} {l : List Vr} {q : Nat × Nat} (h : q ∈ cellsD fl0 l) : q ∈ cellsD fl0 (v :: l) := by
 obtain ⟨p, k⟩ := v
 cases p with
 | slot t => exact h
 | cell t j =>
  simp only [cellsD]
  split
  ·exact List.mem_cons_of_mem _ h
  ·exact h
theorem EX.putV {g : List Nat} {D : List (Nat × Nat)} : ∀ (l : List Vr) {y : vty l} {fl : SFL} {σ : List Blk}, (∀ q ∈ cellsD fl0 l, q ∈ D) → EX D g σ (putV fl0 l y fl σ).2
 | [], _, _, _, _ => .refl
 | [v], y, fl, σ, hD => (EX.give v.2 y).trans (EX.putP fun t j is q h1 h2 => hD _ (cellsD_mem (k := v.2) t j is q h1 h2))
 | v :: v' :: l, y, fl, σ, hD => ((EX.give v.2 y.1).trans (EX.putP fun t j is q h1 h2 => hD _ (cellsD_mem (k := v.2) t j is q h1 h2))).trans (EX.putV (v' :: l) fun q hq => hD q (cellsD_tail hq))
theorem St.cut {z : Zone} {X Y Z W : List Atom} (h : St z (X ++ (Y ++ Z) ++ W) w) : St z (X ++ Z ++ W) w := by
 have p : (X ++ (Y ++ Z) ++ W).Perm (Y ++ (X ++ Z ++ W)) := by
  have h1 : (X ++ (Y ++ Z)).Perm (Y ++ (X ++ Z)) := by
   rw [← List.append_assoc, ← List.append_assoc]
   exact List.Perm.append_right _ List.perm_append_comm
  have := h1.append_right W
  rwa [List.append_assoc Y] at this
 have h2 := St.drop Y.length (h.perm p)
 rwa [List.drop_left] at h2
theorem meet {kill : List Nat} {l : List Vr} {s s' : KS} {a0 : Act} {w0 : World} {y : vty l} {ds' : List Deferred} (h0 : KR N L0 e As flv ds s a0 w0) (h1 : KR N L0 e' A' flv' ds' s' a w) (hdx : DX ds ds') (hx : FX s.fl flv s'.fl flv') (hg : Go1 e As s.m e' A' s'.m)
  (hc0 : chk0 N kill l s = true) (hy : leaf kill l s s' = some y) :
  ∃ c Ac flvc, KR N L0 c Ac flvc ds' (tmpl kill l s y) a w ∧ FX s.fl flv (tmpl kill l s y).fl flvc ∧ Go1 e As s.m c Ac (tmpl kill l s y).m := by
 unfold leaf at hy
 cases hc : chk kill l s s' with
 | false => rw [hc] at hy; cases hy
 | true =>
 rw [hc] at hy
 simp only [zT] at hy
 simp only [chk, za, List.all_eq_true] at hc
 obtain ⟨⟨hcd, hcr⟩, hcf, hcm⟩ := hc
 have hds : noMk ds' = noMk ds := hdx.same (by rw [← h1.dI.len, ← h0.dI.len]; exact zN hcd)
 simp only [chk0, za, List.all_eq_true] at hc0
 obtain ⟨hk0, hD0, hg0⟩ := hc0
 obtain ⟨d, dv, e1, e2, e3⟩ := hx
 have htake : s'.fl.take (s'.fl.length - s.fl.length) = d := by rw [e1]; simp
 rw [htake] at hcf
 obtain ⟨dl, hE⟩ := hg.ext
 have htake2 : s'.m.lg.take (s'.m.lg.length - s.m.lg.length) = dl := by rw [hE.lg]; simp
 rw [htake2] at hcm
 have hn : s.m.σ.length = e.bs.length := h0.mem.lb
 have hbig : s.m.σ.length ≤ A'.length := by rw [← h1.mem.la]; exact hE.len
 have hfl' := h1.fl
 rw [e1, e2] at hfl'
 obtain ⟨kd, _⟩ := fl_keys hfl' e3
 -- what is kept, at the start
 have mid : Mid N ds' (mkA ds' ++ L0) e s.m.σ.length (goneD s l) s.fl flv a w e' A' flv' s' ⟨e'.z, e.bs⟩ [] (kill.map (fun t => (t, a.tmps.getD t undef)) ++ flv) (T0fl kill s.fl) (goneC (goneD s l) (anyC (cellsD s.fl l) s.m.σ)) := by
  have hanyE := anyC_ext (D0 := cellsD s.fl l) (g := []) (cellsD s.fl l) s.m.σ fun p hp => hp
  have hle : e.le ⟨e'.z, e.bs⟩ := ⟨hg.le.z, [], rfl⟩
  refine ⟨hg.le, hn, h1.mem, h1.fl, h1.fr, rfl, ⟨[], rfl⟩, ⟨?_, ?_, ?_⟩, ?_, ?_, ?_, ?_, h0.fl, ?_, hbig⟩
  ·rw [goneC_len, anyC_len]; exact hn
  ·rw [goneC_len, anyC_len, List.nil_append, drop_len hbig]
  ·intro id B hB
   have hid : id < s.m.σ.length := by have := at_lt hB; rwa [goneC_len, anyC_len] at this
   obtain ⟨B0, hB0⟩ := at_some hid
   obtain ⟨i0, A0, p1, p2, p3⟩ := h0.mem.get hB0
   obtain ⟨Ad, hAd⟩ := at_some (l := A'.drop (A'.length - s.m.σ.length)) (id := id) (by rw [drop_len hbig]; exact hid)
   have hAd' := at_drop hbig hAd
   have hlog : ∀ off, (id, off) ∈ dl → ((id, off) ∈ cellsD s.fl l ∧ isCells (some B0) = true) ∨ (id ∈ goneD s l ∧ off = 0) := fun off ho => by
    have := hcm _ ho
    simp only [Bool.or_eq_true, za, hB0] at this
    rcases this with h5 | ⟨h5, h6⟩ | ⟨h5, h6⟩
    ·have := Nat.le_of_ble_eq_true h5; omega
    ·exact .inl ⟨List.contains_iff_mem.1 h5, h6⟩
    ·exact .inr ⟨List.contains_iff_mem.1 h5, zN h6⟩
   have hgc : id ∈ goneD s l → isCells (some B0) = false := fun hi => by
    have := hg0 id hi
    rw [hB0] at this
    simp only [za, Bool.not_eq_true'] at this
    exact this.1
   refine ⟨i0, Ad, p1, by simpa using hAd, ?_⟩
   by_cases hcell : isCells (some B0) = true
   ·obtain ⟨T, cs, hTc⟩ := isCells_eq hcell
    cases hTc
    have hB1 : at' (anyC (cellsD s.fl l) s.m.σ) id = some B := by
     obtain ⟨csx, q1, q2, q3⟩ := hanyE.cells hB0
     have := (goneC_ext (D0 := []) (g0 := goneD s l) (goneD s l) (anyC (cellsD s.fl l) s.m.σ) fun p hp => hp).cells q1
     obtain ⟨csy, r1, r2, r3⟩ := this
     rw [hB] at r1; cases r1
     exact goneC_cells _ hB
    obtain ⟨csx, q1, q2, q3⟩ := hanyE.cells hB0
    rw [hB1] at q1; cases q1
    obtain ⟨cs', x1, x2, x3⟩ := hE.cells hB0
    obtain ⟨i1, A1, y1, y2, y3⟩ := h1.mem.get x1
    rw [hAd'] at y2; cases y2
    have hii := at_fun hg.le p1 y1
    subst hii
    cases y3 with
    | cells hl' hone =>
     rename_i vs
     cases p3 with
     | cells hl0 hone0 =>
      refine .cells ?_ hone
      refine IsL.of_get (by rw [q2, ← x2, hl'.len]) fun off sv hsv => ?_
      have hlen : off < cs'.length := by have := (List.getElem?_eq_some_iff.1 hsv).1; omega
      obtain ⟨v, hv1, hv2⟩ := hl'.get (List.getElem?_eq_getElem hlen)
      refine ⟨v, hv1, ?_⟩
      rcases anyC_any _ hB0 hB1 off sv hsv with rfl | ⟨hcs, hnD⟩
      ·exact .any v
      ·have hnd : (id, off) ∉ dl := fun ho => by
        rcases hlog off ho with ⟨h5, _⟩ | ⟨h5, _⟩
        ·exact hnD h5
        ·have := hgc h5; rw [hcell] at this; cases this
       have hcs' := x3 off hnd
       rw [hcs, List.getElem?_eq_getElem hlen] at hcs'
       have hsvE := Option.some.inj hcs'
       rw [hsvE] at hv2
       obtain ⟨v0, _, hv0⟩ := hl0.get hcs
       exact Is.back hg.le hv0 hv2
   ·have hne : ∀ T cs, B0 ≠ .cells T cs := fun T cs e => by subst e; exact hcell rfl
    have hany := hanyE.other hB0 hne (by simp)
    obtain ⟨g1, g2⟩ := goneC_gone (goneD s l) hany hne
    by_cases hgid : id ∈ goneD s l
    ·rw [g1 hgid] at hB; cases hB
     exact .gone
    ·rw [g2 hgid] at hB; cases hB
     have hnd : (id, 0) ∉ dl := fun ho => by
      rcases hlog 0 ho with ⟨_, h6⟩ | ⟨h5, _⟩
      ·exact hcell h6
      ·exact hgid h5
     have x1 := hE.other hB0 hne hnd
     obtain ⟨i1, A1, y1, y2, y3⟩ := h1.mem.get x1
     rw [hAd'] at y2; cases y2
     have hii := at_fun hg.le p1 y1
     subst hii
     cases y3 with
     | gone => exact .gone
     | cells => exact absurd rfl (hne _ _)
     | own hn' => exact .own hn'
     | fz hn' hs => exact .fz hn' hs
     | defm => exact .defm
     | map => exact .map
     | fzm hb => exact .fzm hb
     | oo hn2 hr2 => exact .oo hn2 hr2
     | mapS hl2 =>
      cases p3 with
      | mapS hl1 => exact .mapS (hl1.back hg.le hl2)
     | loop hfl2 =>
      cases p3 with
      | loop hfl1 => exact .loop (FLIs.back hg.le hfl1 hfl2)
  ·intro id hgi hid
   have hmem := List.contains_iff_mem.1 hgi
   obtain ⟨B0, hB0⟩ := at_some hid
   have := hg0 id hmem
   rw [hB0] at this
   simp only [za, Bool.not_eq_true'] at this
   have hne : ∀ T cs, B0 ≠ .cells T cs := fun T cs e => by subst e; simp [isCells] at this
   exact (goneC_gone (goneD s l) (hanyE.other hB0 hne (by simp)) hne).1 hmem
  ·have key : ∀ k : List Nat, FLIs ⟨e'.z, e.bs⟩ (k.map (fun t => (t, SV.any)) ++ s.fl) (k.map (fun t => (t, a.tmps.getD t undef)) ++ flv) := by
    intro k
    induction k with
    | nil => exact h0.fl.mono hle
    | cons t k ih => exact ⟨rfl, .any _, ih⟩
   exact key kill
  ·refine ⟨h1.fr.size, h1.fr.defers, fun t v hl => ?_⟩
   have key : ∀ k : List Nat, (∀ t ∈ k, Nat.blt t N = true) → (∀ t ∈ k, t ∈ kill) → Sx.look (k.map (fun t => (t, a.tmps.getD t undef)) ++ flv) t = some v → a.tmps[t]? = some v ∨ (t ∉ k ∧ Sx.look flv t = some v) := by
    intro k
    induction k with
    | nil => intro _ _ hh; exact .inr ⟨by simp, hh⟩
    | cons q k ih =>
     intro hb hs hh
     simp only [List.map_cons, List.cons_append, Sx.look] at hh
     cases hbq : Nat.beq q t with
     | true =>
      rw [hbq] at hh
      have := zN hbq
      subst this
      simp only [zT, zI] at hh
      have hlt : q < a.tmps.size := by rw [h1.fr.size]; simpa [Nat.blt_eq] using hb q (by simp)
      refine .inl ?_
      rw [← hh, Array.getD_eq_getD_getElem?, Array.getElem?_eq_getElem hlt]; rfl
     | false =>
      rw [hbq] at hh
      rcases ih (fun t ht => hb t (List.mem_cons_of_mem _ ht)) (fun t ht => hs t (List.mem_cons_of_mem _ ht)) hh with h5 | ⟨h5, h6⟩
      ·exact .inl h5
      ·refine .inr ⟨fun hm => ?_, h6⟩
       rcases List.mem_cons.1 hm with e5 | e5
       ·subst e5; simp at hbq
       ·exact h5 e5
   rcases key kill hk0 (fun t h => h) hl with h5 | ⟨h5, h6⟩
   ·exact h5
   ·have hks := look_keys h0.fl h6
    have hnd : t ∉ dv.map (·.1) := fun hm => by
     rw [kd] at hm
     obtain ⟨p, hp1, hp2⟩ := List.mem_map.1 hm
     have := hcf p hp1
     simp only [Bool.or_eq_true, Bool.not_eq_true', List.contains_iff_mem] at this
     rw [hp2] at this
     rcases this with h7 | h7
     ·have := List.contains_iff_mem.2 hks; rw [this] at h7; cases h7
     ·exact h5 h7
    refine h1.fr.look t v ?_
    rw [e2, look_app hnd]; exact h6
  ·exact ⟨kill.map (fun t => (t, SV.any)), kill.map (fun t => (t, a.tmps.getD t undef)), rfl, rfl, by simp⟩
  ·exact h1.st
 obtain ⟨c, F, A1, flvc, s1, hM⟩ := vr_all mid hy
 refine ⟨c, F ++ A1.drop (A1.length - s.m.σ.length), flvc, ⟨hM.frc, hM.fc, hM.mc, ?_, ?_, ?_⟩, hM.fx, ⟨?_, ⟨(s.m.σ.length, 0) :: ((goneD s l).map (fun i => (i, 0)) ++ cellsD s.fl l), ?_, ?_, ?_, ?_⟩, ?_⟩⟩
 ·rw [hM.cz]
  have hst := hM.st
  rw [← List.take_append_drop (A1.length - s.m.σ.length) A1] at hst
  exact St.cut hst
 ·obtain ⟨q, hq⟩ := hM.cb
  rw [hds]
  exact h0.dI.mono ⟨by rw [hM.cz]; exact hg.le.z, q, hq⟩
 ·intro hh
  have hh' : s.rg = false := hh
  rw [hh'] at hcr
  exact h1.rI (by simpa using hcr)
 ·obtain ⟨q, hq⟩ := hM.cb
  exact ⟨by rw [hM.cz]; exact hg.le.z, q, hq⟩
 ·simp [tmpl]
 ·exact ((anyC_ext (D0 := cellsD s.fl l) (g := goneD s l) _ _ fun p hp => hp).trans ((goneC_ext (g0 := goneD s l) _ _ fun p hp => hp).trans (EX.putV l fun q hq => hq))).len
 ·intro id T cs hB
  obtain ⟨cs', r1, r2, r3⟩ := ((anyC_ext (D0 := cellsD s.fl l) (g := goneD s l) _ _ fun p hp => hp).trans ((goneC_ext (g0 := goneD s l) _ _ fun p hp => hp).trans (EX.putV (y := y) (fl := T0fl kill s.fl) l fun q hq => hq))).cells hB
  exact ⟨cs', r1, r2, fun off hnm => r3 off fun hm => hnm (by simp [hm])⟩
 ·intro id B hB hne hnm
  refine ((anyC_ext (D0 := cellsD s.fl l) (g := goneD s l) _ _ fun p hp => hp).trans ((goneC_ext (g0 := goneD s l) _ _ fun p hp => hp).trans (EX.putV (y := y) (fl := T0fl kill s.fl) l fun q hq => hq))).other hB hne fun hm => hnm ?_
  simp [hm]
 ·intro hh
  simp [tmpl] at hh
  omega
end Go.K
namespace Go.K
open Go.Sl Go.Sx
variable {P : Program} {ro : Option Nat} {R : Array Oper} {m : List Nat} {S : World → Prop} {Q : Exit → Act → World → Prop} {y : Nat} {c : Code} {a : Act} {w : World}
def wpAnyY (ro : Option Nat) (P : Program) (ops : Array Oper) (Q : Exit → Act → World → Prop) (y : Nat) (m : List Nat) (S : World → Prop) : Nat → Array Bool → Act → World → Prop
 | 0, listed, a, w => Region.ready .any ops listed = [] ∧ Q .normal a w
 | fuel + 1, listed, a, w =>
  (Region.ready .any ops listed = [] → Q .normal a w) ∧
  ∀ i ∈ Region.ready .any ops listed, (i = y → wpOpIn (WF ro) 0 P ops Q i (wpAnyIn (WF ro) 0 P .any ops Q fuel (listed.setIfInBounds i true)) a w) ∧
   (i ≠ y → wpOp P ops (fun _ _ _ => False) i (fun a' w' => (noLate m (listed.setIfInBounds i true) → S w') ∧ wpAnyY ro P ops Q y m S fuel (listed.setIfInBounds i true) a' w') a w)
theorem wpAnyIn_of_Y (hd : noDefer R = true) : ∀ (fuel : Nat) (listed : Array Bool) (a : Act) (w : World), wpAnyY ro P R Q y m S fuel listed a w → wpAnyIn (WF ro) 0 P .any R Q fuel listed a w
 | 0, _, _, _, h => h
 | fuel + 1, _, _, _, h => ⟨h.1, fun i hi => by
   by_cases he : i = y
   ·exact (h.2 i hi).1 he
   ·exact wpOpIn_of hd (fun _ _ q => q.elim) (fun _ _ q => q) (wpOp_mono (fun a' w' h' => wpAnyIn_of_Y hd fuel _ a' w' h'.2) ((h.2 i hi).2 he))⟩
theorem wpAnyY_sub {S2 : World → Prop} (hs : ∀ w, S2 w → S w) : ∀ (fuel : Nat) (listed : Array Bool) (a : Act) (w : World), wpAnyY ro P R Q y m S2 fuel listed a w → wpAnyY ro P R Q y m S fuel listed a w
 | 0, _, _, _, h => h
 | fuel + 1, _, _, _, h => ⟨h.1, fun i hi => ⟨(h.2 i hi).1, fun he => wpOp_mono (fun a' w' h' => ⟨fun hn => hs _ (h'.1 hn), wpAnyY_sub hs fuel _ a' w' h'.2⟩) ((h.2 i hi).2 he)⟩⟩
theorem wpAnyY_first {i : Nat} {oi : Oper} {v : Value} {T : World → Prop} (hi : R[i]? = some oi) (hsel : ∀ (j : Nat) (o : Oper) cs b, R[j]? = some o → o.op ≠ .select cs b) (hreach : (aheadL .any R y).contains i = true) (hiy : i ≠ y) (him : i ∉ m)
  (hT : (∀ w, T w) ∨ (lateB .any R m i = true ∧ ∀ w, S w → T w)) :
  ∀ (fuel : Nat) (listed : Array Bool) (a : Act) (w : World), Closed .any R listed → listed.size = R.size →
   (∀ j oj, R[j]? = some oj → j ≠ i → listed.getD j true = false → (∀ e ∈ oj.after, Region.binds .any e = true → e.on ≠ i) → oi.apart R oj = true) →
   i ∈ Region.ready .any R listed → YieldsIf P R T oi v a → T w → (noLate m listed → S w) →
   wpAnyY ro P R Q y m S fuel (listed.setIfInBounds i true) (a.put oi.dst v) w → wpAnyY ro P R Q y m S (fuel + 1) listed a w := by
 intro fuel
 induction fuel with
 | zero =>
  intro listed a w _ _ _ hr hy hT0 hS H
  refine ⟨fun h => (by rw [h] at hr; cases hr), fun j hj => ?_⟩
  by_cases hji : j = i
  ·subst hji; exact ⟨fun e => absurd e hiy, fun _ => hy.wpOp hi hT0 ⟨fun h => hS h.unset, H⟩⟩
  ·have := ready_mono hj hji
   rw [H.1] at this
   cases this
 | succ fuel ih =>
  intro listed a w hcl hsz hfree hr hy hT0 hS H
  refine ⟨fun h => (by rw [h] at hr; cases hr), fun j hj => ?_⟩
  by_cases hji : j = i
  ·subst hji; exact ⟨fun e => absurd e hiy, fun _ => hy.wpOp hi hT0 ⟨fun h => hS h.unset, H⟩⟩
  ·obtain ⟨hjun, oj, hoj, hall⟩ := mem_ready.1 hj
   have hiun := (mem_ready.1 hr).1
   refine ⟨fun e => ?_, fun hjy => ?_⟩
   ·subst e
    have := reach_listed hcl hoj hall hreach
    rw [unlisted_false hiun] at this
    cases this
   ·have h1 := (H.2 j (ready_mono hj hji)).2 hjy
    have hnot : ∀ e ∈ oj.after, Region.binds .any e = true → e.on ≠ i := fun e he hb heq => by
     have h1 := hall e he hb
     rw [heq, unlisted_false hiun] at h1
     cases h1
    have h2 := wpOp_putIf hoj (hfree j oj hoj hji hjun hnot) (fun cs b => hsel i oi cs b hi) (fun cs b => hsel j oj cs b hoj) (fun _ _ _ q => q) hy h1
    have hfree' : ∀ k ok, R[k]? = some ok → k ≠ i → (listed.setIfInBounds j true).getD k true = false →
      (∀ e ∈ ok.after, Region.binds .any e = true → e.on ≠ i) → oi.apart R ok = true := fun k ok hk hki hun hno => by
     refine hfree k ok hk hki ?_ hno
     by_cases hjk : j = k
     ·subst hjk; exact hjun
     ·rw [getD_set_ne true hjk] at hun; exact hun
    refine wpOp_mono (fun a' w' h3 => ?_) h2
    have hS' : noLate m (listed.setIfInBounds j true) → S w' := fun h => h3.2.1 (by
     rw [← Array.setIfInBounds_comm _ _ hji]
     exact h.set him)
    have hT' : T w' := by
     rcases hT with hT | ⟨hl, hT⟩
     ·exact hT w'
     ·exact hT w' (hS' ((lateB_none hl hcl hsz hiun).set (lateB_ready hl hcl hiun hj)))
    refine ⟨hS', ih (listed.setIfInBounds j true) a' w' (hcl.set hj) (by simp [hsz]) hfree' (ready_mono hr (Ne.symm hji)) h3.1 hT' hS' ?_⟩
    rw [Array.setIfInBounds_comm _ _ hji]
    exact h3.2.2
def normYS (ops : Array Oper) (m : List Nat) (y : Nat) (pl2 : PT) : Nat → PT → Array Bool → Bool
 | n + 1, .nil, listed => (match Region.ready .any ops listed with | [j] => Nat.beq y j | _ => false) && normT ops [y] n pl2 (listed.setIfInBounds y true)
 | n + 1, .fr i t, listed => ((Region.ready .any ops listed).contains i && Region.free .any ops listed i && !m.contains i) && ((aheadL .any ops y).contains i && !Nat.beq i y && normYS ops m y pl2 n t (listed.setIfInBounds i true))
 | n + 1, .one i t, listed => (match Region.ready .any ops listed with | [j] => Nat.beq i j | _ => false) && (!Nat.beq i y && normYS ops m y pl2 n t (listed.setIfInBounds i true))
 | _, _, _ => false
theorem wpAnyY_planS {pl2 : PT} (hs : Region.noSelect R = true) (hd : noDefer R = true) :
  ∀ (n : Nat) (pl : PT) (q : Bool) (S : World → Prop) (listed : Array Bool) (a : Act) (w : World), Closed .any R listed → listed.size = R.size → (noLate m listed → S w) → (noLate m listed → q = true) → normYS R m y pl2 n pl listed = true →
   wpPlanS noP P R m (fun a w => wpOpIn (WF ro) 0 P R Q y (fun a w => wpPlanS noP P R [y] (fun a w => Q .normal a w) pl2 false (fun _ => True) a w) a w) pl q S a w →
   wpAnyY ro P R Q y m S n listed a w
 | n + 1, .nil, q, S, listed, a, w, hcl, hsz, h0, hq, hB, h => by
  simp only [normYS, za] at hB
  obtain ⟨hr, hB'⟩ := hB
  have hready : Region.ready .any R listed = [y] := by
   split at hr
   ·rename_i j hj; have := zN hr; subst this; exact hj
   ·cases hr
  refine ⟨fun h0 => (by rw [hready] at h0; cases h0), fun j hj => ?_⟩
  have hj0 := hj
  rw [hready] at hj
  simp only [List.mem_singleton] at hj
  subst hj
  refine ⟨fun _ => ?_, fun e => absurd rfl e⟩
  have h' : wpOpIn (WF ro) 0 P R Q j (fun a w => wpPlanS noP P R [j] (fun a w => Q .normal a w) pl2 false (fun _ => True) a w) a w := h
  refine wpOpIn_mono (fun a' w' h3 => wpAnyIn_of_K (ε := noP) hd (fun _ _ q => q) (fun _ _ _ h => h.elim) _ _ _ _ (wpAnyK_planS (ε := noP) hs noP_ok n pl2 false (fun _ => True) _ a' w' (hcl.set hj0) (by simp [hsz]) (fun _ => trivial) (fun hn => ?_) hB' h3)) h'
  exact absurd (List.mem_cons_self ..) (hn.not_mem (unlisted_lt (mem_ready.1 hj0).1))
 | n + 1, .fr i rest, q, S, listed, a, w, hcl, hsz, h0, hq, hB, h => by
  simp only [normYS, za] at hB
  obtain ⟨⟨⟨hr, hf⟩, him⟩, ⟨hre, hne⟩, hB'⟩ := hB
  have hr' : i ∈ Region.ready .any R listed := by simpa using hr
  have him' : i ∉ m := by simpa using him
  have hiy : i ≠ y := fun e => by subst e; simp [Nat.beq_refl] at hne
  obtain ⟨o, v, hi, hy, hrest⟩ := h
  have hrec := wpAnyY_planS hs hd n rest q S _ _ _ (hcl.set hr') (by simp [hsz]) (fun h => h0 h.unset) (fun h => hq h.unset) hB' hrest
  rcases hy with ⟨hy, hS, hl⟩ | hy
  ·exact wpAnyY_first (T := S) hi (Region.noSelect_spec hs) hre hiy him' (.inr ⟨hl, fun _ h => h⟩) n listed a w hcl hsz (Region.free_spec hi hf) hr' hy hS h0 hrec
  ·exact wpAnyY_first (T := fun _ => True) hi (Region.noSelect_spec hs) hre hiy him' (.inl fun _ => trivial) n listed a w hcl hsz (Region.free_spec hi hf) hr' hy trivial h0 hrec
 | n + 1, .one i rest, q, S, listed, a, w, hcl, hsz, h0, hq, hB, h => by
  simp only [normYS, za] at hB
  obtain ⟨hr, hne, hB'⟩ := hB
  have hready : Region.ready .any R listed = [i] := by
   split at hr
   ·rename_i j hj; have := zN hr; subst this; exact hj
   ·cases hr
  have hiy : i ≠ y := fun e => by subst e; simp [Nat.beq_refl] at hne
  refine ⟨fun h0 => (by rw [hready] at h0; cases h0), fun j hj => ?_⟩
  have hj0 := hj
  rw [hready] at hj
  simp only [List.mem_singleton] at hj
  subst hj
  refine ⟨fun e => absurd e hiy, fun _ => ?_⟩
  have h2 : wpOp P R (pex noP) j _ a w := h
  refine wpOp_mono (fun a' w' h3 => ?_) (wpOp_post (Q' := fun _ _ _ => False) (fun e a w hh => by cases e <;> first | exact hh.elim | exact hh) h2)
  obtain ⟨S2, hsub, h4, h5⟩ := h3
  have hni : noLate m (listed.setIfInBounds j true) → m.contains j = false := fun hn => by
   have := hn.not_mem (unlisted_lt (mem_ready.1 hj0).1)
   simpa using this
  have hS' : noLate m (listed.setIfInBounds j true) → S2 w' := fun hn => h4 (hq hn.unset) (hni hn)
  exact ⟨fun hn => hsub _ (hS' hn), wpAnyY_sub hsub _ _ _ _ (wpAnyY_planS hs hd n rest _ S2 _ _ _ (hcl.set hj0) (by simp [hsz]) hS' (fun hn => by rw [hq hn.unset, hni hn]; rfl) hB' h5)⟩
 | _ + 1, .two _ _ _ _, _, _, _, _, _, _, _, _, _, hB, _ => by simp [normYS] at hB
 | _ + 1, .three _ _ _ _ _ _, _, _, _, _, _, _, _, _, _, hB, _ => by simp [normYS] at hB
 | _ + 1, .four _ _ _ _ _ _ _ _, _, _, _, _, _, _, _, _, _, hB, _ => by simp [normYS] at hB
 | 0, .nil, _, _, _, _, _, _, _, _, _, hB, _ => by simp [normYS] at hB
 | 0, .fr _ _, _, _, _, _, _, _, _, _, _, hB, _ => by simp [normYS] at hB
 | 0, .one _ _, _, _, _, _, _, _, _, _, _, hB, _ => by simp [normYS] at hB
 | 0, .two _ _ _ _, _, _, _, _, _, _, _, _, _, hB, _ => by simp [normYS] at hB
 | 0, .three _ _ _ _ _ _, _, _, _, _, _, _, _, _, _, hB, _ => by simp [normYS] at hB
 | 0, .four _ _ _ _ _ _ _ _, _, _, _, _, _, _, _, _, _, hB, _ => by simp [normYS] at hB
def drawYS (c : Code) (y : Nat) (pl pl2 : PT) (m : List Nat) : Bool :=
 (isReg true c && noDefer (cops c)) && (Region.noSelect (cops c) && normYS (cops c) m y pl2 (cops c).size pl (Array.replicate (cops c).size false))
theorem w_regDYS (hm : P.follows .mixedOrders = true) (y : Nat) (pl pl2 : PT) (m : List Nat) (S : World → Prop) (hB : drawYS c y pl pl2 m = true) (hS0 : S w.drew)
  (k : wpPlanS noP P (cops c) m (fun a w => wpOpIn (WF ro) 0 P (cops c) Q y (fun a w => wpPlanS noP P (cops c) [y] (fun a w => Q .normal a w) pl2 false (fun _ => True) a w) a w) pl true S a w.drew) : c.cw ro P Q a w := by
 simp only [drawYS, za] at hB
 obtain ⟨⟨hc, hd⟩, hs, hn⟩ := hB
 cases c <;> simp [isReg] at hc
 rename_i id ops b
 subst hc
 have k1 := wpAnyY_planS (ro := ro) (Q := Q) hs hd _ pl true S _ a w.drew (Closed.none _) (by simp [cops]) (fun _ => hS0) (fun _ => rfl) hn k
 exact wpIn_region_any hm (wpAnyIn_of_Y (ro := ro) (Q := Q) hd _ _ _ _ k1)
def planTo (R : Array Oper) (mL : List Nat) (y : Nat) : Nat → Array Bool → PT × Array Bool × Nat
 | 0, listed => (.nil, listed, 0)
 | n + 1, listed =>
  let rd := Region.ready .any R listed
  match rd.find? (fun i => Region.free .any R listed i && (!mL.contains i && (match R[i]? with | some o => isQ o && (!isLd o || lateB .any R mL i) | none => false))) with
  | some i => match planTo R mL y n (listed.setIfInBounds i true) with
   | (t, l, k) => (.fr i t, l, k)
  | none => match rd with
   | [i] => bif Nat.beq i y then (.nil, listed.setIfInBounds i true, n) else match planTo R mL y n (listed.setIfInBounds i true) with
    | (t, l, k) => (.one i t, l, k)
   | _ => (.nil, listed, n)
def planY (R : Array Oper) (mL : List Nat) (y : Nat) : PT × PT := match planTo R mL y R.size (Array.replicate R.size false) with
 | (t, l, k) => (t, planG R [y] k l)
end Go.K
namespace Go.K
open Go.Sl Go.Sx
inductive KX where
 | nrm | ext (id : Nat) | ret | pan (s : SV)
def XIs (e : KE) : KX → Exit → Prop
 | .nrm, x => x = .normal
 | .ext id, x => x = .exit id
 | .ret, x => x = .ret
 | .pan s, x => ∃ v, x = .panic (pch v) ∧ Is e s v
structure Sp where
 joins : List (Nat × List Vr) := []
 loops : List (Nat × List Vr) := []
 wr : List Nat := []
 pu : List Nat := []
 fz : List (Nat × List Vr) := []
 nz : List (Nat × List Nat) := []
 soft : List (Nat × List Nat) := []
 pl : List (Nat × PT) := []
def findN {α : Type} : List (Nat × α) → Nat → Option α
 | [], _ => none
 | (k, v) :: r, n => bif Nat.beq k n then some v else findN r n
def keyOf : Code → Option Nat
 | .region id _ _ => some id
 | .seq a b => match keyOf a with | some k => some k | none => keyOf b
 | .cond _ a b => match keyOf a with | some k => some k | none => keyOf b
 | .block _ a => keyOf a
 | .loop a => keyOf a
 | .scope a => keyOf a
 | .rangeFunc _ _ a b => match keyOf a with | some k => some k | none => keyOf b
 | _ => none
def hasRng : Code → Bool
 | .seq a b => hasRng a || hasRng b
 | .cond _ a b => hasRng a || hasRng b
 | .block _ a => hasRng a
 | .loop a => hasRng a
 | .scope a => hasRng a
 | .rangeFunc .. => true
 | _ => false
def dstsOf : Code → List Nat
 | .region _ ops _ => ops.toList.filterMap (·.dst)
 | .seq a b => dstsOf a ++ dstsOf b
 | .cond _ a b => dstsOf a ++ dstsOf b
 | .block _ a => dstsOf a
 | .loop a => dstsOf a
 | .scope a => dstsOf a
 | _ => []
def killOf (c : Code) (s : KS) : List Nat := let ks := keysS s.fl; (dstsOf c).filter fun t => ks.contains t
def slotsV : List Vr → List Nat
 | [] => []
 | (.slot t, _) :: l => t :: slotsV l
 | _ :: l => slotsV l
def killL (l : List Vr) (s : KS) (k : List Nat) : List Nat := k ++ (slotsV l).filter fun t => (keysS s.fl).contains t && !k.contains t
def specOf (l : List (Nat × List Vr)) (c : Code) : Option (List Vr) := match keyOf c with
 | some k => findN l k
 | none => none
def iter {α ρ : Type} : Nat → (α → Option (α ⊕ ρ)) → α → Option ρ
 | 0, _, _ => none
 | n + 1, f, y => match f y with
  | some (.inl y') => iter n f y'
  | some (.inr r) => some r
  | none => none
def jn {α ρ : Type} (o : Option (α ⊕ ρ)) (f : α → Option ρ) : Option ρ := match o with
 | some (.inl y) => f y
 | some (.inr r) => some r
 | none => none
def outR {α ρ : Type} (o : Option ρ) : Option (α ⊕ ρ) := match o with
 | some r => some (.inr r)
 | none => none
def outL {α ρ : Type} (o : Option α) : Option (α ⊕ ρ) := match o with
 | some r => some (.inl r)
 | none => none
def frzV (fl0 : SFL) : List Vr → KS → KS
 | [], s => s
 | (p, .own _ _) :: l, s => frzV fl0 l s
 | (p, .oo _ _ _) :: l, s => frzV fl0 l s
 | (p, .bx _ _ _ _) :: l, s => frzV fl0 l s
 | (p, .b2 _ _ _) :: l, s => frzV fl0 l s
 | (p, _) :: l, s => match rdP fl0 s p with
  | some v => frzV fl0 l ⟨s.fl, frzL s.m ((svC v).getD []), s.ds, s.rg⟩
  | none => frzV fl0 l s
structure Con where
 run : {ρ : Type} → List SV → KM → (CR → KM → Option ρ) → Option ρ
def argS (args : List SV) : SFL := args.zipIdx.map fun (v, i) => (i, v)
def resL (P : Program) (s : KS) : List ResultVar → Option (List SV)
 | [] => some []
 | .tmp t :: l => match lookS s.fl t, resL P s l with
  | some v, some r => some (res s.m.σ v :: r)
  | _, _ => none
 | .cell t ty :: l => match lookS s.fl t, resL P s l with
  | some (.ptr id off), some r => match at' s.m.σ id with
   | some (.cells _ cs) => match ld P ty cs off with
    | some v => some (res s.m.σ v :: r)
    | none => none
   | _ => none
  | _, _ => none
def resT : List SV → SV
 | [v] => v
 | l => .tup l
def resS (P : Program) (fn : Func) (s : KS) : Option SV := match resL P s fn.results.toList with
 | some l => some (resT l)
 | none => none
def isRecover (o : Oper) : Bool := (match o.guard with | none => true | _ => false) && (match o.op with
 | .call { callee := .builtin .recover, args := ⟨[]⟩, .. } => true
 | _ => false)
def recBody (fn : Func) : Option (Nat × Code) := match fn.body with
 | some (.seq (.region _ ⟨[o]⟩ false) rest) => bif isRecover o && fn.results.isEmpty then (match o.dst with
  | some d => some (d, rest)
  | none => none) else none
 | _ => none
def lastDef (ops : Array Oper) : Option Oper := match ops[ops.size - 1]? with
 | some o => match o.op, o.guard, o.dst with
  | .defer { callee := .value _, .. }, none, none => some o
  | _, _, _ => none
 | none => none
def defOf (σ : List Blk) (fl : SFL) (o : Oper) : Option DF := match o.op with
 | .defer { callee := .value f, args, .. } => match evS σ fl f, evL σ fl args.toList with
  | some (.fn g x c), some l => some (g, x ++ l ++ c)
  | _, _ => none
 | _ => none
abbrev RunY (ρ : Type) := Nat → List SV → KM → (Bool → KM → Option ρ) → Option ρ
def isP : SV → Bool
 | .ptr .. => true | .fn .. => true | .yld .. => true | _ => false
def ptrsF (fl : SFL) : List SV := (fl.map (·.2)).filter isP
def isY : SV → Bool
 | .yld .. => true | _ => false
def yIdx (ops : Array Oper) : Option Nat := (List.range ops.size).find? fun i => match ops[i]? with
 | some o => (match o.op with
  | .call { callee := .value (.tmp _), .. } => true
  | _ => false)
 | none => false
def yldOf (σ : List Blk) (fl : SFL) (o : Oper) : Option (Nat × List SV) := match o.op with
 | .call { callee := .value f, args, .. } => match evS σ fl f, evL σ fl args.toList with
  | some (.yld id _), some l => some (id, l)
  | _, _ => none
 | _ => none
def yFLS (ps : List Tmp) (args : List SV) (fl : SFL) : SFL := (ps.zip args).foldl (fun t p => (p.1, p.2) :: t) fl
def stepY {ρ : Type} (yr : RunY ρ) (R : Array Oper) (N i : Nat) (fl : SFL) (m : KM) (k : SFL → KM → Option ρ) : Option ρ := match R[i]? with
 | none => none
 | some o => bif dstOk N o then grd R fl o (fun fl => bif opsOk fl o then (match yldOf m.σ fl o with
   | some (id, l) => yr id l m (fun b m' => k (putS fl o.dst (.bool b)) m')
   | none => none) else none) (fun fl => k (putS fl o.dst (.raw undef)) m) else none
abbrev RunD (ρ : Type) := FuncId → List SV → SV → KM → (KM → Option ρ) → Option ρ
def nilRaw : SV → Bool
 | .raw .nilIface => true
 | _ => false
def endD {ρ : Type} (rd : RunD ρ) : List DF → KM → (KM → Option ρ) → Option ρ
 | [], m, k => k m
 | (f, c) :: q, m, k => rd f c (.raw .nilIface) m (fun m => endD rd q m k)
def endV {ρ : Type} (P : Program) (fn : Func) (fl : SFL) (k : CR → KM → Option ρ) (m : KM) : Option ρ := match resS P fn ⟨fl, m, [], false⟩ with
 | some v => k (.val v) m
 | none => none
def endK {ρ : Type} (P : Program) (fn : Func) (rd : RunD ρ) (k : CR → KM → Option ρ) (x : KX) (s : KS) : Option ρ := match x with
 | .ext _ => none
 | .pan v => match s.ds with
  | [] => k (.pan v) s.m
  | (f, c) :: q => bif nilRaw v then none else rd f c v s.m (fun m => endD rd q m (endV P fn s.fl k))
 | _ => endD rd s.ds s.m (endV P fn s.fl k)
def kpD {ρ : Type} (kill : List Nat) (s : KS) (k : KX → KS → Option ρ) (fl : SFL) (v : SV) (m : KM) : Option ρ :=
 bif (fl.take (fl.length - s.fl.length)).all (fun p => !(keysS s.fl).contains p.1 || kill.contains p.1) && kill.all (fun t => (keysS s.fl).contains t) then k (.pan v) ⟨T0fl kill s.fl, m, s.ds, s.rg⟩ else none
def neC {α : Type} (xs : List α) : Option Unit := match xs with
 | [] => none
 | _ :: _ => some ()
theorem neC_spec {α : Type} {xs : List α} {u : Unit} (h : neC xs = some u) : xs ≠ [] := by
 intro e; subst e; cases h
def nzS {ρ : Type} (σ : List Blk) : List Nat → SFL → (SFL → Option ρ) → Option ρ
 | [], fl, k => k fl
 | t :: ts, fl, k => match lookS fl t with
  | some v => match res σ v with
   | .sl u xs => (neC xs).bind fun _ => nzS σ ts ((t, .nsl u xs) :: fl) k
   | _ => none
  | none => none
theorem nzS_ok {e : KE} {σ : List Blk} {As : List Atom} {N : Nat} {a : Act} {ds : List Deferred} {ρ : Type} (m : Mem e σ As) : ∀ (l : List Nat) {fl : SFL} {flv : FL} {k : SFL → Option ρ} {r : ρ}, nzS σ l fl k = some r → Fr a N flv ds → FLIs e fl flv → ∃ fl' flv', FX fl flv fl' flv' ∧ Fr a N flv' ds ∧ FLIs e fl' flv' ∧ k fl' = some r
 | [], fl, flv, k, r, h, hf, hl => ⟨fl, flv, .refl, hf, hl, h⟩
 | t :: ts, fl, flv, k, r, h, hf, hl => by
  simp only [nzS] at h
  split at h
  ·rename_i v hv
   obtain ⟨u0, h1, h2⟩ := hl.look hv
   have h3 := res_is m h2
   split at h
   ·rename_i u xs hr
    rw [hr] at h3
    obtain ⟨_, hn, hk⟩ := bind_some h
    have hne := neC_spec hn
    have h4 : Is e (.nsl u xs) u0 := by
     cases h3 with
     | sl hs => exact .nsl hs fun e => absurd e hne
    have hf2 : Fr a N ((t, u0) :: flv) ds := ⟨hf.size, hf.defers, fun q x hh => by
     simp only [Sx.look] at hh
     cases hb : Nat.beq t q with
     | true => rw [hb] at hh; have := zN hb; subst this; cases hh; exact hf.look _ _ h1
     | false => rw [hb] at hh; exact hf.look _ _ hh⟩
    obtain ⟨fl', flv', k1, k2, k3, k4⟩ := nzS_ok m ts hk hf2 ⟨rfl, h4, hl⟩
    exact ⟨fl', flv', (FX.put (some t) (.nsl u xs) u0).trans k1, k2, k3, k4⟩
   ·cases h
  ·cases h
noncomputable def exec (P : Program) (C : FuncId → Option Con) (SP : FuncId → Sp) (lf : Nat) : Nat → {ρ : Type} → Bool → FuncId → Nat → Code → KS → (KX → KS → Option ρ) → Option ρ
 | 0, _, _, _, _, _, _, _ => none
 | n + 1, ρ, top, g, N, c, s, k =>
  let rd : RunD ρ := fun f caps v m k => match P.funcs[f]? with
   | some fn => match recBody fn with
    | some (d, rest) => let N' := caps.length + (fn.ntmps - caps.length)
     bif Nat.blt d N' && callOK P f then exec P C SP lf n true f N' rest ⟨(d, v) :: argS caps, m, [], false⟩ (fun x s' => match x with
      | .ext _ => none
      | .pan _ => none
      | _ => match s'.ds, s'.rg with
       | [], false => k s'.m
       | _, _ => none) else none
    | none => bif nilRaw v then (match fn.body with
     | some body => bif fn.results.isEmpty && callOK P f then exec P C SP lf n true f (caps.length + (fn.ntmps - caps.length)) body ⟨argS caps, m, [], false⟩ (fun x s' => match x with
      | .ext _ => none
      | .pan _ => none
      | _ => match s'.ds, s'.rg with
       | [], false => k s'.m
       | _, _ => none) else none
     | none => none) else none
   | none => none
  let call : CallF ρ := fun f args m k => match C f with
   | some con => con.run args m k
   | none => match P.funcs[f]? with
    | some fn => match fn.body with
     | some body => exec P C SP lf n true f (args.length + (fn.ntmps - args.length)) body ⟨argS args, m, [], false⟩ (endK P fn rd k)
     | none => none
    | none => none
  let yr : RunY ρ := fun id args m k => match at' m.σ id with
   | some (.loop g' N' fl ps A B .ready) => bif Nat.beq args.length ps.size && ps.toList.all (fun t => Nat.blt t N') then
     exec P C SP lf n false g' N' A ⟨yFLS ps.toList args fl, ⟨setAt m.σ id .gone, m.lg⟩, [], false⟩ (fun x s1 => match x with
      | .nrm => exec P C SP lf n false g' N' B s1 (fun x s2 => match x with
       | .nrm => k true ⟨setAt s2.m.σ id (.loop g' N' fl ps A B .ready), s2.m.lg⟩
       | .ret => k false ⟨setAt s2.m.σ id (.loop g' N' fl ps A B (.done none)), (id, 0) :: s2.m.lg⟩
       | .ext i => k false ⟨setAt s2.m.σ id (.loop g' N' fl ps A B (.done (some i))), (id, 0) :: s2.m.lg⟩
       | .pan _ => none)
      | _ => none)
    else none
   | _ => none
  match c with
  | .rangeFunc (.tmp t) ps A B => bif top then (match lookS s.fl t with
   | some (.fn gf [] caps) => bif callOK P gf then
     call gf (.yld (s.m.σ.length + 1) (ptrsF s.fl) :: caps) ⟨.loop g N s.fl ps A B .ready :: .defm :: s.m.σ, s.m.lg⟩ (fun x m' => match x with
      | .val _ => match at' m'.σ (s.m.σ.length + 1), at' m'.σ s.m.σ.length with
       | some (.loop _ _ _ _ _ _ st), some .defm =>
        let s' : KS := ⟨s.fl, ⟨setAt (setAt m'.σ (s.m.σ.length + 1) .gone) s.m.σ.length .gone, (s.m.σ.length, 0) :: (s.m.σ.length + 1, 0) :: m'.lg⟩, s.ds, true⟩
        match st with
        | .ready => k .nrm s'
        | .done none => k .ret s'
        | .done (some i) => k (.ext i) s'
        | .busy => none
       | _, _ => none
      | .pan v => match at' m'.σ (s.m.σ.length + 1), at' m'.σ s.m.σ.length with
       | some (.loop _ _ _ _ _ _ st), some .defm => k (.pan v) ⟨s.fl, ⟨setAt (setAt m'.σ (s.m.σ.length + 1) .gone) s.m.σ.length .gone, (s.m.σ.length, 0) :: (s.m.σ.length + 1, 0) :: m'.lg⟩, s.ds, true⟩
       | _, _ => none) else none
   | _ => none) else none
  | .skip => k .nrm s
  | .label _ => k .nrm s
  | .ret => k .ret s
  | .exit id => k (.ext id) s
  | .scope a => exec P C SP lf n top g N a s k
  | .block id a => exec P C SP lf n top g N a s (fun x s' => match x with
   | .ext i => bif Nat.beq i id then k .nrm s' else k (.ext i) s'
   | x => k x s')
  | .cond (.tmp t) a b => match lookS s.fl t with
   | some (.bool t) => cond t (exec P C SP lf n top g N a s k) (exec P C SP lf n top g N b s k)
   | _ => none
  | .seq a b => match specOf (SP g).joins b with
   | none => exec P C SP lf n top g N a s (fun x s' => match x with
    | .nrm => exec P C SP lf n top g N b s' k
    | x => k x s')
   | some l =>
    let s : KS := ⟨s.fl, s.m, s.ds, s.rg || hasRng a⟩
    let kill := killL l s (killOf a s)
    bif chk0 N kill l s then jn (exec P C SP lf n top g N a s (fun x s' => match x with
      | .nrm => outL (leaf kill l s (frzV s.fl l s'))
      | x => outR (k x s'))) (fun y => exec P C SP lf n top g N b (tmpl kill l s y) k) else none
  | .loop a => match specOf (SP g).loops a with
   | none => exec P C SP lf n top g N a s (fun x s' => match x with
    | .nrm => exec P C SP lf n top g N (.loop a) s' k
    | x => k x s')
   | some l =>
    let s1 := frzV s.fl l ⟨s.fl, s.m, s.ds, s.rg || hasRng a⟩
    let kill := killL l s1 (killOf a s1)
    bif chk0 N kill l s1 then match leaf kill l s1 s1 with
     | some y0 => iter lf (fun y => exec P C SP lf n top g N a (tmpl kill l s1 y) (fun x s' => match x with
      | .nrm => outL (leaf kill l s1 (frzV s1.fl l s'))
      | x => outR (k x s'))) y0
     | none => none
    else none
  | .region id ops false => nzS s.m.σ ((findN (SP g).nz id).getD []) s.fl fun fl0 => bif noDefer ops then (match (bif fl0.any (fun p => isY p.2) then yIdx ops else none) with
   | some i => seqX P call ops N (fun _ _ _ => none) (List.range i) fl0 s.m (fun fl m => stepY yr ops N i fl m (fun fl m => seqX P call ops N (fun _ _ _ => none) (List.range' (i + 1) (ops.size - (i + 1))) fl m (fun fl m => k .nrm ⟨fl, m, s.ds, s.rg⟩)))
   | none => seqX P call ops N (fun fl v m => k (.pan v) ⟨fl, m, s.ds, s.rg⟩) (List.range ops.size) fl0 s.m (fun fl m => k .nrm ⟨fl, m, s.ds, s.rg⟩))
   else match lastDef ops with
    | some o => bif top then seqX P call ops N (fun _ _ _ => none) (List.range (ops.size - 1)) fl0 s.m (fun fl m => bif opsOk fl o then match defOf m.σ fl o with
     | some d => k .nrm ⟨fl, m, d :: s.ds, s.rg⟩
     | none => none else none) else none
    | none => none
  | .region id ops true =>
   let s := frzV s.fl ((findN (SP g).fz id).getD []) s
   let mL := lateOf ((SP g).wr.contains id) (SP g).pu ops
   match (bif s.fl.any (fun p => isY p.2) then yIdx ops else none) with
   | some i => bif drawYS (.region id ops true) i (planY ops mL i).1 (planY ops mL i).2 mL then drwX P call ops N mL (fun _ _ _ => none) (planY ops mL i).1 true s.fl s.m (fun fl m => stepY yr ops N i fl m (fun fl m => drwX P call ops N [i] (fun _ _ _ => none) (planY ops mL i).2 false fl m (fun fl m => k .nrm ⟨fl, m, s.ds, s.rg⟩))) else none
   | none =>
    let pl := (findN (SP g).pl id).getD (planG ops mL ops.size (Array.replicate ops.size false))
    let kill := killOf c s
    bif drawT (.region id ops true) pl mL && kill.all (fun t => Nat.blt t N) then drwX P call ops N mL (kpD kill s k) pl true s.fl s.m (fun fl m => k .nrm ⟨fl, m, s.ds, s.rg⟩) else none
  | _ => none
end Go.K
