/-
 A part of the walk and of the plain law of one given statement. No condition.
-/
import Derived.Test.YtpooahfamelfnaaGreatDoorKl
import Derived.RecoverIn
import Derived.Test.YtpooahfamelfnaaGreatDoorK17
import Derived.Lib.Strings
import Derived.Sort.OwnSortedInts
import Derived.Shelf.Strings.BuilderK
import Derived.Shelf.Strings.Split
import Derived.Shelf.Strings.FieldsFuncAny
import Derived.Shelf.Strings.SlTrimAscii
import Derived.Shelf.Strconv.AtoiAll
import Derived.Shelf.Strconv.Itoa3
import Derived.Shelf.Small.Wraps
import Derived.Test.YtpooahfamelfnaaGreatDoorProg
set_option linter.unusedVariables false
namespace Go.Sx
open Go.Sl
variable {P : Program} {w : World} {R : Array Oper} {m : List Nat} {S : World → Prop} {K : Act → World → Prop}
theorem wpOpIn_of0 {ops : Array Oper} {i : Nat} {K : Act → World → Prop} {a : Act} {w : World} {Q : Exit → Act → World → Prop} (h : wpOp P ops (pex noP) i K a w) : wpOpIn (WF none) 0 P ops Q i K a w := by
 unfold wpOp at h
 unfold wpOpIn
 cases ho : ops[i]? with
 | none => rw [ho] at h; exact h
 | some o =>
  rw [ho] at h
  simp only at h ⊢
  cases hw : Region.wanted o (yielded ops a.tmps) with
  | false => rw [hw] at h; simp only [Bool.false_eq_true, if_false] at h ⊢; exact ⟨fun _ _ => trivial, h⟩
  | true =>
   rw [hw] at h
   simp only [if_true] at h ⊢
   have h1 : o.wp P a w K (pex noP) := h.resolve_right (fun ⟨_, _, _, hF⟩ => hF.elim)
   unfold Oper.wp at h1
   refine ⟨fun _ _ => trivial, ?_⟩
   show o.uponIn (WF none) 0 P a K Q ((execOp a.eval o).run P w)
   generalize (execOp a.eval o).run P w = r at *
   cases r with
   | ok x w' =>
    cases x <;> simp only [Oper.upon, Oper.uponIn] at h1 ⊢ <;>
     first
      | exact h1
      | exact h1.elim
      | exact ⟨WF_depth, callsIn_WF.2 (Calls.mono h1 fun e w'' he => by cases e <;> first | exact he | exact he.elim | exact (let ⟨_, _, hF⟩ := he; hF.elim))⟩
      | exact ⟨WF_depth, rowsIn_WF h1⟩
   | halt x w' => cases x <;> simp only [Oper.upon, Oper.uponIn] at h1 ⊢ <;> exact h1.elim
theorem wpOpsIn_app0 {Q : Exit → Act → World → Prop} (rest : List Nat) : ∀ (l : List Nat) (a : Act) (w : World), wpPlan noP P R m S K (l.map fun i => (i, false)) a w → (∀ a w, K a w → wpOpsIn (WF none) 0 P R Q rest a w) → wpOpsIn (WF none) 0 P R Q (l ++ rest) a w
 | [], a, w, k, hQ => hQ a w k
 | i :: l, a, w, k, hQ => by
  rw [List.cons_append, wpOpsIn_cons]
  have k' : wpOp P R (pex noP) i (fun a' w' => (m.contains i = false → S w') ∧ wpPlan noP P R m S K (l.map fun i => (i, false)) a' w') a w := k
  exact wpOpIn_mono (fun a' w' h3 => wpOpsIn_app0 rest l a' w' h3.2 hQ) (wpOpIn_of0 k')
theorem callsD_recover {f : FuncId} {fn : Func} {args : Array Value} {u u' : FrameMode} {R' : Ending → World → Prop} {v : Value} {d : Nat} {N : Nat} {rest : Code} {o : Oper} {id : Nat}
  (hfn : P.funcs[f]? = some fn) (hb : fn.body = some (.seq (.region id #[o] false) rest)) (hN : Nat.beq (args.size + (fn.ntmps - args.size)) N = true) (hd : o.dst = some d) (hdN : Nat.blt d N = true)
  (hg : o.guard = none) (hr : ∀ a : Act, (execOp a.eval o).run P w = .ok .recover w)
  (hrec : ∀ (c₀ : Frame) (cs : List Frame), c₀.mode = u → ((recoverD (c₀ :: cs) = some (v, { c₀ with mode := u' } :: cs)) ∨ (recoverD (c₀ :: cs) = none ∧ v = .nilIface ∧ u' = u)))
  (k : ∀ a, Fr a N ((d, v) :: argFL args) → rest.cw none P (fun e a' w' => match e with | .normal | .ret => a'.defers = [] ∧ ∃ x, (results fn a'.tmps).run P w' = .ok x w' ∧ R' (.returned x) w' | _ => False) a w) :
  CallsDIn (WF none) 0 P f args u w fun e v' w' => v' = u' ∧ R' e w' := by
 refine callsDIn_of_wpSIn hfn hb trivial fun c₀ cs hu => ?_
 let a0 : Act := { tmps := args ++ Array.replicate (fn.ntmps - args.size) undef, defers := [] }
 have hf0 : Fr a0 N (argFL args) := ⟨by simp [a0, zN hN], rfl, fun t x hl => by
  obtain ⟨_, h2⟩ := look_zipIdx args.toList 0 t x hl
  have hlt : t < args.size := by
   have := (List.getElem?_eq_some_iff.1 h2).1
   simpa using this
  simp only [Nat.sub_zero, Array.getElem?_toList] at h2
  simp only [a0, Array.getElem?_append, hlt, if_true]
  exact h2⟩
 refine wpSIn_seq (wpSIn_region ?_)
 have hw0 : Region.wanted o (yielded #[o] a0.tmps) = true := by
  simp [Region.wanted, hg]
 have fin : ∀ c1, (c1 = { c₀ with mode := u' }) → rest.wpSIn (WF none) 0 P (bodyPostS P fn c₀ cs fun e v' w' => v' = u' ∧ R' e w') (a0.put o.dst v) (c1 :: cs) w := fun c1 hc1 => by
  subst hc1
  refine wpSIn_of_wpIn rfl ?_
  have hput : Fr (a0.put o.dst v) N ((d, v) :: argFL args) := by
   have := hf0.put (d := o.dst) (by rw [hd]; exact hdN) v
   rw [hd] at this ⊢
   exact this
  refine wpIn_mono (k _ hput) ?_
  intro e a' w' q
  cases e with
  | normal => obtain ⟨h1, x, h2, h3⟩ := q; exact ⟨h1, u', rfl, x, h2, rfl, h3⟩
  | ret => obtain ⟨h1, x, h2, h3⟩ := q; exact ⟨h1, u', rfl, x, h2, rfl, h3⟩
  | _ => exact q.elim
 have h0 : (#[o] : Array Oper)[0]? = some o := rfl
 show wpOpsSIn (WF none) 0 P #[o] _ [0] a0 (c₀ :: cs) w
 simp only [wpOpsSIn, h0]
 refine ⟨fun _ _ => trivial, ?_⟩
 rw [hw0]
 simp only [if_true]
 rw [hr a0]
 simp only
 rcases hrec c₀ cs hu with e | ⟨e, rfl, rfl⟩
 ·rw [e]; exact fin _ rfl
 ·rw [e]; exact fin _ (by subst hu; rfl)
theorem callsD_plain {f : FuncId} {fn : Func} {args : Array Value} {u : FrameMode} {R' : Ending → World → Prop} {N : Nat} {c : Code}
  (hfn : P.funcs[f]? = some fn) (hb : fn.body = some c) (hN : Nat.beq (args.size + (fn.ntmps - args.size)) N = true)
  (k : ∀ a, Fr a N (argFL args) → c.cw none P (fun e a' w' => match e with | .normal | .ret => a'.defers = [] ∧ ∃ x, (results fn a'.tmps).run P w' = .ok x w' ∧ R' (.returned x) w' | _ => False) a w) :
  CallsDIn (WF none) 0 P f args u w fun e v' w' => v' = u ∧ R' e w' := by
 let a0 : Act := { tmps := args ++ Array.replicate (fn.ntmps - args.size) undef, defers := [] }
 have hf0 : Fr a0 N (argFL args) := ⟨by simp [a0, zN hN], rfl, fun t x hl => by
  obtain ⟨_, h2⟩ := look_zipIdx args.toList 0 t x hl
  have hlt : t < args.size := by
   have := (List.getElem?_eq_some_iff.1 h2).1
   simpa using this
  simp only [Nat.sub_zero, Array.getElem?_toList] at h2
  simp only [a0, Array.getElem?_append, hlt, if_true]
  exact h2⟩
 refine callsDIn_of_wp hfn hb trivial (wpIn_mono (k a0 hf0) ?_)
 intro e a' w' q
 cases e with
 | normal => exact q
 | ret => exact q
 | _ => exact q.elim
end Go.Sx
set_option linter.unusedSimpArgs false
namespace Go.K
open Go.Sl Go.Sx
variable {e e' e0 : KE} {σ σ' : List Blk} {As As0 L0 L A' : List Atom} {P : Program} {w : World} {N : Nat} {fl : SFL} {flv flv' : FL} {ρ : Type} {h : Zone} {a : Act} {ds : List Deferred}
def ConOk (P : Program) (L0 : List Atom) (con : Con) (g : FuncId) : Prop := ∀ {ρ : Type} {args : List SV} {vs : List Value} {m : KM} {e : KE} {As : List Atom} {w : World} {k : CR → KM → Option ρ} {r : ρ},
 con.run args m k = some r → Mem e m.σ As → St e.z (As ++ L0) w → IsL e args vs → Calls P g vs.toArray w (CallR L0 e As m k r)
theorem argS_is : ∀ {l : List SV} {vs : List Value} (i : Nat), IsL e l vs → FLIs e ((l.zipIdx i).map fun (v, i) => (i, v)) ((vs.zipIdx i).map fun (v, i) => (i, v))
 | _, _, i, .nil => trivial
 | _, _, i, .cons h t => ⟨rfl, h, argS_is (i + 1) t⟩
theorem resL_ok {s : KS} (hf : Fr a N flv ds) (hl' : FLIs e s.fl flv) (hm : Mem e s.m.σ As) (hst : St e.z (As ++ L0) w) : ∀ {rs : List ResultVar} {l : List SV}, resL P s rs = some l → ∃ vs, IsL e l vs ∧ (rs.mapM (resOne a.tmps)).run P w = .ok vs w
 | [], l, h => by simp only [resL, zI] at h; subst h; exact ⟨[], .nil, rfl⟩
 | .tmp t :: rs, l, h => by
  simp only [resL] at h
  split at h
  ·rename_i v r hl hrr
   cases h
   obtain ⟨u, h1, h2⟩ := hl'.look hl
   obtain ⟨vs, k1, k2⟩ := resL_ok hf hl' hm hst hrr
   refine ⟨u :: vs, .cons (res_is hm h2) k1, ?_⟩
   have h3 : (resOne a.tmps (.tmp t)).run P w = .ok u w := by simp only [resOne, Sem.run_pure, hf.getD h1]
   rw [List.mapM_cons, Sem.run_bind, h3, Result.andThen_ok, Sem.run_bind, k2]; rfl
  ·cases h
 | .cell t ty :: rs, l, h => by
  simp only [resL] at h
  split at h
  ·rename_i id off r hl hrr
   split at h
   ·rename_i T cs hB
    split at h
    ·rename_i v hv
     cases h
     obtain ⟨u, h1, h2⟩ := hl'.look hl
     obtain ⟨vs, k1, k2⟩ := resL_ok hf hl' hm hst hrr
     obtain ⟨i, A, m1, m2, m3⟩ := hm.get hB
     cases m3 with
     | cells hc hone =>
      rename_i us
      cases h2 with
      | ptr hi =>
       rw [hi] at m1; cases m1
       obtain ⟨q, q1, q2⟩ := ld_run (P := P) hv hc ⟨i.b, 0, none⟩
       have hw : WM e As L0 w := ⟨e.z, Zone.le_refl _, hst⟩
       have q3 := q2 w fun j x hj => by rw [add_of]; exact hw.box m2 hj
       rw [add_of] at q3
       refine ⟨q :: vs, .cons (res_is hm q1) k1, ?_⟩
       have h3 : (resOne a.tmps (.cell t ty)).run P w = .ok q w := by
        simp only [resOne, Sem.run_bind, hf.getD h1, asAddr, Sem.run_pure, Result.andThen_ok, q3]
       rw [List.mapM_cons, Sem.run_bind, h3, Result.andThen_ok, Sem.run_bind, k2]; rfl
    ·cases h
   ·cases h
  ·cases h
theorem resT_is {l : List SV} {vs : List Value} (h : IsL e l vs) : Is e (resT l) (resV vs) := by
 cases h with
 | nil => exact Is.tup (vs := []) .nil
 | cons h1 h2 =>
  cases h2 with
  | nil => exact h1
  | cons h3 h4 => exact Is.tup (vs := _ :: _ :: _) (.cons h1 (.cons h3 h4))
theorem resS_ok {s : KS} {fn : Func} {v : SV} (hf : Fr a N flv ds) (hl' : FLIs e s.fl flv) (hm : Mem e s.m.σ As) (hst : St e.z (As ++ L0) w) (h : resS P fn s = some v) : ∃ u, Is e v u ∧ (results fn a.tmps).run P w = .ok u w := by
 unfold resS at h
 split at h
 ·rename_i l hl
  cases h
  obtain ⟨vs, k1, k2⟩ := resL_ok hf hl' hm hst hl
  refine ⟨resV vs, resT_is k1, ?_⟩
  have h2 : (fn.results.mapM (resOne a.tmps)).run P w = .ok vs.toArray w := by
   rw [Array.mapM_eq_mapM_toList, map_eq_pure_bind, Sem.run_bind, k2]
   rfl
  have h3 : results fn a.tmps = (do let vs ← fn.results.mapM (resOne a.tmps); pure (if h : vs.size = 1 then vs[0] else .tuple vs)) := rfl
  rw [h3, Sem.run_bind, h2, Result.andThen_ok, Sem.run_pure, ← resV_eq]
 ·cases h
theorem recBody_eq {fn : Func} {d : Nat} {rest : Code} (h : recBody fn = some (d, rest)) : ∃ id o, fn.body = some (.seq (.region id #[o] false) rest) ∧ o.dst = some d ∧ o.guard = none ∧ fn.results = #[] ∧ ∃ ts, o.op = .call { callee := .builtin .recover, args := #[], argTypes := ts } := by
 unfold recBody at h
 split at h
 ·rename_i id o rest' hb
  cases hc : (isRecover o && fn.results.isEmpty) with
  | false => rw [hc] at h; cases h
  | true =>
   rw [hc] at h
   simp only [zT] at h
   simp only [za] at hc
   split at h
   ·rename_i d' hd
    cases h
    have h1 := hc.1
    simp only [isRecover, za] at h1
    refine ⟨id, o, hb, hd, ?_, by simpa using hc.2, ?_⟩
    ·cases hg : o.guard with
     | none => rfl
     | some => rw [hg] at h1; cases h1.1
    ·have h2 := h1.2
     split at h2
     ·rename_i ts hop; exact ⟨ts, hop⟩
     ·cases h2
   ·cases h
 ·cases h
def RunDOk {ρ : Type} (P : Program) (L0 : List Atom) (rd : RunD ρ) : Prop := ∀ {f : FuncId} {caps : List SV} {sv : SV} {m : KM} {k : KM → Option ρ} {r : ρ}, rd f caps sv m k = some r → callOK P f = true ∧
 ∀ {e : KE} {As : List Atom} {w : World} {cs : List Value} {v : Value} {u u' : FrameMode}, Mem e m.σ As → St e.z (As ++ L0) w → IsL e caps cs → Is e sv v → (sv = .raw .nilIface → u' = u) →
  (∀ (c₀ : Frame) (fs : List Frame), c₀.mode = u → ((recoverD (c₀ :: fs) = some (v, { c₀ with mode := u' } :: fs)) ∨ (recoverD (c₀ :: fs) = none ∧ v = .nilIface ∧ u' = u))) →
  CallsDIn (WF none) 0 P f cs.toArray u w fun en u2 w' => u2 = u' ∧ (en = .returned (.tuple #[]) ∧ ∃ m' e' As', k m' = some r ∧ Go1 e As m e' As' m' ∧ Mem e' m'.σ As' ∧ St e'.z (As' ++ L0) w')
theorem invoke_run {f : FuncId} {us cs : List Value} (h : callOK P f = true) : (invoke (.fn (.func f) cs.toArray) us.toArray).run P w = .ok (.enter f (us ++ cs).toArray) w := by
 unfold callOK at h
 split at h
 ·rename_i fn hfn
  simp only [za, Bool.not_eq_true'] at h
  have hn : ¬ fn.name = "runtime.NumGoroutine" := by simpa using h.1
  have hnb : ¬ fn.body = none := fun e => by simp [e] at h
  simp [invoke, callFunc, hfn, hn, hnb]
 ·cases h
theorem out_def {fn : Func} {R' : Ending → World → Prop} {tmps : Array Value} {u u' : FrameMode} {f : FuncId} {us cs : List Value} {dd : List Deferred} (hu : u ≠ .run) (hs : settle u' = .returning) (hok : callOK P f = true)
  (hcl : CallsDIn (WF none) 0 P f (us ++ cs).toArray u w fun en u2 w' => u2 = u' ∧ (en = .returned (.tuple #[]) ∧ LeavesInM (WF none) 0 P fn tmps R' dd .returning w')) :
  LeavesInM (WF none) 0 P fn tmps R' ({ target := .fn (.func f) cs.toArray, args := us.toArray } :: dd) u w := by
 refine ⟨hu, .inr ⟨fun e => absurd (show false = true from e) (by decide), .func f, cs.toArray, f, (us ++ cs).toArray, rfl, invoke_run hok, fun _ _ => trivial, ?_⟩⟩
 refine CallsDIn.mono hcl ?_
 rintro en u2 w' ⟨rfl, rfl, ho⟩
 show LeavesInM (WF none) 0 P fn tmps R' dd (settle u2) w'
 rw [hs]
 exact ho
theorem marks_out {fn : Func} {R' : Ending → World → Prop} {tmps : Array Value} {u : FrameMode} {z : Zone} (hu : u ≠ .run) : ∀ (m1 rest : List Deferred) {w : World}, noMk m1 = [] → St z (As ++ (mkA (m1 ++ rest) ++ L0)) w →
  (∀ w', St z (As ++ (mkA rest ++ L0)) w' → LeavesInM (WF none) 0 P fn tmps R' rest u w') → LeavesInM (WF none) 0 P fn tmps R' (m1 ++ rest) u w
 | [], rest, w, _, hs, k => k w hs
 | d :: m1, rest, w, hn, hs, k => by
  cases hd : mkD d with
  | none => simp [noMk, hd] at hn
  | some D =>
   have hn' : noMk m1 = [] := by simpa [noMk, hd] using hn
   have hA : mkA (d :: m1 ++ rest) = defA D :: mkA (m1 ++ rest) := by simp [mkA, marksOf, hd]
   rw [hA] at hs
   have hj : (As ++ (defA D :: mkA (m1 ++ rest) ++ L0))[As.length]? = some (defA D) := by simp
   have htg : d.target = .collected D := by
    unfold mkD at hd
    split at hd
    ·rename_i r hr; cases hd; exact hr
    ·cases hd
   obtain ⟨o, ho, hl, hput⟩ := hs.focus1 hj (l := D) (fun z hz => ⟨_, hz⟩)
   have he : o = .deferred (some []) := Hp.one_inj ho
   subst he
   refine ⟨hu, .inl ⟨D, _, htg, run_takeDeferred hl, marks_out hu m1 rest hn' ?_ k⟩⟩
   have h1 := hput ⟨fun _ z => z = Hp.one D (.deferred none), fun _ _ _ _ h => h⟩ (.deferred none) rfl
   have e2 : (As ++ (defA D :: mkA (m1 ++ rest) ++ L0)).set As.length ⟨fun _ z => z = Hp.one D (.deferred none), fun _ _ _ _ h => h⟩ = As ++ ([⟨fun _ z => z = Hp.one D (.deferred none), fun _ _ _ _ h => h⟩] ++ mkA (m1 ++ rest)) ++ L0 := by
    simp
   rw [e2] at h1
   have := St.cut h1
   rwa [List.append_assoc] at this
theorem noMk_one : ∀ {dv : List Deferred} {d : Deferred} {q : List Deferred}, noMk dv = d :: q → ∃ m1 m2, dv = m1 ++ d :: m2 ∧ noMk m1 = [] ∧ noMk m2 = q ∧ mkD d = none
 | [], d, q, h => by cases h
 | x :: dv, d, q, h => by
  cases hx : mkD x with
  | some D =>
   have h' : noMk dv = d :: q := by simpa [noMk, hx] using h
   obtain ⟨m1, m2, rfl, h1, h2, h3⟩ := noMk_one h'
   exact ⟨x :: m1, m2, rfl, by simp only [noMk, List.filter_cons, hx] at h1 ⊢; simpa using h1, h2, h3⟩
  | none =>
   have h' : x = d ∧ noMk dv = q := by simpa [noMk, hx] using h
   obtain ⟨rfl, h'⟩ := h'
   exact ⟨[], dv, rfl, rfl, h', hx⟩
theorem noMk_nil {dv : List Deferred} (h : noMk dv = []) (k : marksOf dv = []) : dv = [] := by
 cases dv with
 | nil => rfl
 | cons d dv =>
  cases hd : mkD d with
  | none => simp [noMk, hd] at h
  | some D => simp [marksOf, hd] at k
theorem endK_ok {rd : RunD ρ} (hrd : ∀ ms : List Deferred, RunDOk P (mkA ms ++ L0) rd) {dv : List Deferred} {s : KS} {fn : Func} {k : CR → KM → Option ρ} {r : ρ} {x : KX} {X : Exit} {m0 : KM} {e0 : KE} {A0 : List Atom} (h : endK P fn rd k x s = some r) (hr : KR N L0 e As flv dv s a w) (hX : XIs e x X) (hg : Go1 e0 A0 m0 e As s.m) {R' : Ending → World → Prop}
  (hR : ∀ en w', CallR L0 e0 A0 m0 k r en w' → R' en w') : postM P fn R' X a w := by
 have key : ∀ {m2 : KM} {e2 : KE} {As2 : List Atom} {w2 : World}, endV P fn s.fl k m2 = some r → Go1 e As s.m e2 As2 m2 → Mem e2 m2.σ As2 → St e2.z (As2 ++ L0) w2 → LeavesInM (WF none) 0 P fn a.tmps R' [] .returning w2 := fun {m2 e2 As2 w2} h1 h3 h4 h5 => by
  unfold endV at h1
  split at h1
  ·rename_i v hv
   obtain ⟨u, q1, q2⟩ := resS_ok (s := ⟨s.fl, m2, [], false⟩) hr.fr (hr.fl.mono h3.le) h4 h5 hv
   exact ⟨u, q2, hR _ _ ⟨.val v, _, _, _, h1, ⟨u, rfl, q1⟩, hg.trans h3, h4, h5⟩⟩
  ·cases h1
 have keyD : ∀ {f : FuncId} {c : List SV} {sv : SV} {v : Value} {u u' : FrameMode} {us cs : List Value} {m2 : List Deferred} {w : World} {m1 : KM} {e1 : KE} {As1 : List Atom} {kk : KM → Option ρ}, rd f c sv m1 kk = some r →
   (∀ m' e' As' w', kk m' = some r → Go1 e1 As1 m1 e' As' m' → Mem e' m'.σ As' → St e'.z (As' ++ (mkA m2 ++ L0)) w' → LeavesInM (WF none) 0 P fn a.tmps R' m2 .returning w') →
   Mem e1 m1.σ As1 → St e1.z (As1 ++ (mkA m2 ++ L0)) w → IsL e1 c (us ++ cs) → Is e1 sv v → (sv = .raw .nilIface → u' = u) → u ≠ .run → settle u' = .returning →
   (∀ (c₀ : Frame) (fs : List Frame), c₀.mode = u → ((recoverD (c₀ :: fs) = some (v, { c₀ with mode := u' } :: fs)) ∨ (recoverD (c₀ :: fs) = none ∧ v = .nilIface ∧ u' = u))) →
   LeavesInM (WF none) 0 P fn a.tmps R' ({ target := .fn (.func f) cs.toArray, args := us.toArray } :: m2) u w := fun {f c sv v u u' us cs m2 w m1 e1 As1 kk} hrun hk hm hst hc hv hn hu hs hrec => by
  obtain ⟨hok, hd⟩ := hrd m2 hrun
  refine out_def hu hs hok (CallsDIn.mono (hd hm hst hc hv hn hrec) ?_)
  rintro en u2 w' ⟨h1, h2, m', e', As', k1, k2, k3, k4⟩
  exact ⟨h1, h2, hk m' e' As' w' k1 k2 k3 k4⟩
 have keyL : ∀ (q : List DF) {m1 : KM} {e1 : KE} {As1 : List Atom} {dv1 : List Deferred} {w : World}, endD rd q m1 (endV P fn s.fl k) = some r → DsIs e1 q (noMk dv1) → Go1 e As s.m e1 As1 m1 → Mem e1 m1.σ As1 → St e1.z (As1 ++ (mkA dv1 ++ L0)) w → LeavesInM (WF none) 0 P fn a.tmps R' dv1 .returning w := by
  intro q
  induction q with
  | nil =>
   intro m1 e1 As1 dv1 w h1 h2 h3 h4 h5
   cases hdv : noMk dv1 with
   | nil =>
    have := marks_out (fn := fn) (R' := R') (tmps := a.tmps) (u := .returning) (P := P) (As := As1) (L0 := L0) (z := e1.z) (by simp) dv1 [] (w := w) hdv (by rw [List.append_nil]; exact h5) (fun w'' k5 => key h1 h3 h4 k5)
    rwa [List.append_nil] at this
   | cons => rw [hdv] at h2; exact h2.elim
  | cons fc q ih =>
   obtain ⟨f, c⟩ := fc
   intro m1 e1 As1 dv1 w h1 h2 h3 h4 h5
   match hdv : noMk dv1, h2 with
   | d :: rest, ⟨⟨us, vs, x1, x2⟩, x3⟩ =>
    obtain ⟨n1, n2, rfl, y1, y2, y3⟩ := noMk_one hdv
    refine marks_out (by simp) n1 (d :: n2) y1 h5 fun w' k5 => ?_
    have hA : mkA (d :: n2) = mkA n2 := by simp [mkA, marksOf, y3]
    rw [hA] at k5
    subst x1
    exact keyD h1 (fun m' e' As' w' k1 k2 k3 k4 => ih k1 (by rw [y2]; exact x3.mono k2.le) (h3.trans k2) k3 k4) h4 k5 x2 (.raw _) (fun _ => rfl) (by simp) rfl fun c₀ fs hu => .inr ⟨by simp [recoverD, hu], rfl, rfl⟩
   | [], h2 => exact h2.elim
 have ret : endD rd s.ds s.m (endV P fn s.fl k) = some r → LeavesInM (WF none) 0 P fn a.tmps R' dv .returning w := fun h => keyL s.ds h hr.dI .refl hr.mem hr.st
 cases x with
 | ext id => cases h
 | nrm =>
  have hX' : X = .normal := hX
  subst hX'
  show LeavesInM (WF none) 0 P fn a.tmps R' a.defers .returning w
  rw [hr.fr.defers]
  exact ret h
 | ret =>
  have hX' : X = .ret := hX
  subst hX'
  show LeavesInM (WF none) 0 P fn a.tmps R' a.defers .returning w
  rw [hr.fr.defers]
  exact ret h
 | pan sv =>
  obtain ⟨v, rfl, hv⟩ := hX
  show LeavesInM (WF none) 0 P fn a.tmps R' a.defers (.panicking (pch v)) w
  rw [hr.fr.defers]
  have hd := hr.dI
  simp only [endK] at h
  split at h
  ·rename_i hds
   rw [hds] at hd
   cases hdv : noMk dv with
   | nil =>
    have := marks_out (fn := fn) (R' := R') (tmps := a.tmps) (u := .panicking (pch v)) (P := P) (As := As) (L0 := L0) (z := e.z) (by simp) dv [] (w := w) hdv (by rw [List.append_nil]; exact hr.st) (fun w'' k5 => hR _ _ ⟨.pan sv, s.m, e, As, h, ⟨v, rfl, hv⟩, hg, hr.mem, k5⟩)
    rwa [List.append_nil] at this
   | cons => rw [hdv] at hd; exact hd.elim
  ·rename_i f c q hds
   rw [hds] at hd
   cases hnr : nilRaw sv with
   | true => rw [hnr] at h; cases h
   | false =>
    rw [hnr] at h
    simp only [zF] at h
    match hdv : noMk dv, hd with
    | d :: rest, ⟨⟨us, vs, x1, x2⟩, x3⟩ =>
     obtain ⟨n1, n2, rfl, y1, y2, y3⟩ := noMk_one hdv
     refine marks_out (by simp) n1 (d :: n2) y1 hr.st fun w' k5 => ?_
     have hA : mkA (d :: n2) = mkA n2 := by simp [mkA, marksOf, y3]
     rw [hA] at k5
     subst x1
     exact keyD (u' := .panicking [{ v := v, recovered := true }]) h (fun m' e' As' w' k1 k2 k3 k4 => keyL q k1 (by rw [y2]; exact x3.mono k2.le) k2 k3 k4) hr.mem k5 x2 hv (fun e => by rw [e] at hnr; cases hnr) (by simp) rfl fun c₀ fs hu => .inl (by simp [recoverD, hu])
    | [], hd => exact hd.elim
theorem frzV_ok {fl0 : SFL} : ∀ (l : List Vr) {s : KS} {e : KE} {As : List Atom}, KR N L0 e As flv ds s a w → (frzV fl0 l s).fl = s.fl ∧ (frzV fl0 l s).ds = s.ds ∧ ∃ e' As', Go1 e As s.m e' As' (frzV fl0 l s).m ∧ KR N L0 e' As' flv ds (frzV fl0 l s) a w
 | [], s, e, As, h => ⟨rfl, rfl, e, As, .refl, h⟩
 | (p, .own _ _) :: l, s, e, As, h => frzV_ok l h
 | (p, .oo _ _ _) :: l, s, e, As, h => frzV_ok l h
 | (p, .bx _ _ _ _) :: l, s, e, As, h => frzV_ok l h
 | (p, .b2 _ _ _) :: l, s, e, As, h => frzV_ok l h
 | (p, .dat u) :: l, s, e, As, h => by
  simp only [frzV]
  split
  ·rename_i v hv
   obtain ⟨e1, A1, g1, g2, g3⟩ := frzL_ok ((svC v).getD []) h.mem h.st
   obtain ⟨k1, k2, e2, A2, g4, g5⟩ := frzV_ok l (s := ⟨s.fl, frzL s.m ((svC v).getD []), s.ds, s.rg⟩) ⟨h.fr, h.fl.mono g1.le, g2, g3, h.dI.mono g1.le, h.rI⟩
   exact ⟨k1, k2, e2, A2, g1.trans g4, g5⟩
  ·exact frzV_ok l h
 | (p, .agg u) :: l, s, e, As, h => by
  simp only [frzV]
  split
  ·rename_i v hv
   obtain ⟨e1, A1, g1, g2, g3⟩ := frzL_ok ((svC v).getD []) h.mem h.st
   obtain ⟨k1, k2, e2, A2, g4, g5⟩ := frzV_ok l (s := ⟨s.fl, frzL s.m ((svC v).getD []), s.ds, s.rg⟩) ⟨h.fr, h.fl.mono g1.le, g2, g3, h.dI.mono g1.le, h.rI⟩
   exact ⟨k1, k2, e2, A2, g1.trans g4, g5⟩
  ·exact frzV_ok l h
theorem outL_inl {α : Type} {o : Option α} {y : α} (h : (outL o : Option (α ⊕ ρ)) = some (.inl y)) : o = some y := by
 unfold outL at h; split at h
 ·cases h; rfl
 ·cases h
theorem outL_inr {α : Type} {o : Option α} {y : ρ} (h : (outL o : Option (α ⊕ ρ)) = some (.inr y)) : False := by
 unfold outL at h; split at h <;> cases h
theorem outR_inr {α : Type} {o : Option ρ} {y : ρ} (h : (outR o : Option (α ⊕ ρ)) = some (.inr y)) : o = some y := by
 unfold outR at h; split at h
 ·cases h; rfl
 ·cases h
theorem outR_inl {α : Type} {o : Option ρ} {y : α} (h : (outR o : Option (α ⊕ ρ)) = some (.inl y)) : False := by
 unfold outR at h; split at h <;> cases h
variable {C : FuncId → Option Con} {SP : FuncId → Sp} {lf : Nat}
def ExecOk (P : Program) (C : FuncId → Option Con) (SP : FuncId → Sp) (lf : Nat) (Cl : List Atom → Prop) (n : Nat) : Prop := ∀ {L0 : List Atom}, Cl L0 → ∀ {ρ : Type} {top : Bool} {g : FuncId} {N : Nat} {c : Code} {s : KS} {k : KX → KS → Option ρ} {r : ρ}, exec P C SP lf n top g N c s k = some r →
 ∀ {dv : List Deferred} {e : KE} {As : List Atom} {flv : FL} {a : Act} {w : World} {Q : Exit → Act → World → Prop} {ro : Option Nat}, (top = true → ro = none) → KR N L0 e As flv dv s a w →
  (∀ x s' e' As' flv' dv' a' w' X, k x s' = some r → FX s.fl flv s'.fl flv' → DX dv dv' → Go1 e As s.m e' As' s'.m → KR N L0 e' As' flv' dv' s' a' w' → XIs e' x X → Q X a' w') → c.cw ro P Q a w
noncomputable def rdF (P : Program) (C : FuncId → Option Con) (SP : FuncId → Sp) (lf n : Nat) (ρ : Type) : RunD ρ := fun f caps v m k => match P.funcs[f]? with
   | some fn => match recBody fn with
    | some (d, rest) => let N' := caps.length + (fn.ntmps - caps.length)
     bif Nat.blt d N' && callOK P f then exec P C SP lf n true f N' rest ⟨(d, v) :: argS caps, m, [], false⟩ (fun x s' => match x with
      | .ext _ => none
      | .pan _ => none
      | _ => match s'.ds, s'.rg with
       | [], false => k s'.m
       | _, _ => none) else none
    | none => bif nilRaw v then (match fn.body with
     | some body => bif fn.results.isEmpty && callOK P f then exec P C SP lf n true f (caps.length + (fn.ntmps - caps.length)) body ⟨argS caps, m, [], false⟩ (fun x s' => match x with
      | .ext _ => none
      | .pan _ => none
      | _ => match s'.ds, s'.rg with
       | [], false => k s'.m
       | _, _ => none) else none
     | none => none) else none
   | none => none
noncomputable def callF (P : Program) (C : FuncId → Option Con) (SP : FuncId → Sp) (lf n : Nat) (ρ : Type) : CallF ρ := fun f args m k => match C f with
   | some con => con.run args m k
   | none => match P.funcs[f]? with
    | some fn => match fn.body with
     | some body => exec P C SP lf n true f (args.length + (fn.ntmps - args.length)) body ⟨argS args, m, [], false⟩ (endK P fn (rdF P C SP lf n ρ) k)
     | none => none
    | none => none
theorem cl_app {Cl : List Atom → Prop} (hup : ∀ A L, Cl L → Cl (A :: L)) (h : Cl L0) : ∀ l : List Atom, Cl (l ++ L0)
 | [] => h
 | A :: l => hup A _ (cl_app hup h l)
theorem cl_marks {Cl : List Atom → Prop} (hup : ∀ A L, Cl L → Cl (A :: L)) (h : Cl L0) (ms : List Deferred) : Cl (mkA ms ++ L0) := cl_app hup h _
theorem rd_ok {Cl : List Atom → Prop} {n : Nat} (ih : ExecOk P C SP lf Cl n) (hcl : Cl L0) {ρ : Type} : RunDOk P L0 (rdF P C SP lf n ρ) := by
 intro f caps sv m k r h
 simp only [rdF] at h
 split at h
 ·rename_i fn hfn
  split at h
  ·rename_i d rest hb
   cases hc : (Nat.blt d (caps.length + (fn.ntmps - caps.length)) && callOK P f) with
   | false => rw [hc] at h; cases h
   | true =>
    rw [hc] at h
    simp only [zT] at h
    simp only [za] at hc
    refine ⟨hc.2, fun {e As w cs v u u'} h1 h2 hl hv hnr hrec => ?_⟩
    obtain ⟨id, o, b1, b2, b3, b4, ts, b5⟩ := recBody_eq hb
    have hlen := hl.len
    have hrun : ∀ a : Act, (execOp a.eval o).run P w = .ok .recover w := fun a => by simp [execOp, b5, resolve, invoke, builtin]
    refine CallsDIn.mono (callsD_recover (R' := fun en w' => en = .returned (.tuple #[]) ∧ ∃ m' e' As', k m' = some r ∧ Go1 e As m e' As' m' ∧ Mem e' m'.σ As' ∧ St e'.z (As' ++ L0) w') (N := caps.length + (fn.ntmps - caps.length)) hfn b1 (by simp [hlen]) b2 hc.1 b3 hrun hrec fun a hf => ?_) fun en u2 w' h => h
    have hkr : KR (caps.length + (fn.ntmps - caps.length)) L0 e As ((d, v) :: argFL cs.toArray) [] ⟨(d, sv) :: argS caps, m, [], false⟩ a w := ⟨hf, ⟨rfl, hv, argS_is 0 hl⟩, h1, h2, trivial, fun _ => rfl⟩
    refine ih hcl h (fun _ => rfl) hkr fun x s' e' As' flv' dv' a' w' X q1 q2 q3 q4 q5 q6 => ?_
    have fin : (match s'.ds, s'.rg with | [], false => k s'.m | _, _ => none) = some r → a'.defers = [] ∧ ∃ x, (results fn a'.tmps).run P w' = .ok x w' ∧ (Ending.returned x = .returned (.tuple #[]) ∧ ∃ m' e' As', k m' = some r ∧ Go1 e As m e' As' m' ∧ Mem e' m'.σ As' ∧ St e'.z (As' ++ L0) w') := fun hh => by
     have hd := q5.dI
     split at hh
     ·rename_i hds hrg
      rw [hds] at hd
      cases hdv : noMk dv' with
      | nil =>
       have hdv' := noMk_nil hdv (q5.rI hrg)
       subst hdv'
       refine ⟨q5.fr.defers, .tuple #[], ?_, rfl, s'.m, e', As', hh, q4, q5.mem, q5.st⟩
       simp [results, b4]
      | cons => rw [hdv] at hd; exact hd.elim
     ·cases hh
    cases x with
    | ext i => cases q1
    | pan s => cases q1
    | nrm => have hX : X = .normal := q6; subst hX; exact fin q1
    | ret => have hX : X = .ret := q6; subst hX; exact fin q1
  ·cases hnr : nilRaw sv with
   | false => rw [hnr] at h; cases h
   | true =>
    rw [hnr] at h
    simp only [zT] at h
    have hsv : sv = .raw .nilIface := by
     unfold nilRaw at hnr
     split at hnr
     ·rfl
     ·cases hnr
    subst hsv
    split at h
    ·rename_i body hb
     cases hc : (fn.results.isEmpty && callOK P f) with
     | false => rw [hc] at h; cases h
     | true =>
      rw [hc] at h
      simp only [zT] at h
      simp only [za] at hc
      have b4 : fn.results = #[] := by simpa using hc.1
      refine ⟨hc.2, fun {e As w cs v u u'} h1 h2 hl hv hnu hrec => ?_⟩
      cases hnu rfl
      have hlen := hl.len
      refine CallsDIn.mono (callsD_plain (R' := fun en w' => en = .returned (.tuple #[]) ∧ ∃ m' e' As', k m' = some r ∧ Go1 e As m e' As' m' ∧ Mem e' m'.σ As' ∧ St e'.z (As' ++ L0) w') (N := caps.length + (fn.ntmps - caps.length)) hfn hb (by simp [hlen]) fun a hf => ?_) fun en u2 w' h => h
      have hkr : KR (caps.length + (fn.ntmps - caps.length)) L0 e As (argFL cs.toArray) [] ⟨argS caps, m, [], false⟩ a w := ⟨hf, argS_is 0 hl, h1, h2, trivial, fun _ => rfl⟩
      refine ih hcl h (fun _ => rfl) hkr fun x s' e' As' flv' dv' a' w' X q1 q2 q3 q4 q5 q6 => ?_
      have fin : (match s'.ds, s'.rg with | [], false => k s'.m | _, _ => none) = some r → a'.defers = [] ∧ ∃ x, (results fn a'.tmps).run P w' = .ok x w' ∧ (Ending.returned x = .returned (.tuple #[]) ∧ ∃ m' e' As', k m' = some r ∧ Go1 e As m e' As' m' ∧ Mem e' m'.σ As' ∧ St e'.z (As' ++ L0) w') := fun hh => by
       have hd := q5.dI
       split at hh
       ·rename_i hds hrg
        rw [hds] at hd
        cases hdv : noMk dv' with
        | nil =>
         have hdv' := noMk_nil hdv (q5.rI hrg)
         subst hdv'
         refine ⟨q5.fr.defers, .tuple #[], ?_, rfl, s'.m, e', As', hh, q4, q5.mem, q5.st⟩
         simp [results, b4]
        | cons => rw [hdv] at hd; exact hd.elim
       ·cases hh
      cases x with
      | ext i => cases q1
      | pan s => cases q1
      | nrm => have hX : X = .normal := q6; subst hX; exact fin q1
      | ret => have hX : X = .ret := q6; subst hX; exact fin q1
    ·cases h
 ·cases h
theorem call_ok {Cl : List Atom → Prop} (hup : ∀ A L, Cl L → Cl (A :: L)) {n : Nat} (hC : ∀ L, Cl L → ∀ g con, C g = some con → ConOk P L con g) (ih : ExecOk P C SP lf Cl n) (hcl : Cl L0) {ρ : Type} : CallOk P L0 (callF P C SP lf n ρ) := by
 intro g args vs m e As w k r h h1 h2 hl
 simp only [callF] at h
 split at h
 ·rename_i con hcon
  exact (hC L0 hcl g con hcon) h h1 h2 hl
 ·split at h
  ·rename_i fn hfn
   split at h
   ·rename_i body hb
    have hlen := hl.len
    refine calls_intro (N := args.length + (fn.ntmps - args.length)) hfn (by simp [hb, hlen]) fun a hf => ?_
    have hbody : bodyOf fn = body := by simp [bodyOf, hb]
    rw [hbody]
    have hkr : KR (args.length + (fn.ntmps - args.length)) L0 e As (argFL vs.toArray) [] ⟨argS args, m, [], false⟩ a w := ⟨hf, argS_is 0 hl, h1, h2, trivial, fun _ => rfl⟩
    exact ih hcl h (fun _ => rfl) hkr fun x s' e' As' flv' dv' a' w' X q1 q2 q3 q4 q5 q6 => endK_ok (fun ms => rd_ok ih (cl_marks hup hcl ms)) q1 q5 q6 q4 fun _ _ h => h
   ·cases h
  ·cases h
theorem fr_kill {kill : List Nat} {e1 : KE} {fl fl' : SFL} {flv flv' : FL} {dv : List Deferred} (hf : Fr a N flv' dv) (h0 : FLIs e fl flv) (h1 : FLIs e1 fl' flv') (hx : FX fl flv fl' flv') (hk : ∀ t ∈ kill, Nat.blt t N = true)
  (hc : ∀ p ∈ fl'.take (fl'.length - fl.length), (!(keysS fl).contains p.1 || kill.contains p.1) = true) : Fr a N (kill.map (fun t => (t, a.tmps.getD t undef)) ++ flv) dv := by
 obtain ⟨d, dv', e1', e2, e3⟩ := hx
 have htake : fl'.take (fl'.length - fl.length) = d := by rw [e1']; simp
 rw [htake] at hc
 rw [e1', e2] at h1
 obtain ⟨kd, _⟩ := fl_keys h1 e3
 refine ⟨hf.size, hf.defers, fun t v hl => ?_⟩
 have key : ∀ k : List Nat, (∀ t ∈ k, Nat.blt t N = true) → Sx.look (k.map (fun t => (t, a.tmps.getD t undef)) ++ flv) t = some v → a.tmps[t]? = some v ∨ (t ∉ k ∧ Sx.look flv t = some v) := by
  intro k
  induction k with
  | nil => intro _ hh; exact .inr ⟨by simp, hh⟩
  | cons q k ih =>
   intro hb hh
   simp only [List.map_cons, List.cons_append, Sx.look] at hh
   cases hbq : Nat.beq q t with
   | true =>
    rw [hbq] at hh
    have := zN hbq
    subst this
    simp only [zT, zI] at hh
    have hlt : q < a.tmps.size := by rw [hf.size]; simpa [Nat.blt_eq] using hb q (by simp)
    refine .inl ?_
    rw [← hh, Array.getD_eq_getD_getElem?, Array.getElem?_eq_getElem hlt]; rfl
   | false =>
    rw [hbq] at hh
    rcases ih (fun t ht => hb t (List.mem_cons_of_mem _ ht)) hh with h5 | ⟨h5, h6⟩
    ·exact .inl h5
    ·refine .inr ⟨fun hm => ?_, h6⟩
     rcases List.mem_cons.1 hm with e5 | e5
     ·subst e5; simp at hbq
     ·exact h5 e5
 rcases key kill hk hl with h5 | ⟨h5, h6⟩
 ·exact h5
 ·have hks := look_keys h0 h6
  have hnd : t ∉ dv'.map (·.1) := fun hm => by
   rw [kd] at hm
   obtain ⟨p, hp1, hp2⟩ := List.mem_map.1 hm
   have := hc p hp1
   simp only [Bool.or_eq_true, Bool.not_eq_true', List.contains_iff_mem] at this
   rw [hp2] at this
   rcases this with h7 | h7
   ·have := List.contains_iff_mem.2 hks; rw [this] at h7; cases h7
   ·exact h5 h7
  refine hf.look t v ?_
  rw [e2, look_app hnd]; exact h6
theorem any_is {kill : List Nat} {fl : SFL} {flv : FL} (h : FLIs e fl flv) (g : Nat → Value) : FLIs e (T0fl kill fl) (kill.map (fun t => (t, g t)) ++ flv) := by
 unfold T0fl
 induction kill with
 | nil => exact h
 | cons t k ih => exact ⟨rfl, .any _, ih⟩
end Go.K
namespace Go.K
open Go.Sl Go.Sx
variable {e e' e0 : KE} {σ σ' : List Blk} {As As0 L0 L A' : List Atom} {P : Program} {w : World} {N : Nat} {fl : SFL} {flv flv' : FL} {ρ : Type} {h : Zone} {a : Act} {ds : List Deferred} {z : Zone}
variable {C : FuncId → Option Con} {SP : FuncId → Sp} {lf : Nat}
theorem st_take {id : Nat} {A : Atom} (hs : St z (As ++ L0) w) (hA : at' As id = some A) : St z (setAt As id emp ++ (A :: L0)) w := by
 have h1 := hs.split (i := As.length - 1 - id) (A := A) (B := A) (C := emp) (Mem.atom hA) fun z hz => ⟨z, Hp.nil, hz, rfl, Hp.apart_nil _, (Hp.add_nil z).symm⟩
 rw [setAt_app (at_lt hA)] at h1
 exact h1.perm List.perm_middle.symm
theorem st_back {id : Nat} {A : Atom} (hs : St z (As ++ (A :: L0)) w) (hid : id < As.length) : St z (setAt As id A ++ L0) w := by
 have hj : As.length - 1 - id < As.length := by omega
 have e1 : As = As.take (As.length - 1 - id) ++ As[As.length - 1 - id] :: As.drop (As.length - 1 - id + 1) := by
  rw [← List.drop_eq_getElem_cons hj, List.take_append_drop]
 have e2 : setAt As id A = As.take (As.length - 1 - id) ++ A :: As.drop (As.length - 1 - id + 1) := by
  unfold setAt; rw [List.set_eq_take_append_cons_drop, if_pos hj]
 rw [e1] at hs
 rw [e2]
 generalize As.take (As.length - 1 - id) = X at *
 generalize As.drop (As.length - 1 - id + 1) = Y at *
 generalize As[As.length - 1 - id] = B at *
 have p : ((X ++ B :: Y) ++ (A :: L0)).Perm (B :: ((X ++ A :: Y) ++ L0)) := by
  have p1 : ((X ++ B :: Y) ++ (A :: L0)).Perm (B :: ((X ++ Y) ++ (A :: L0))) := List.Perm.append_right (A :: L0) (List.perm_middle (l₁ := X) (l₂ := Y) (a := B))
  have p2 : ((X ++ Y) ++ (A :: L0)).Perm ((X ++ A :: Y) ++ L0) := by
   have q1 : ((X ++ Y) ++ (A :: L0)).Perm (A :: ((X ++ Y) ++ L0)) := List.perm_middle
   have q2 : ((X ++ A :: Y) ++ L0).Perm (A :: ((X ++ Y) ++ L0)) := List.Perm.append_right L0 (List.perm_middle (l₁ := X) (l₂ := Y) (a := A))
   exact q1.trans q2.symm
  exact p1.trans (p2.cons B)
 exact (hs.perm p).tail
theorem ExtM.rest {m m2 : KM} {id : Nat} {B : Blk} (hB : at' m.σ id = some B) (hne : ∀ T cs, B ≠ .cells T cs) (h : ExtM ⟨setAt m.σ id .gone, m.lg⟩ m2) : ExtM m ⟨setAt m2.σ id B, m2.lg⟩ := by
 obtain ⟨d, h⟩ := h
 have hid := at_lt hB
 have hlen : m.σ.length ≤ m2.σ.length := by have := h.len; rwa [len_setAt] at this
 refine ⟨d, h.lg, by rw [len_setAt]; exact hlen, fun {j T cs} hj => ?_, fun {j B'} hj hne' hn => ?_⟩
 ·have hij : id ≠ j := fun e => by subst e; rw [hB] at hj; exact hne _ _ (Option.some.inj hj)
  obtain ⟨cs', h1, h2, h3⟩ := h.cells (id := j) (T := T) (cs := cs) (by rw [at_set_ne hid hij]; exact hj)
  exact ⟨cs', by show at' (setAt m2.σ id B) j = _; rw [at_set_ne (by omega) hij]; exact h1, h2, h3⟩
 ·by_cases hij : id = j
  ·subst hij
   rw [hB] at hj; cases hj
   exact at_set (by omega)
  ·show at' (setAt m2.σ id B) j = _
   rw [at_set_ne (by omega) hij]
   exact h.other (by rw [at_set_ne hid hij]; exact hj) hne' hn
theorem ExtM.rest' {m m2 : KM} {id : Nat} {B B' : Blk} (hB : at' m.σ id = some B) (hne : ∀ T cs, B ≠ .cells T cs) (h : ExtM ⟨setAt m.σ id .gone, m.lg⟩ m2) : ExtM m ⟨setAt m2.σ id B', (id, 0) :: m2.lg⟩ := by
 obtain ⟨d, h⟩ := h
 have hid := at_lt hB
 have hlen : m.σ.length ≤ m2.σ.length := by have := h.len; rwa [len_setAt] at this
 refine ⟨(id, 0) :: d, by simp [h.lg], by rw [len_setAt]; exact hlen, fun {j T cs} hj => ?_, fun {j B'} hj hne' hn => ?_⟩
 ·have hij : id ≠ j := fun e => by subst e; rw [hB] at hj; exact hne _ _ (Option.some.inj hj)
  obtain ⟨cs', h1, h2, h3⟩ := h.cells (id := j) (T := T) (cs := cs) (by rw [at_set_ne hid hij]; exact hj)
  exact ⟨cs', by show at' (setAt m2.σ id _) j = _; rw [at_set_ne (by omega) hij]; exact h1, h2, fun off ho => h3 off fun hm => ho (List.mem_cons_of_mem _ hm)⟩
 ·by_cases hij : id = j
  ·subst hij
   exact absurd (List.mem_cons_self ..) hn
  ·show at' (setAt m2.σ id _) j = _
   rw [at_set_ne (by omega) hij]
   exact h.other (by rw [at_set_ne hid hij]; exact hj) hne' fun hm => hn (List.mem_cons_of_mem _ hm)
theorem setAt_app' {α : Type} {l X : List α} {id : Nat} {x : α} (h : id < X.length) : setAt (l ++ X) id x = l ++ setAt X id x := by
 unfold setAt
 rw [List.length_append, show l.length + X.length - 1 - id = l.length + (X.length - 1 - id) by omega, List.set_append_right _ _ (by omega)]
 congr 2
 omega
theorem setAt_setAt {α : Type} {X : List α} {id : Nat} {x y : α} (h : at' X id = some y) : setAt (setAt X id x) id y = X := by
 have := at_pos h
 unfold setAt
 rw [List.length_set, List.set_set]
 exact list_set_same this
noncomputable def yrF (P : Program) (C : FuncId → Option Con) (SP : FuncId → Sp) (lf n : Nat) (ρ : Type) : RunY ρ := fun id args m k => match at' m.σ id with
   | some (.loop g' N' fl ps A B .ready) => bif Nat.beq args.length ps.size && ps.toList.all (fun t => Nat.blt t N') then
     exec P C SP lf n false g' N' A ⟨yFLS ps.toList args fl, ⟨setAt m.σ id .gone, m.lg⟩, [], false⟩ (fun x s1 => match x with
      | .nrm => exec P C SP lf n false g' N' B s1 (fun x s2 => match x with
       | .nrm => k true ⟨setAt s2.m.σ id (.loop g' N' fl ps A B .ready), s2.m.lg⟩
       | .ret => k false ⟨setAt s2.m.σ id (.loop g' N' fl ps A B (.done none)), (id, 0) :: s2.m.lg⟩
       | .ext i => k false ⟨setAt s2.m.σ id (.loop g' N' fl ps A B (.done (some i))), (id, 0) :: s2.m.lg⟩
       | .pan _ => none)
      | _ => none)
    else none
   | _ => none
theorem ptrsF_is : ∀ {fl : SFL} {flv : FL}, FLIs e fl flv → ∃ vs, IsL e (ptrsF fl) vs
 | [], [], _ => ⟨[], .nil⟩
 | (k, s) :: fl, (k', v) :: flv, ⟨_, h2, h3⟩ => by
  obtain ⟨vs, hv⟩ := ptrsF_is h3
  unfold ptrsF at hv ⊢
  rw [List.map_cons, List.filter_cons]
  split
  ·exact ⟨v :: vs, .cons h2 hv⟩
  ·exact ⟨vs, hv⟩
 | [], _ :: _, h => h.elim
 | _ :: _, [], h => h.elim
theorem runO_program {α : Type} (g : Program → Sem α) (os : List Value) : runO P (program >>= g) os = runO P (g P) os := rfl
theorem invoke_runY {f : FuncId} {cs : List Value} {l : Nat} (h : callOK P f = true) : runO P (invoke (.fn (.func f) cs.toArray) #[.func (.yield l) #[] #[]]) [] = some (.enter f (#[.func (.yield l) #[] #[]] ++ cs.toArray), [], []) := by
 unfold callOK at h
 split at h
 ·rename_i fn hfn
  simp only [za, Bool.not_eq_true'] at h
  have hn : ¬ fn.name = "runtime.NumGoroutine" := by simpa using h.1
  have hnb : ¬ fn.body = none := fun e => by simp [e] at h
  simp [invoke, callFunc, runO_program, hfn, hn, hnb, runO]
  rfl
 ·cases h
theorem yFLS_is : ∀ {ps : List Tmp} {l : List SV} {vs : List Value} {fl : SFL} {flv : FL}, IsL e l vs → FLIs e fl flv → FLIs e (yFLS ps l fl) ((ps.zip vs).foldl (fun t p => (p.1, p.2) :: t) flv)
 | [], l, vs, fl, flv, hl, hf => by simpa [yFLS] using hf
 | p :: ps, _, _, fl, flv, .nil, hf => by simpa [yFLS] using hf
 | p :: ps, _, _, fl, flv, .cons h t, hf => by
  have := yFLS_is (ps := ps) t (fl := (p, _) :: fl) (flv := (p, _) :: flv) ⟨rfl, h, hf⟩
  simpa [yFLS] using this
theorem yr_ok {Cl : List Atom → Prop} (hup : ∀ A L, Cl L → Cl (A :: L)) {n : Nat} (ih : ExecOk P C SP lf Cl n) (hcl : Cl L0) {id : Nat} {args : List SV} {vs : List Value} {m : KM} {k : Bool → KM → Option ρ} {r : ρ}
  (h : yrF P C SP lf n ρ id args m k = some r) (h1 : Mem e m.σ As) (h2 : St e.z (As ++ L0) w) (hl : IsL e args vs) {bi : BI} (hi : at' e.bs id = some bi)
  {R : Array Oper} {i : Nat} {d : Option Nat} {K : Act → World → Prop} {ro : Option Nat} {Q : Exit → Act → World → Prop} (hf : Fr a N flv ds) (ho : yieldAt R N i flv = some (d, bi.b, vs.toArray))
  (hk : ∀ b m' e' As' w' a', k b m' = some r → Go1 e As m e' As' m' → Mem e' m'.σ As' → St e'.z (As' ++ L0) w' → Fr a' N (putF flv d (.bool b)) ds → K a' w') : wpOpIn (WF ro) 0 P R Q i K a w := by
 unfold yrF at h
 split at h
 ·rename_i g' N' fl ps A B hB
  cases hc : (Nat.beq args.length ps.size && ps.toList.all (fun t => Nat.blt t N')) with
  | false => rw [hc] at h; cases h
  | true =>
   rw [hc] at h
   simp only [zT] at h
   simp only [za] at hc
   obtain ⟨i', A0, m1, m2, m3⟩ := h1.get hB
   rw [hi] at m1; cases m1
   have hne : ∀ T cs, (Blk.loop g' N' fl ps A B .ready) ≠ .cells T cs := fun _ _ e => by cases e
   cases m3 with
   | loop hfl =>
    rename_i flv0 D
    have hlen := hl.len
    have hst1 := st_take h2 m2
    have hidA := at_lt m2
    have hps : (Nat.beq vs.toArray.size ps.size && (ps.zip vs.toArray).toList.all fun p => Nat.blt p.1 N') = true := by
     rw [za]
     refine ⟨by simpa [hlen] using hc.1, List.all_eq_true.2 fun p hp => ?_⟩
     have hp' : p ∈ ps.toList.zip vs := by simpa using hp
     exact List.all_eq_true.1 hc.2 p.1 (List.of_mem_zip hp').1
    refine p_yield (N0 := N') (fl0 := flv0) (ps := ps) (A := A) (B := B) (D := D) hf ho hst1 (j := (setAt As id emp).length) (by simp [LS.st, LS.pe]) hps fun a1 hf1 => ?_
    have hyf : FLIs e (yFLS ps.toList args fl) (yFL ps vs.toArray flv0) := by
     have := yFLS_is (ps := ps.toList) hl hfl
     unfold yFL
     rw [← Array.foldl_toList]
     simpa using this
    refine ih (hup _ _ hcl) h (fun hh => by cases hh) ⟨hf1, hyf, h1.set hi .gone, hst1, trivial, fun _ => rfl⟩ fun x s1 e1 A1 flv1 dv1 a2 w1 X q1 q2 q3 q4 q5 q6 => ?_
    cases x with
    | nrm =>
     have hX : X = .normal := q6
     subst hX
     show beginG P bi.b B (roundPost P bi.b (yR K N flv ds d)) a2 w1
     have hst5 := q5.st
     refine p_begin (j := A1.length + (mkA dv1).length) hst5 (by simp [LS.st, LS.pe]; rfl) fun w2 hst6 => ?_
     have e6 : (A1 ++ (mkA dv1 ++ (loopA bi.b N' flv0 ps A B D LS.ready.st LS.ready.pe :: L0))).set (A1.length + (mkA dv1).length) (loopA bi.b N' flv0 ps A B D .busy none) = A1 ++ (mkA dv1 ++ (loopA bi.b N' flv0 ps A B D .busy none :: L0)) := by
      rw [List.set_append_right _ _ (by omega), List.set_append_right _ _ (by omega)]
      simp
     rw [e6] at hst6
     refine ih (L0 := loopA bi.b N' flv0 ps A B D .busy none :: L0) (hup _ _ hcl) q1 (fun hh => by cases hh) ⟨q5.fr, q5.fl, q5.mem, hst6, q5.dI, q5.rI⟩ fun x s2 e2 A2 flv2 dv2 a3 w3 X r1 r2 r3 r4 r5 r6 => ?_
     have hgo := q4.trans r4
     have hi2 : at' e2.bs id = some bi := hgo.le.at hi
     have hidA2 : id < A2.length := by
      rw [← r5.mem.la, r5.mem.lb]; exact at_lt hi2
     have hj : (A2 ++ (mkA dv2 ++ (loopA bi.b N' flv0 ps A B D .busy none :: L0)))[A2.length + (mkA dv2).length]? = some (loopA bi.b N' flv0 ps A B D .busy none) := by
      rw [List.getElem?_append_right (by omega), List.getElem?_append_right (by omega)]
      simp
     have hset : ∀ X : Atom, (A2 ++ (mkA dv2 ++ (loopA bi.b N' flv0 ps A B D .busy none :: L0))).set (A2.length + (mkA dv2).length) X = A2 ++ (mkA dv2 ++ (X :: L0)) := fun X => by
      rw [List.set_append_right _ _ (by omega), List.set_append_right _ _ (by omega)]
      simp
     have hout : ∀ {X : Atom} {w' : World}, St e2.z (A2 ++ (mkA dv2 ++ (X :: L0))) w' → St e2.z (setAt A2 id X ++ L0) w' := fun {X w'} hs => by
      have hs2 : St e2.z (A2 ++ (mkA dv2 ++ [X]) ++ L0) w' := by simpa using hs
      have hs3 : St e2.z (A2 ++ (X :: L0)) w' := by simpa using St.cut hs2
      exact st_back hs3 hidA2
     have hfl2 := hfl.mono hgo.le
     cases x with
     | nrm =>
      have hX : X = .normal := r6
      subst hX
      refine p_roundN r5.st hj fun w' a' hst7 hf7 => ?_
      rw [hset] at hst7
      refine hk true _ e2 (setAt A2 id (loopA bi.b N' flv0 ps A B D .ready none)) w' a' r1 ⟨hgo.le, hgo.ext.rest hB hne, fun hlg => ?_⟩ (r5.mem.set hi2 (.loop (st := .ready) hfl2)) (hout hst7) hf7
      obtain ⟨l, hl2⟩ := hgo.az hlg
      refine ⟨l, ?_⟩
      rw [hl2, setAt_app' (by rw [len_setAt]; exact hidA)]
      congr 1
      exact setAt_setAt (y := loopA bi.b N' flv0 ps A B D .ready none) m2
     | ret =>
      have hX : X = .ret := r6
      subst hX
      refine p_roundR r5.st hj fun w' a' hst7 hf7 => ?_
      rw [hset] at hst7
      refine hk false _ e2 _ w' a' r1 ⟨hgo.le, hgo.ext.rest' hB hne, fun hlg => ?_⟩ (r5.mem.set hi2 (.loop (st := .done none) hfl2)) (hout hst7) hf7
      have := hgo.ext.lgle
      simp at hlg this
      omega
     | ext q =>
      have hX : X = .exit q := r6
      subst hX
      refine p_roundX r5.st hj fun w' a' hst7 hf7 => ?_
      rw [hset] at hst7
      refine hk false _ e2 _ w' a' r1 ⟨hgo.le, hgo.ext.rest' hB hne, fun hlg => ?_⟩ (r5.mem.set hi2 (.loop (st := .done (some q)) hfl2)) (hout hst7) hf7
      have := hgo.ext.lgle
      simp at hlg this
      omega
     | pan sv => cases r1
    | ret => cases q1
    | ext q => cases q1
    | pan sv => cases q1
 ·cases h
theorem stepY_ok {Cl : List Atom → Prop} (hup : ∀ A L, Cl L → Cl (A :: L)) {n : Nat} (ih : ExecOk P C SP lf Cl n) (hcl : Cl L0) {R : Array Oper} {i : Nat} {m : KM} {k : SFL → KM → Option ρ} {r : ρ}
  (h : stepY (yrF P C SP lf n ρ) R N i fl m k = some r) (hf : Fr a N flv ds) (hl : FLIs e fl flv) (h1 : Mem e m.σ As) (h2 : St e.z (As ++ L0) w) {K : Act → World → Prop} {ro : Option Nat} {Q : Exit → Act → World → Prop}
  (hk : ∀ fl' flv' m' e' As' a' w', k fl' m' = some r → FX fl flv fl' flv' → Go1 e As m e' As' m' → Fr a' N flv' ds → FLIs e' fl' flv' → Mem e' m'.σ As' → St e'.z (As' ++ L0) w' → K a' w') : wpOpIn (WF ro) 0 P R Q i K a w := by
 unfold stepY at h
 split at h
 ·cases h
 ·rename_i o hR
  cases hd : dstOk N o with
  | false => rw [hd] at h; cases h
  | true =>
   rw [hd] at h
   simp only [zT] at h
   obtain ⟨fl1, flv1, fx, hf1, hl1, hor⟩ := grd_ok hf hl h
   rcases hor with ⟨hw, hrun⟩ | ⟨hw, hrun⟩
   ·cases ho : opsOk fl1 o with
    | false => rw [ho] at hrun; cases hrun
    | true =>
     rw [ho] at hrun
     simp only [zT] at hrun
     split at hrun
     ·rename_i id l hy
      unfold yldOf at hy
      split at hy
      ·rename_i f args aT hop
       split at hy
       ·rename_i id' fr l' hfv hlv
        cases hy
        obtain ⟨u0, _⟩ := evS_is h1 hl1 hfv
        have hargs := evL_is h1 hl1 hlv
        generalize hgv : ev flv1 f = gv at u0
        cases u0 with
        | yld hi hfr =>
         rename_i bi vs'
         have hat : yieldAt R N i flv1 = some (o.dst, bi.b, (args.toList.map (ev flv1)).toArray) := by
          have hkn := opsOk_is hl1 ho
          unfold yieldAt
          rw [hR]
          simp only [hw, hkn, Bool.true_and]
          unfold dstOk at hd
          cases hds : o.dst with
          | none =>
           simp only [zT, hop, hgv]
           simp
           apply Array.toList_inj.1
           simp
          | some d9 =>
           rw [hds] at hd
           simp only at hd
           simp only [hd, zT, hop, hgv]
           simp
           apply Array.toList_inj.1
           simp
         exact yr_ok hup ih hcl hrun h1 h2 hargs hi hf1 hat fun b m' e' As' w' a' g1 g2 g3 g4 g5 => hk _ _ m' e' As' a' w' g1 (fx.trans (FX.put o.dst (.bool b) (.bool b))) g2 g5 ((hl1.mono g2.le).put (.bool b) o.dst) g3 g4
       ·cases hy
      ·cases hy
     ·cases hrun
   ·unfold wpOpIn
    rw [hR]
    simp only [wantedF_sound hf1 hw]
    rw [if_neg (by simp)]
    refine ⟨fun _ _ => trivial, ?_⟩
    exact hk _ _ m e As _ w hrun (fx.trans (FX.put o.dst (.raw undef) undef)) .refl (hf1.put hd undef) (hl1.put (.raw undef) o.dst) h1 h2
end Go.K
namespace Go.K
open Go.Sl Go.Sx
variable {e e' e0 : KE} {σ σ' : List Blk} {As As0 L0 L A' : List Atom} {P : Program} {w : World} {N : Nat} {fl : SFL} {flv flv' : FL} {ρ : Type} {h : Zone} {a : Act} {ds : List Deferred}
variable {C : FuncId → Option Con} {SP : FuncId → Sp} {lf : Nat}
variable {ro : Option Nat} {c : Code} {Q : Exit → Act → World → Prop}
theorem w_regP {ε : Px} (hc : (isReg false c && noDefer (cops c)) = true) (hP : ∀ ch a' w', ε ch a' w' → Q (.panic ch) a' w')
  (k : wpPlan ε P (cops c) [] (fun _ => True) (fun a w => Q .normal a w) (planSeq c) a w) : c.cw ro P Q a w := by
 simp only [za] at hc
 obtain ⟨hc, hd⟩ := hc
 cases c <;> simp [isReg] at hc
 subst hc
 exact wpIn_region (wpOpsIn_of_plan (ε := ε) hd hP _ _ _ k fun _ _ h => h)
theorem w_regDP {ε : Px} (hm : P.follows .mixedOrders = true) (pl : PT) (m : List Nat) (S : World → Prop) (hε : PxOK (cops c) ε) (hP : ∀ ch a' w', ε ch a' w' → Q (.panic ch) a' w') (hB : drawT c pl m = true) (hS0 : S w.drew)
  (k : wpPlanS ε P (cops c) m (fun a w => Q .normal a w) pl true S a w.drew) : c.cw ro P Q a w := by
 simp only [drawT, za] at hB
 obtain ⟨⟨hc, hd⟩, hs, hn⟩ := hB
 cases c <;> simp [isReg] at hc
 rename_i id ops b
 subst hc
 have k1 := wpAnyK_planS (ε := ε) hs hε _ pl true S _ a w.drew (Closed.none _) (by simp) (fun _ => hS0) (fun _ => rfl) hn k
 have k2 := wpAnyIn_of_K (ε := ε) (ro := ro) (Q := Q) hd (fun _ _ h => h) (fun c a w h => hP c a w h) _ _ _ _ k1
 exact wpIn_region_any hm k2
def PanR (L0 : List Atom) (N : Nat) (kill : List Nat) (s : KS) (flv : FL) (dv : List Deferred) (e : KE) (As : List Atom) (kp : SV → KM → Option ρ) (r : ρ) : Px := fun ch a w =>
 ∃ v sv m' e' As', ch = pch v ∧ kp sv m' = some r ∧ Go1 e As s.m e' As' m' ∧ Is e' sv v ∧ Mem e' m'.σ As' ∧ St e'.z (As' ++ L0) w ∧ ∃ g : Nat → Value, Fr a N (kill.map (fun t => (t, g t)) ++ flv) dv
theorem map_keys (kill : List Nat) (g : Nat → Value) : (kill.map (fun t => (t, g t))).map (·.1) = kill := by
 induction kill with
 | nil => rfl
 | cons t k ih => simp only [List.map_cons, ih]
theorem panR_ok {kill : List Nat} {s : KS} {dv : List Deferred} {kp : SV → KM → Option ρ} {r : ρ} {id : Nat} {ops : Array Oper} (hkl : kill = killOf (.region id ops true) s) (hk : ∀ t ∈ kill, Nat.blt t N = true) (h0 : FLIs e s.fl flv) : PxOK ops (PanR (mkA dv ++ L0) N kill s flv dv e As kp r) := by
 rintro i o u ch a w ho ⟨v, sv, m', e', As', h1, h2, h3, h4, h5, h6, g, hf⟩
 refine ⟨v, sv, m', e', As', h1, h2, h3, h4, h5, h6, fun t => a.tmps.getD t undef, ?_⟩
 have hsz : a.tmps.size = N := by
  have := hf.size
  cases hd : o.dst <;> simpa [hd, Act.put] using this
 refine ⟨hsz, by have := hf.defers; cases hd : o.dst <;> simpa [hd, Act.put] using this, fun t x hl => ?_⟩
 by_cases ht : t ∈ kill
 ·have key : ∀ k : List Nat, t ∈ k → Sx.look (k.map (fun t => (t, a.tmps.getD t undef)) ++ flv) t = some (a.tmps.getD t undef) := by
   intro k
   induction k with
   | nil => intro h; cases h
   | cons q k ih =>
    intro h
    simp only [List.map_cons, List.cons_append, Sx.look]
    cases hb : Nat.beq q t with
    | true => have := zN hb; subst this; rfl
    | false =>
     refine ih ((List.mem_cons.1 h).resolve_left fun e => ?_)
     subst e; simp at hb
  rw [key kill ht] at hl
  cases hl
  have hlt : t < a.tmps.size := by rw [hsz]; simpa [Nat.blt_eq] using hk t ht
  rw [Array.getD_eq_getD_getElem?, Array.getElem?_eq_getElem hlt]; rfl
 ·have hn1 : t ∉ (kill.map (fun t => (t, a.tmps.getD t undef))).map (·.1) := by rw [map_keys]; exact ht
  have hn2 : t ∉ (kill.map (fun t => (t, g t))).map (·.1) := by rw [map_keys]; exact ht
  rw [look_app hn1] at hl
  have h7 := hf.look t x (by rw [look_app hn2]; exact hl)
  cases hd : o.dst with
  | none => simpa [hd, Act.put] using h7
  | some d =>
   rw [hd] at h7
   simp only [Act.put] at h7
   have hne : d ≠ t := fun e => by
    subst e
    refine ht ?_
    rw [hkl]
    simp only [killOf, List.mem_filter, List.contains_iff_mem]
    refine ⟨?_, look_keys h0 hl⟩
    simp only [dstsOf, List.mem_filterMap]
    exact ⟨o, by have := Array.mem_of_getElem? ho; simpa using this, hd⟩
   rwa [Array.getElem?_setIfInBounds_ne hne] at h7
theorem lastDef_eq {ops : Array Oper} {o : Oper} (h : lastDef ops = some o) : ops[ops.size - 1]? = some o ∧ o.guard = none ∧ o.dst = none ∧ ∃ f az ts, o.op = .defer { callee := .value f, args := az, argTypes := ts } := by
 unfold lastDef at h
 split at h
 ·rename_i o' ho
  split at h
  ·rename_i f az ts h1 h2 h3
   cases h
   exact ⟨ho, h2, h3, f, az, ts, h1⟩
  ·cases h
 ·cases h
theorem w_lastD {dd : Deferred} {dv : List Deferred} {ops : Array Oper} {o : Oper} {id : Nat} (hl : lastDef ops = some o)
  (k : wpPlan noP P ops [] (fun _ => True) (fun a w => ∃ (flv : FL) (dd : Deferred), Fr a N flv dv ∧ known flv o = true ∧ (execOp (ev flv) o).run P w = .ok (.defer dd) w ∧ ∀ a', Fr a' N flv (dd :: dv) → Q .normal a' w) ((List.range (ops.size - 1)).map fun i => (i, false)) a w) : (Code.region id ops false).cw none P Q a w := by
 obtain ⟨h1, h2, h3, f, az, ts, h4⟩ := lastDef_eq hl
 refine wpIn_region ?_
 have hsz : ops.size = (ops.size - 1) + 1 := by have := (Array.getElem?_eq_some_iff.1 h1).1; omega
 rw [hsz, List.range_succ]
 refine wpOpsIn_app0 _ _ _ _ k fun a w hk => ?_
 obtain ⟨flv, dd, hf, hkn, hrun, hq⟩ := hk
 rw [wpOpsIn_cons]
 show wpOpIn (WF none) 0 P ops Q (ops.size - 1) (fun a w => Q .normal a w) a w
 unfold wpOpIn
 have hw : Region.wanted o (yielded ops a.tmps) = true := by simp [Region.wanted, h2]
 simp only [h1, hw, if_true]
 refine ⟨fun _ _ => trivial, ?_⟩
 show o.uponIn (WF none) 0 P a _ Q ((execOp a.eval o).run P w)
 rw [hf.exec hkn, hrun]
 show Q .normal ({ a with defers := dd :: a.defers }.put o.dst undef) w
 rw [h3]
 exact hq _ ⟨hf.size, by show dd :: a.defers = dd :: dv; rw [hf.defers], hf.look⟩
theorem w_rangeP {g gf : Nat} {lb : Array Value} {L : List Atom} {fl : FL} (hc : rg c = some g) (hf : Fr a N fl ds) (hS : St h L w) (hg : Sx.look fl g = some (.func (.func gf) #[] lb))
  (hcall : ∀ l, runO P (invoke (.fn (.func gf) lb) #[.func (.yield l) #[] #[]]) [] = some (.enter gf (#[.func (.yield l) #[] #[]] ++ lb), [], []))
  (k : ∀ ps A B, ps = rgP c → A = rgA c → B = rgB c → ∀ l D w', St h (loopA l N fl ps A B D .ready none :: defA D :: L) w' →
   Calls P gf (#[.func (.yield l) #[] #[]] ++ lb) w' fun e w'' => match e with
    | .returned v => ∀ a', Fr a' N fl (Sx.mark D :: ds) → endR P l Q a' w''
    | .panicked ch => ∀ a', Fr a' N fl (Sx.mark D :: ds) → Q (.panic ch) a' w''
    | .outgrown => False) : c.cw none P Q a w := by
 cases c with
 | rangeFunc x ps assign body =>
  cases x with
  | tmp t =>
   simp only [rg, zI] at hc
   subst hc
   have hS1 := hS.new (defA w.heap.size) (.deferred (some [])) rfl
   refine wpIn_rangeFunc fun fn _ => ?_
   have hS2 := hS1.new (loopA (w.heap.size + 1) N fl ps assign body w.heap.size .ready none)
    (.loop { state := .ready, pending := none, fn := fn, tmps := a.tmps, params := ps, assign := assign, body := body, defers := w.heap.size })
    ⟨fn, a.tmps, ⟨hf.size, rfl, hf.look⟩, by rw [World.size_alloc]⟩
   have hev : a.eval (.tmp t) = .func (.func gf) #[] lb := hf.getD hg
   have hent := run_enterLoop_outer (P := P) (w := w) fn a.tmps ps assign body
   generalize ((w.alloc (.deferred (some []))).alloc (.loop { state := .ready, pending := none, fn := fn, tmps := a.tmps, params := ps, assign := assign, body := body, defers := w.heap.size })) = W2 at hS2 hent
   refine ⟨w.heap.size + 1, [Sx.mark w.heap.size], W2, { target := .fn (.func gf) lb, args := #[.func (.yield (w.heap.size + 1)) #[] #[]] }, W2, gf,
    #[.func (.yield (w.heap.size + 1)) #[] #[]] ++ lb, W2, hent, ?_, fun _ _ => trivial, runO_sound _ (hcall _) (by simp), WF_depth, ?_⟩
   ·simp only [resolve, hev]
    simp [go_sem]
   ·refine callsIn_WF.2 (Calls.mono (k _ _ _ rfl rfl rfl _ _ _ hS2) ?_)
    intro e w3 hk
    cases e with
    | returned v => exact hk _ ⟨hf.size, by rw [hf.defers]; rfl, hf.look⟩
    | panicked ch => exact hk _ ⟨hf.size, by rw [hf.defers]; rfl, hf.look⟩
    | outgrown => exact hk.elim
  | _ => simp [rg] at hc
 | _ => simp [rg] at hc
theorem exec_ok {Cl : List Atom → Prop} (hup : ∀ A L, Cl L → Cl (A :: L)) (hP : P.follows .mixedOrders = true) (hC : ∀ L, Cl L → ∀ g con, C g = some con → ConOk P L con g) : ∀ n, ExecOk P C SP lf Cl n := by
 intro n
 induction n using Nat.strongRecOn with
 | ind n ihs =>
 cases n with
 | zero => intro L0 hcl ρ top g N c s k r h; simp [exec] at h
 | succ n =>
  have ih : ExecOk P C SP lf Cl n := by intro L0; exact ihs n (Nat.lt_succ_self n)
  intro L0 hcl ρ top g N c s k r h dv e As flv a w Q ro hro hr hk
  have hcm : Cl (mkA dv ++ L0) := cl_marks hup hcl dv
  cases c with
  | skip => simp only [exec] at h; exact w_skip (by rfl) (hk .nrm s e As flv dv a w _ h .refl .refl .refl hr rfl)
  | label l => simp only [exec] at h; exact w_skip (by rfl) (hk .nrm s e As flv dv a w _ h .refl .refl .refl hr rfl)
  | ret => simp only [exec] at h; exact w_ret (by rfl) (hk .ret s e As flv dv a w _ h .refl .refl .refl hr rfl)
  | exit id => simp only [exec] at h; exact w_exit (id := id) (by rfl) (hk (.ext id) s e As flv dv a w _ h .refl .refl .refl hr rfl)
  | scope c =>
   simp only [exec] at h
   refine w_scope (by rfl) (ih hcl h hro hr fun x s' e' As' flv' dv' a' w' X q1 q2 q3 q4 q5 q6 => ?_)
   have := hk x s' e' As' flv' dv' a' w' X q1 q2 q3 q4 q5 q6
   cases x with
   | nrm => have hX : X = .normal := q6; subst hX; exact this
   | ret => have hX : X = .ret := q6; subst hX; exact this
   | ext i => have hX : X = .exit i := q6; subst hX; exact this
   | pan sv => obtain ⟨v, rfl, _⟩ := q6; exact this
  | block id c =>
   simp only [exec] at h
   refine w_block (id := id) (by rfl) (ih hcl h hro hr fun x s' e' As' flv' dv' a' w' X q1 q2 q3 q4 q5 q6 => ?_)
   cases x with
   | nrm => have hX : X = .normal := q6; subst hX; exact hk .nrm s' e' As' flv' dv' a' w' _ q1 q2 q3 q4 q5 rfl
   | ret => have hX : X = .ret := q6; subst hX; exact hk .ret s' e' As' flv' dv' a' w' _ q1 q2 q3 q4 q5 rfl
   | pan sv => have q7 := q6; obtain ⟨v, rfl, _⟩ := q6; exact hk (.pan sv) s' e' As' flv' dv' a' w' _ q1 q2 q3 q4 q5 q7
   | ext i =>
    have hX : X = .exit i := q6
    subst hX
    simp only at q1
    cases hb : Nat.beq i id with
    | true =>
     rw [hb] at q1
     have := zN hb
     subst this
     exact x_block (hk .nrm s' e' As' flv' dv' a' w' _ q1 q2 q3 q4 q5 rfl)
    | false =>
     rw [hb] at q1
     exact x_pass hb (hk (.ext i) s' e' As' flv' dv' a' w' _ q1 q2 q3 q4 q5 rfl)
  | cond x c1 c2 =>
   cases x with
   | tmp t =>
    simp only [exec] at h
    split at h
    ·rename_i b hl
     obtain ⟨v, h1, h2⟩ := hr.fl.look hl
     cases h2
     refine w_if hr.fr (b := b) (by simp [condV, condX, h1]) (fun hb => ?_) (fun hb => ?_)
     ·subst hb; exact ih hcl h hro hr hk
     ·subst hb; exact ih hcl h hro hr hk
    ·cases h
   | _ => simp [exec] at h
  | seq c1 c2 =>
   simp only [exec] at h
   split at h
   ·refine w_seq (by rfl) (ih hcl h hro hr fun x s' e' As' flv' dv' a' w' X q1 q2 q3 q4 q5 q6 => ?_)
    cases x with
    | nrm =>
     have hX : X = .normal := q6
     subst hX
     exact ih hcl q1 hro q5 fun x2 s2 e2 A2 f2 d2 a2 w2 X2 r1 r2 r3 r4 r5 r6 => hk x2 s2 e2 A2 f2 d2 a2 w2 X2 r1 (q2.trans r2) (q3.trans r3) (q4.trans r4) r5 r6
    | ext i => have hX : X = .exit i := q6; subst hX; exact hk (.ext i) s' e' As' flv' dv' a' w' _ q1 q2 q3 q4 q5 rfl
    | ret => have hX : X = .ret := q6; subst hX; exact hk .ret s' e' As' flv' dv' a' w' _ q1 q2 q3 q4 q5 rfl
    | pan sv => have q7 := q6; obtain ⟨v, rfl, _⟩ := q6; exact hk (.pan sv) s' e' As' flv' dv' a' w' _ q1 q2 q3 q4 q5 q7
   ·rename_i l hl
    have hr0 : KR N L0 e As flv dv ⟨s.fl, s.m, s.ds, s.rg || hasRng c1⟩ a w := ⟨hr.fr, hr.fl, hr.mem, hr.st, hr.dI, fun hh => hr.rI (by
     have hh' : (s.rg || hasRng c1) = false := hh
     simp only [Bool.or_eq_false_iff] at hh'
     exact hh'.1)⟩
    have efl : (⟨s.fl, s.m, s.ds, s.rg || hasRng c1⟩ : KS).fl = s.fl := rfl
    have em : (⟨s.fl, s.m, s.ds, s.rg || hasRng c1⟩ : KS).m = s.m := rfl
    revert h hr0 efl em
    generalize (⟨s.fl, s.m, s.ds, s.rg || hasRng c1⟩ : KS) = s0
    intro h hr0 efl em
    rw [← efl, ← em] at hk
    cases hb : chk0 N (killL l s0 (killOf c1 s0)) l s0 with
    | false => rw [hb] at h; cases h
    | true =>
     rw [hb] at h
     simp only [zT] at h
     unfold jn at h
     split at h
     ·rename_i y hy
      refine w_seq (by rfl) (ih hcl hy hro hr0 fun x s' e' As' flv' dv' a' w' X q1 q2 q3 q4 q5 q6 => ?_)
      cases x with
      | nrm =>
       have hX : X = .normal := q6
       subst hX
       have hle := outL_inl q1
       obtain ⟨f1, f2, e1, A1, g1, g2⟩ := frzV_ok (fl0 := s.fl) l q5
       obtain ⟨c', Ac, flvc, m1, m2, m3⟩ := meet hr0 g2 q3 (by rw [f1]; exact q2) (q4.trans g1) hb hle
       exact ih hcl h hro m1 fun x2 s2 e2 A2 f2 d2 a2 w2 X2 r1 r2 r3 r4 r5 r6 => hk x2 s2 e2 A2 f2 d2 a2 w2 X2 r1 (m2.trans r2) (q3.trans r3) (m3.trans r4) r5 r6
      | ext i => exact (outR_inl q1).elim
      | ret => exact (outR_inl q1).elim
      | pan sv => exact (outR_inl q1).elim
     ·rename_i r' hy
      cases h
      refine w_seq (by rfl) (ih hcl hy hro hr0 fun x s' e' As' flv' dv' a' w' X q1 q2 q3 q4 q5 q6 => ?_)
      cases x with
      | nrm => exact (outL_inr q1).elim
      | ext i => have hX : X = .exit i := q6; subst hX; exact hk (.ext i) s' e' As' flv' dv' a' w' _ (outR_inr q1) q2 q3 q4 q5 rfl
      | ret => have hX : X = .ret := q6; subst hX; exact hk .ret s' e' As' flv' dv' a' w' _ (outR_inr q1) q2 q3 q4 q5 rfl
      | pan sv => have q7 := q6; obtain ⟨v, rfl, _⟩ := q6; exact hk (.pan sv) s' e' As' flv' dv' a' w' _ (outR_inr q1) q2 q3 q4 q5 q7
     ·cases h
  | loop c =>
   have h0 := h
   simp only [exec] at h
   split at h
   ·rename_i hl
    refine w_loop (by rfl) (fun j a w => ∃ (s2 : KS) (e2 : KE) (A2 : List Atom) (f2 : FL) (d2 : List Deferred), j ≤ n + 1 ∧ exec P C SP lf j top g N (.loop c) s2 k = some r ∧ FX s.fl flv s2.fl f2 ∧ DX dv d2 ∧ Go1 e As s.m e2 A2 s2.m ∧ KR N L0 e2 A2 f2 d2 s2 a w) (n + 1) ⟨s, e, As, flv, dv, Nat.le_refl _, h0, .refl, .refl, .refl, hr⟩ ?_
    rintro j a2 w2 ⟨s2, e2, A2, f2, d2, hj, hx, k1, k2, k3, k4⟩
    cases j with
    | zero => simp [exec] at hx
    | succ j =>
     simp only [exec, hl] at hx
     have ihj : ExecOk P C SP lf Cl j := by intro L0; exact ihs j (by omega)
     refine ihj hcl hx hro k4 fun x s' e' As' flv' dv' a' w' X q1 q2 q3 q4 q5 q6 => ?_
     cases x with
     | nrm => have hX : X = .normal := q6; subst hX; exact ⟨j, Nat.lt_succ_self j, s', e', As', flv', dv', by omega, q1, k1.trans q2, k2.trans q3, k3.trans q4, q5⟩
     | ext i => have hX : X = .exit i := q6; subst hX; exact hk (.ext i) s' e' As' flv' dv' a' w' _ q1 (k1.trans q2) (k2.trans q3) (k3.trans q4) q5 rfl
     | ret => have hX : X = .ret := q6; subst hX; exact hk .ret s' e' As' flv' dv' a' w' _ q1 (k1.trans q2) (k2.trans q3) (k3.trans q4) q5 rfl
     | pan sv => have q7 := q6; obtain ⟨v, rfl, _⟩ := q6; exact hk (.pan sv) s' e' As' flv' dv' a' w' _ q1 (k1.trans q2) (k2.trans q3) (k3.trans q4) q5 q7
   ·rename_i l hl
    have hr0 : KR N L0 e As flv dv ⟨s.fl, s.m, s.ds, s.rg || hasRng c⟩ a w := ⟨hr.fr, hr.fl, hr.mem, hr.st, hr.dI, fun hh => hr.rI (by
     have hh' : (s.rg || hasRng c) = false := hh
     simp only [Bool.or_eq_false_iff] at hh'
     exact hh'.1)⟩
    obtain ⟨f1, f2, e1, A1, g1, g2⟩ := frzV_ok (fl0 := s.fl) l hr0
    revert h f1 f2 g1 g2
    generalize frzV s.fl l ⟨s.fl, s.m, s.ds, s.rg || hasRng c⟩ = s1
    intro h f1 f2 g1 g2
    cases hb : chk0 N (killL l s1 (killOf c s1)) l s1 with
    | false => rw [hb] at h; cases h
    | true =>
     rw [hb] at h
     simp only [zT] at h
     split at h
     ·rename_i y0 hy0
      obtain ⟨c0, Ac, flvc, m1, m2, m3⟩ := meet g2 g2 .refl .refl .refl hb hy0
      refine w_loop (by rfl) (fun j a w => ∃ (y : vty l) (e2 : KE) (A2 : List Atom) (f2 : FL) (d2 : List Deferred), DX dv d2 ∧ iter j (fun y => exec P C SP lf n top g N c (tmpl (killL l s1 (killOf c s1)) l s1 y) (fun x s' => match x with
       | .nrm => outL (leaf (killL l s1 (killOf c s1)) l s1 (frzV s1.fl l s'))
       | x => outR (k x s'))) y = some r ∧ FX s1.fl flv (tmpl (killL l s1 (killOf c s1)) l s1 y).fl f2 ∧ Go1 e1 A1 s1.m e2 A2 (tmpl (killL l s1 (killOf c s1)) l s1 y).m ∧ KR N L0 e2 A2 f2 d2 (tmpl (killL l s1 (killOf c s1)) l s1 y) a w) lf ⟨y0, c0, Ac, flvc, dv, .refl, h, m2, m3, m1⟩ ?_
      rintro j a2 w2 ⟨y, e2, A2, f2', d2, hdv, hit, hx, hg, hkr⟩
      cases j with
      | zero => cases hit
      | succ j =>
       simp only [iter] at hit
       split at hit
       ·rename_i y' hy'
        refine ih hcl hy' hro hkr fun x s' e' As' flv' dv' a' w' X q1 q2 q3 q4 q5 q6 => ?_
        cases x with
        | nrm =>
         have hX : X = .normal := q6
         subst hX
         have hle := outL_inl q1
         obtain ⟨f3, f4, e3, A3, g3, g4⟩ := frzV_ok (fl0 := s1.fl) l q5
         obtain ⟨c', Ac', flvc', n1, n2, n3⟩ := meet g2 g4 (hdv.trans q3) (by rw [f3]; exact hx.trans q2) (hg.trans (q4.trans g3)) hb hle
         exact ⟨j, Nat.lt_succ_self j, y', c', Ac', flvc', dv', hdv.trans q3, hit, n2, n3, n1⟩
        | ext i => exact (outR_inl q1).elim
        | ret => exact (outR_inl q1).elim
        | pan sv => exact (outR_inl q1).elim
       ·rename_i r' hy'
        cases hit
        refine ih hcl hy' hro hkr fun x s' e' As' flv' dv' a' w' X q1 q2 q3 q4 q5 q6 => ?_
        have hxx : FX s.fl flv s'.fl flv' := by rw [← f1]; exact hx.trans q2
        cases x with
        | nrm => exact (outL_inr q1).elim
        | ext i => have hX : X = .exit i := q6; subst hX; exact hk (.ext i) s' e' As' flv' dv' a' w' _ (outR_inr q1) hxx (hdv.trans q3) (g1.trans (hg.trans q4)) q5 rfl
        | ret => have hX : X = .ret := q6; subst hX; exact hk .ret s' e' As' flv' dv' a' w' _ (outR_inr q1) hxx (hdv.trans q3) (g1.trans (hg.trans q4)) q5 rfl
        | pan sv => have q7 := q6; obtain ⟨v, rfl, _⟩ := q6; exact hk (.pan sv) s' e' As' flv' dv' a' w' _ (outR_inr q1) hxx (hdv.trans q3) (g1.trans (hg.trans q4)) q5 q7
       ·cases hit
     ·cases h
  | region id ops d =>
   cases d with
   | false =>
    simp only [exec] at h
    obtain ⟨fl1, flv1, fx, hf1, hl1, h⟩ := nzS_ok hr.mem _ h hr.fr hr.fl
    have hr1 : KR N L0 e As flv1 dv ⟨fl1, s.m, s.ds, s.rg⟩ a w := ⟨hf1, hl1, hr.mem, hr.st, hr.dI, hr.rI⟩
    have hk1 : ∀ x s' e' As' flv' dv' a' w' X, k x s' = some r → FX (⟨fl1, s.m, s.ds, s.rg⟩ : KS).fl flv1 s'.fl flv' → DX dv dv' → Go1 e As (⟨fl1, s.m, s.ds, s.rg⟩ : KS).m e' As' s'.m → KR N L0 e' As' flv' dv' s' a' w' → XIs e' x X → Q X a' w' := fun x s' e' As' flv' dv' a' w' X q1 q2 q3 q4 q5 q6 => hk x s' e' As' flv' dv' a' w' X q1 (fx.trans q2) q3 q4 q5 q6
    obtain ⟨s1, hs1⟩ : ∃ s1 : KS, s1 = ⟨fl1, s.m, s.ds, s.rg⟩ := ⟨_, rfl⟩
    have ea : fl1 = s1.fl := by rw [hs1]
    have eb : s.m = s1.m := by rw [hs1]
    have ec : s.ds = s1.ds := by rw [hs1]
    have ed : s.rg = s1.rg := by rw [hs1]
    rw [← hs1] at hr1 hk1
    rw [ea, eb, ec, ed] at h
    clear hk hr ea eb ec ed hs1 hf1 hl1 fx
    revert h hr1 hk1
    revert s1 flv1
    intro flv s h hk hr
    cases hb : noDefer ops with
    | false =>
     rw [hb] at h
     simp only [zF] at h
     split at h
     ·rename_i o hlo
      cases top with
      | false => cases h
      | true =>
       simp only [zT] at h
       cases hro rfl
       refine w_lastD (N := N) (dv := dv) (dd := default) hlo ?_
       refine seqX_ok (ε := noP) (R := ops) (call_ok hup hC ih hcm) (List.range (ops.size - 1)) h hr.fr hr.fl hr.mem hr.st (fun fl' flv' m' e' As' a' w' q1 q2 q3 q4 q5 q6 q7 => ?_) (fun s v fl' flv' m' e' As' a' w' q1 => by cases q1)
       cases hoo : opsOk fl' o with
       | false => rw [hoo] at q1; cases q1
       | true =>
        rw [hoo] at q1
        simp only [zT] at q1
        split at q1
        ·rename_i d hd
         obtain ⟨_, _, _, f, az, ts, hop⟩ := lastDef_eq hlo
         simp only [defOf, hop] at hd
         split at hd
         ·rename_i gg xx cc ll hfv hlv
          cases hd
          obtain ⟨u0, _⟩ := evS_is q6 q5 hfv
          have ul := evL_is q6 q5 hlv
          generalize hgv : ev flv' f = gv at u0
          cases u0 with
          | fn hx hc =>
           rename_i vs us
           refine ⟨flv', { target := .fn (.func gg) us.toArray, args := (vs ++ az.toList.map (ev flv')).toArray }, q4, opsOk_is q5 hoo, ?_, fun a2 hf2 => ?_⟩
           ·have harr : vs.toArray ++ az.map (ev flv') = (vs ++ List.map (ev flv') az.toList).toArray := by apply Array.ext'; simp
            simp [execOp, hop, resolve, hgv, Deferred.ofValue]
           ·exact hk .nrm ⟨fl', m', (gg, xx ++ ll ++ cc) :: s.ds, s.rg⟩ e' As' flv' _ a2 w' _ q1 q2 ⟨[_], rfl⟩ q3 ⟨hf2, q5, q6, q7, ⟨⟨_, us, rfl, (hx.app ul).app hc⟩, hr.dI.mono q3.le⟩, hr.rI⟩ rfl
         ·cases hd
        ·cases q1
     ·cases h
    | true =>
     rw [hb] at h
     simp only [zT] at h
     split at h
     ·rename_i i hy
      have hlt : i < ops.size := by
       cases hany : s.fl.any (fun p => isY p.2) with
       | false => rw [hany] at hy; cases hy
       | true =>
        rw [hany] at hy
        have := List.mem_of_find?_eq_some (show (List.range ops.size).find? _ = some i from hy)
        exact List.mem_range.1 this
      refine w_regY (ro := ro) i (by show (true && (noDefer ops && Nat.blt i ops.size)) = true; rw [hb]; simpa [Nat.blt_eq] using hlt) ?_
      refine seqX_ok (ε := noP) (R := ops) (call_ok hup hC ih hcm) (List.range i) h hr.fr hr.fl hr.mem hr.st (fun fl1 flv1 m1 e1 As1 a1 w1 q1 q2 q3 q4 q5 q6 q7 => ?_) (fun s v fl' flv' m' e' As' a' w' q1 => by cases q1)
      refine stepY_ok hup ih hcm q1 q4 q5 q6 q7 fun fl2 flv2 m2 e2 As2 a2 w2 r1 r2 r3 r4 r5 r6 r7 => ?_
      refine seqX_ok (ε := noP) (R := ops) (call_ok hup hC ih hcm) (List.range' (i + 1) (ops.size - (i + 1))) r1 r4 r5 r6 r7 (fun fl3 flv3 m3 e3 As3 a3 w3 u1 u2 u3 u4 u5 u6 u7 => ?_) (fun s v fl' flv' m' e' As' a' w' q1 => by cases q1)
      exact hk .nrm ⟨fl3, m3, s.ds, s.rg⟩ e3 As3 flv3 dv a3 w3 _ u1 (q2.trans (r2.trans u2)) .refl (q3.trans (r3.trans u3)) ⟨u4, u5, u6, u7, hr.dI.mono (q3.trans (r3.trans u3)).le, hr.rI⟩ rfl
     refine w_regP (ε := fun ch a w => Q (.panic ch) a w) (by show (true && noDefer ops) = true; rw [hb]; rfl) (fun _ _ _ h => h) ?_
     exact seqX_ok (R := ops) (call_ok hup hC ih hcm) (List.range ops.size) h hr.fr hr.fl hr.mem hr.st (fun fl' flv' m' e' As' a' w' q1 q2 q3 q4 q5 q6 q7 => hk .nrm ⟨fl', m', s.ds, s.rg⟩ e' As' flv' dv a' w' _ q1 q2 .refl q3 ⟨q4, q5, q6, q7, hr.dI.mono q3.le, hr.rI⟩ rfl)
      (fun sv v fl' flv' m' e' As' a' w' q1 q2 q3 q4 q5 q6 q7 q8 => hk (.pan sv) ⟨fl', m', s.ds, s.rg⟩ e' As' flv' dv a' w' _ q1 q2 .refl q3 ⟨q4, q5, q7, q8, hr.dI.mono q3.le, hr.rI⟩ ⟨v, rfl, q6⟩)
   | true =>
    simp only [exec] at h
    obtain ⟨f1, f2, e1, A1, g1, g2⟩ := frzV_ok (fl0 := s.fl) ((findN (SP g).fz id).getD []) hr
    generalize frzV s.fl ((findN (SP g).fz id).getD []) s = s1 at h f1 f2 g1 g2
    have hk1 : ∀ x s' e' As' flv' dv' a' w' X, k x s' = some r → FX s1.fl flv s'.fl flv' → DX dv dv' → Go1 e1 A1 s1.m e' As' s'.m → KR N L0 e' As' flv' dv' s' a' w' → XIs e' x X → Q X a' w' := fun x s' e' As' flv' dv' a' w' X q1 q2 q3 q4 q5 q6 => hk x s' e' As' flv' dv' a' w' X q1 (by rw [← f1]; exact q2) q3 (g1.trans q4) q5 q6
    clear hk hr f1 f2 g1
    revert h g2 hk1
    revert s1 e1 A1
    intro e As s h hr hk
    generalize lateOf ((SP g).wr.contains id) (SP g).pu ops = mL at h
    split at h
    ·rename_i i hy
     generalize (planY ops mL i).1 = pl at h
     generalize (planY ops mL i).2 = pl2 at h
     cases hb : drawYS (.region id ops true) i pl pl2 mL with
     | false => rw [hb] at h; cases h
     | true =>
      rw [hb] at h
      simp only [zT] at h
      have hst : St e.z (As ++ (mkA dv ++ L0)) w.drew := hr.st.drew
      refine w_regDYS (ro := ro) hP i pl pl2 mL (WM e As (mkA dv ++ L0)) hb ⟨e.z, Zone.le_refl _, hst⟩ ?_
      refine drwX_ok (ε := noP) (R := ops) (call_ok hup hC ih hcm) pl h (fun _ => rfl) (fun _ => rfl) hr.fr hr.fl hr.mem hst (fun fl1 flv1 m1 e1 As1 a1 w1 q1 q2 q3 q4 q5 q6 q7 => ?_) (fun s v fl' flv' m' e' As' a' w' q1 => by cases q1)
      refine stepY_ok hup ih hcm q1 q4 q5 q6 q7 fun fl2 flv2 m2 e2 As2 a2 w2 r1 r2 r3 r4 r5 r6 r7 => ?_
      refine drwX_ok (ε := noP) (R := ops) (call_ok hup hC ih hcm) pl2 r1 (fun hh => by cases hh) (fun hh => by cases hh) r4 r5 r6 r7 (fun fl3 flv3 m3 e3 As3 a3 w3 u1 u2 u3 u4 u5 u6 u7 => ?_) (fun s v fl' flv' m' e' As' a' w' q1 => by cases q1)
      exact hk .nrm ⟨fl3, m3, s.ds, s.rg⟩ e3 As3 flv3 dv a3 w3 _ u1 (q2.trans (r2.trans u2)) .refl (q3.trans (r3.trans u3)) ⟨u4, u5, u6, u7, hr.dI.mono (q3.trans (r3.trans u3)).le, hr.rI⟩ rfl
    generalize hkl : killOf (.region id ops true) s = kill at h
    generalize (findN (SP g).pl id).getD (planG ops mL ops.size (Array.replicate ops.size false)) = pl at h
    cases hb : (drawT (.region id ops true) pl mL && kill.all (fun t => Nat.blt t N)) with
    | false => rw [hb] at h; cases h
    | true =>
     rw [hb] at h
     simp only [zT] at h
     simp only [za, List.all_eq_true] at hb
     have hst : St e.z (As ++ (mkA dv ++ L0)) w.drew := hr.st.drew
     refine w_regDP (ε := PanR (mkA dv ++ L0) N kill s flv dv e As (fun sv m => k (.pan sv) ⟨T0fl kill s.fl, m, s.ds, s.rg⟩) r) hP pl mL (WM e As (mkA dv ++ L0)) (panR_ok hkl.symm hb.2 hr.fl) ?_ hb.1 ⟨e.z, Zone.le_refl _, hst⟩ ?_
     ·rintro ch a' w' ⟨v, sv, m', e', As', rfl, k2, k3, k4, k5, k6, g', k7⟩
      exact hk (.pan sv) ⟨T0fl kill s.fl, m', s.ds, s.rg⟩ e' As' _ dv a' w' _ k2 ⟨kill.map (fun t => (t, SV.any)), kill.map (fun t => (t, g' t)), rfl, rfl, by simp⟩ .refl k3 ⟨k7, any_is (hr.fl.mono k3.le) g', k5, k6, hr.dI.mono k3.le, hr.rI⟩ ⟨v, rfl, k4⟩
     ·refine drwX_ok (R := ops) (call_ok hup hC ih hcm) pl h (fun _ => rfl) (fun _ => rfl) hr.fr hr.fl hr.mem hst (fun fl' flv' m' e' As' a' w' q1 q2 q3 q4 q5 q6 q7 => hk .nrm ⟨fl', m', s.ds, s.rg⟩ e' As' flv' dv a' w' _ q1 q2 .refl q3 ⟨q4, q5, q6, q7, hr.dI.mono q3.le, hr.rI⟩ rfl) ?_
      intro sv v fl' flv' m' e' As' a' w' q1 q2 q3 q4 q5 q6 q7 q8
      unfold kpD at q1
      cases hbb : ((fl'.take (fl'.length - s.fl.length)).all (fun p => !(keysS s.fl).contains p.1 || kill.contains p.1) && kill.all (fun t => (keysS s.fl).contains t)) with
      | false => rw [hbb] at q1; cases q1
      | true =>
       rw [hbb] at q1
       simp only [zT] at q1
       simp only [za, List.all_eq_true] at hbb
       exact ⟨v, sv, m', e', As', rfl, q1, q3, q6, q7, q8, _, fr_kill q4 hr.fl q5 q2 hb.2 hbb.1⟩
  | rangeFunc x ps A B =>
   cases x with
   | tmp t =>
    simp only [exec] at h
    cases top with
    | false => cases h
    | true =>
     simp only [zT] at h
     cases hro rfl
     split at h
     ·rename_i gf caps hlk
      cases hok : callOK P gf with
      | false => rw [hok] at h; cases h
      | true =>
       rw [hok] at h
       simp only [zT] at h
       obtain ⟨v, hv, hvi⟩ := hr.fl.look hlk
       cases hvi with
       | fn hx hcaps =>
        rename_i vs us
        cases hx
        refine w_rangeP (c := .rangeFunc (.tmp t) ps A B) (g := t) (gf := gf) (lb := us.toArray) rfl hr.fr hr.st hv (fun l => ?_) fun ps' A' B' e1 e2 e3 l D w' hst => ?_
        ·have := invoke_runY (P := P) (cs := us) (l := l) hok
         exact this
        ·subst e1 e2 e3
         have hn := hr.mem.lb
         have hm2 : Mem ((e.push ⟨D, none, 0, 0⟩).push ⟨l, none, 0, 0⟩) (.loop g N s.fl ps' A' B' .ready :: .defm :: s.m.σ) (loopA l N flv ps' A' B' D .ready none :: defA D :: As) :=
          (hr.mem.push (i := ⟨D, none, 0, 0⟩) (B := .defm) .defm).push (i := ⟨l, none, 0, 0⟩) (B := .loop g N s.fl ps' A' B' .ready) (.loop (st := .ready) ((hr.fl.mono (e.le_push _)).mono (KE.le_push _ _)))
         have hle2 : e.le ((e.push ⟨D, none, 0, 0⟩).push ⟨l, none, 0, 0⟩) := (e.le_push _).trans (KE.le_push _ _)
         have hatL : at' ((e.push ⟨D, none, 0, 0⟩).push ⟨l, none, 0, 0⟩).bs (s.m.σ.length + 1) = some ⟨l, none, 0, 0⟩ := by
          rw [hn]; exact at_new (l := (⟨D, none, 0, 0⟩ :: e.bs))
         have hatD : at' ((e.push ⟨D, none, 0, 0⟩).push ⟨l, none, 0, 0⟩).bs s.m.σ.length = some ⟨D, none, 0, 0⟩ := by
          rw [hn]; exact at_cons at_new
         obtain ⟨pv, hpv⟩ := ptrsF_is (hr.fl.mono hle2)
         have hargs : IsL ((e.push ⟨D, none, 0, 0⟩).push ⟨l, none, 0, 0⟩) (.yld (s.m.σ.length + 1) (ptrsF s.fl) :: caps) (.func (.yield l) #[] #[] :: us) := .cons (.yld (i := ⟨l, none, 0, 0⟩) hatL hpv) (hcaps.mono hle2)
         have hst2 : St ((e.push ⟨D, none, 0, 0⟩).push ⟨l, none, 0, 0⟩).z ((loopA l N flv ps' A' B' D .ready none :: defA D :: As) ++ (mkA dv ++ L0)) w' := hst
         have hcall := call_ok hup hC ih hcm h hm2 hst2 hargs
         have harr : (#[Value.func (.yield l) #[] #[]] ++ us.toArray) = (Value.func (.yield l) #[] #[] :: us).toArray := by simp
         rw [harr]
         refine Calls.mono hcall ?_
         rintro en w2 ⟨c, m', e', As', k1, k2, k3, k4, k5⟩
         cases c with
         | pan sv =>
          obtain ⟨rv, rfl, hrv⟩ := k2
          show ∀ a', Fr a' N flv (Sx.mark D :: dv) → Q (.panic (pch rv)) a' w2
          intro a' hfa
          simp only at k1
          split at k1
          ·rename_i g1 N1 fl1 ps1 A1 B1 st hB1 hB2
           obtain ⟨i1, X1, p1, p2, p3⟩ := k4.get hB1
           obtain ⟨i2, X2, o1, o2, o3⟩ := k4.get hB2
           have := k3.le.at hatL
           rw [p1] at this; cases this
           have := k3.le.at hatD
           rw [o1] at this; cases this
           cases p3 with
           | loop hfl1 =>
            cases o3 with
            | defm =>
             rename_i flv1 D1
             have hle := hle2.trans k3.le
             have hidL := at_lt p2
             have hidD := at_lt o2
             -- the record goes, then the mark's block is set aside
             have hfin : ∀ {w4 : World}, St e'.z (setAt As' (s.m.σ.length + 1) emp ++ (mkA dv ++ L0)) w4 → St e'.z (setAt (setAt As' (s.m.σ.length + 1) emp) s.m.σ.length emp ++ (mkA (Sx.mark D :: dv) ++ L0)) w4 := fun {w4} hs => by
              have o2' : at' (setAt As' (s.m.σ.length + 1) emp) s.m.σ.length = some (defA D) := by rw [at_set_ne hidL (by omega)]; exact o2
              exact st_take hs o2'
             have hext : ExtM s.m ⟨setAt (setAt m'.σ (s.m.σ.length + 1) .gone) s.m.σ.length .gone, (s.m.σ.length, 0) :: (s.m.σ.length + 1, 0) :: m'.lg⟩ := by
              have x1 : ExtM s.m ⟨.loop g N s.fl ps' A' B' .ready :: .defm :: s.m.σ, s.m.lg⟩ := (ExtM.push s.m .defm).trans (ExtM.push _ _)
              have x2 : ExtM m' ⟨setAt m'.σ (s.m.σ.length + 1) .gone, (s.m.σ.length + 1, 0) :: m'.lg⟩ := ExtM.set hB1 fun _ _ e => by cases e
              have x3 : ExtM ⟨setAt m'.σ (s.m.σ.length + 1) .gone, (s.m.σ.length + 1, 0) :: m'.lg⟩ ⟨setAt (setAt m'.σ (s.m.σ.length + 1) .gone) s.m.σ.length .gone, (s.m.σ.length, 0) :: (s.m.σ.length + 1, 0) :: m'.lg⟩ := ExtM.set (B := .defm) (by
               show at' (setAt m'.σ _ _) _ = _
               rw [at_set_ne (at_lt hB1) (by omega)]; exact hB2) fun _ _ e => by cases e
              exact x1.trans (k3.ext.trans (x2.trans x3))
             have hgo : Go1 e As s.m e' (setAt (setAt As' (s.m.σ.length + 1) emp) s.m.σ.length emp) ⟨setAt (setAt m'.σ (s.m.σ.length + 1) .gone) s.m.σ.length .gone, (s.m.σ.length, 0) :: (s.m.σ.length + 1, 0) :: m'.lg⟩ := ⟨hle, hext, fun hh => by
              have := k3.ext.lgle
              simp at hh this
              omega⟩
             have hmem : Mem e' (setAt (setAt m'.σ (s.m.σ.length + 1) .gone) s.m.σ.length .gone) (setAt (setAt As' (s.m.σ.length + 1) emp) s.m.σ.length emp) := (k4.set p1 .gone).set o1 .gone
             have hj : (As' ++ (mkA dv ++ L0))[As'.length - 1 - (s.m.σ.length + 1)]? = some (loopA l N1 flv1 ps1 A1 B1 D1 st.st st.pe) := Mem.atom p2
             have hfr : Fr a' N flv (Sx.mark D :: dv) := hfa
             have hdI : DsIs e' s.ds (noMk (Sx.mark D :: dv)) := by
              have : noMk (Sx.mark D :: dv) = noMk dv := by simp [noMk, mkD]
              rw [this]; exact hr.dI.mono hle
             have hkr : ∀ {w4 : World}, St e'.z (setAt As' (s.m.σ.length + 1) emp ++ (mkA dv ++ L0)) w4 → KR N L0 e' (setAt (setAt As' (s.m.σ.length + 1) emp) s.m.σ.length emp) flv (Sx.mark D :: dv) ⟨s.fl, ⟨setAt (setAt m'.σ (s.m.σ.length + 1) .gone) s.m.σ.length .gone, (s.m.σ.length, 0) :: (s.m.σ.length + 1, 0) :: m'.lg⟩, s.ds, true⟩ a' w4 := fun {w4} hs =>
              ⟨hfr, hr.fl.mono hle, hmem, hfin hs, hdI, fun hh => by cases hh⟩
             have hs4 := St.dropAt k5 hj
             rw [setAt_app hidL] at hs4
             exact hk (.pan sv) _ e' _ flv _ a' w2 _ k1 .refl ⟨[_], rfl⟩ hgo (hkr hs4) ⟨rv, rfl, hrv⟩
          ·cases k1
         | val sv =>
          obtain ⟨rv, rfl, _⟩ := k2
          show ∀ a', Fr a' N flv (Sx.mark D :: dv) → endR P l Q a' w2
          intro a' hfa
          simp only at k1
          split at k1
          ·rename_i g1 N1 fl1 ps1 A1 B1 st hB1 hB2
           obtain ⟨i1, X1, p1, p2, p3⟩ := k4.get hB1
           obtain ⟨i2, X2, o1, o2, o3⟩ := k4.get hB2
           have := k3.le.at hatL
           rw [p1] at this; cases this
           have := k3.le.at hatD
           rw [o1] at this; cases this
           cases p3 with
           | loop hfl1 =>
            cases o3 with
            | defm =>
             rename_i flv1 D1
             have hle := hle2.trans k3.le
             have hidL := at_lt p2
             have hidD := at_lt o2
             -- the record goes, then the mark's block is set aside
             have hfin : ∀ {w4 : World}, St e'.z (setAt As' (s.m.σ.length + 1) emp ++ (mkA dv ++ L0)) w4 → St e'.z (setAt (setAt As' (s.m.σ.length + 1) emp) s.m.σ.length emp ++ (mkA (Sx.mark D :: dv) ++ L0)) w4 := fun {w4} hs => by
              have o2' : at' (setAt As' (s.m.σ.length + 1) emp) s.m.σ.length = some (defA D) := by rw [at_set_ne hidL (by omega)]; exact o2
              exact st_take hs o2'
             have hext : ExtM s.m ⟨setAt (setAt m'.σ (s.m.σ.length + 1) .gone) s.m.σ.length .gone, (s.m.σ.length, 0) :: (s.m.σ.length + 1, 0) :: m'.lg⟩ := by
              have x1 : ExtM s.m ⟨.loop g N s.fl ps' A' B' .ready :: .defm :: s.m.σ, s.m.lg⟩ := (ExtM.push s.m .defm).trans (ExtM.push _ _)
              have x2 : ExtM m' ⟨setAt m'.σ (s.m.σ.length + 1) .gone, (s.m.σ.length + 1, 0) :: m'.lg⟩ := ExtM.set hB1 fun _ _ e => by cases e
              have x3 : ExtM ⟨setAt m'.σ (s.m.σ.length + 1) .gone, (s.m.σ.length + 1, 0) :: m'.lg⟩ ⟨setAt (setAt m'.σ (s.m.σ.length + 1) .gone) s.m.σ.length .gone, (s.m.σ.length, 0) :: (s.m.σ.length + 1, 0) :: m'.lg⟩ := ExtM.set (B := .defm) (by
               show at' (setAt m'.σ _ _) _ = _
               rw [at_set_ne (at_lt hB1) (by omega)]; exact hB2) fun _ _ e => by cases e
              exact x1.trans (k3.ext.trans (x2.trans x3))
             have hgo : Go1 e As s.m e' (setAt (setAt As' (s.m.σ.length + 1) emp) s.m.σ.length emp) ⟨setAt (setAt m'.σ (s.m.σ.length + 1) .gone) s.m.σ.length .gone, (s.m.σ.length, 0) :: (s.m.σ.length + 1, 0) :: m'.lg⟩ := ⟨hle, hext, fun hh => by
              have := k3.ext.lgle
              simp at hh this
              omega⟩
             have hmem : Mem e' (setAt (setAt m'.σ (s.m.σ.length + 1) .gone) s.m.σ.length .gone) (setAt (setAt As' (s.m.σ.length + 1) emp) s.m.σ.length emp) := (k4.set p1 .gone).set o1 .gone
             have hj : (As' ++ (mkA dv ++ L0))[As'.length - 1 - (s.m.σ.length + 1)]? = some (loopA l N1 flv1 ps1 A1 B1 D1 st.st st.pe) := Mem.atom p2
             have hfr : Fr a' N flv (Sx.mark D :: dv) := hfa
             have hdI : DsIs e' s.ds (noMk (Sx.mark D :: dv)) := by
              have : noMk (Sx.mark D :: dv) = noMk dv := by simp [noMk, mkD]
              rw [this]; exact hr.dI.mono hle
             have hkr : ∀ {w4 : World}, St e'.z (setAt As' (s.m.σ.length + 1) emp ++ (mkA dv ++ L0)) w4 → KR N L0 e' (setAt (setAt As' (s.m.σ.length + 1) emp) s.m.σ.length emp) flv (Sx.mark D :: dv) ⟨s.fl, ⟨setAt (setAt m'.σ (s.m.σ.length + 1) .gone) s.m.σ.length .gone, (s.m.σ.length, 0) :: (s.m.σ.length + 1, 0) :: m'.lg⟩, s.ds, true⟩ a' w4 := fun {w4} hs =>
              ⟨hfr, hr.fl.mono hle, hmem, hfin hs, hdI, fun hh => by cases hh⟩
             cases st with
             | ready =>
              refine p_jump0 k5 hj (by simp [LS.st]) fun w4 hs => ?_
              rw [setAt_app hidL] at hs
              exact hk .nrm _ e' _ flv _ a' w4 _ k1 .refl ⟨[_], rfl⟩ hgo (hkr hs) rfl
             | busy => cases k1
             | done j =>
              cases j with
              | none =>
               refine p_jumpR k5 hj (by simp [LS.st]) fun w4 hs => ?_
               rw [setAt_app hidL] at hs
               exact hk .ret _ e' _ flv _ a' w4 _ k1 .refl ⟨[_], rfl⟩ hgo (hkr hs) rfl
              | some q =>
               refine p_jumpX k5 hj (by simp [LS.st]) fun w4 hs => ?_
               rw [setAt_app hidL] at hs
               exact hk (.ext q) _ e' _ flv _ a' w4 _ k1 .refl ⟨[_], rfl⟩ hgo (hkr hs) rfl
          ·cases k1
     ·cases h
   | _ => simp [exec] at h
  | _ => simp [exec] at h
end Go.K
namespace Go.K
open Go.Sl Go.Sx Go.Proofs
theorem w64_id {n : Int} (h1 : -9223372036854775808 ≤ n) (h2 : n ≤ 9223372036854775807) : w64 n = n := by
 unfold w64 IntKind.wrap
 simp [IntKind.bits, IntKind.signed]
 omega
theorem getI_nat {α : Type} {xs : List α} {i : Nat} {x : α} (h : xs[i]? = some x) : getI xs (i : Int) = some x := by simp [getI, h]
theorem byteAt_nat {s : ByteArray} {i : Nat} {b : UInt8} (h : s.data.toList[i]? = some b) : byteAt s (i : Int) = some ((b.toNat : Nat) : Int) := by
 unfold byteAt
 rw [if_pos (by omega)]
 have : s[(i : Int).toNat]? = some b := by
  show s[i]? = some b
  have hlt : i < s.data.size := by
   have := (List.getElem?_eq_some_iff.1 h).1
   simpa using this
  rw [getElem?_pos s i hlt]
  have h2 := (List.getElem?_eq_some_iff.1 h).2
  rw [← h2]; simp; rfl
 rw [this]; rfl
theorem size_len (s : ByteArray) : s.size = s.data.toList.length := by simp
theorem eqL' (s : ByteArray) (l : List UInt8) : (ByteArray.toList s == l) = decide (s.data.toList = l) := by
 rw [Lib.toList_data]
 by_cases h : s.data.toList = l <;> simp [h]
theorem ofL_data (l : List UInt8) : (⟨l.toArray⟩ : ByteArray).data.toList = l := by simp
theorem app_data (s t : ByteArray) : (s ++ t).data.toList = s.data.toList ++ t.data.toList := by
 simp [ByteArray.data_append]
theorem ext_data {s t : ByteArray} (h : s.data.toList = t.data.toList) : s = t := by
 obtain ⟨⟨a⟩⟩ := s; obtain ⟨⟨b⟩⟩ := t
 simp at h; rw [h]
theorem catC_of {s t : ByteArray} (h : s.size + t.size ≤ 9223372036854775807) : catC s t = some () := by unfold catC; rw [if_pos h]
theorem appC_of {α : Type} [b : Inhabited (Byt α)] {xs ys : List α} (h : xs.length + ys.length ≤ 1099511627776) (hb : b.default.n ≤ 128 := by decide) : appC xs ys = some (xs ++ ys) := by
 unfold appC; rw [if_pos]
 have := Nat.mul_le_mul h hb
 omega
theorem lenC_of {α : Type} (xs : List α) : lenC (xs.length : Int) xs = some () := by unfold lenC; rw [if_pos rfl]
theorem strI_go : ∀ (l : List Int) (acc : ByteArray), (l.foldl (fun r n => r.push (UInt8.ofNat n.toNat)) acc).data.toList = acc.data.toList ++ l.map fun n => UInt8.ofNat n.toNat
 | [], acc => by simp
 | x :: l, acc => by
  rw [List.foldl_cons, strI_go l]
  simp [ByteArray.push]
theorem strI_data (l : List Int) : (strI l).data.toList = l.map fun n => UInt8.ofNat n.toNat := by
 unfold strI; rw [strI_go]; simp
def foldS {σ A ρ : Type} (step : σ → Nat → A → A ⊕ ρ) : List σ → Nat → A → A ⊕ ρ
 | [], _, a => .inl a
 | x :: r, i, a => match step x i a with
  | .inl a' => foldS step r (i + 1) a'
  | .inr e => .inr e
theorem foldS_app {σ A ρ : Type} (step : σ → Nat → A → A ⊕ ρ) : ∀ (l m : List σ) (i : Nat) (a : A), foldS step (l ++ m) i a = match foldS step l i a with | .inl a' => foldS step m (i + l.length) a' | .inr e => .inr e
 | [], m, i, a => by simp [foldS]
 | x :: l, m, i, a => by
  simp only [List.cons_append, foldS]
  cases step x i a with
  | inl a' => simp only; rw [foldS_app step l m (i + 1) a', show i + 1 + l.length = i + (x :: l).length by simp; omega]
  | inr e => rfl
end Go.K
namespace Go.K
open Go.Sl Go.Sx
variable {e e' e0 : KE} {σ σ' : List Blk} {As L0 L : List Atom} {P : Program} {w : World} {h h' z : Zone}
theorem own_slice {α : Type} {T : Ty α} {E : TypeId} {o : Option Addr} {cap : Nat} {xs : List α} {x : Hp} (hx : OwnP T E o cap xs h' x) (hxb : x.le h'.blk) : SliceR T h' o cap xs := by
 rcases hx with ⟨rfl, rfl, rfl, rfl⟩ | ⟨g, cur, rfl, rfl, h1, h2, h3, h4⟩
 ·exact SliceR.nil' T h'
 ·refine ⟨h1, h2, fun e => (by cases e), fun a e i y hy => ?_⟩
  cases e
  obtain ⟨c, hc, hg⟩ := h4.get hy
  refine ⟨c, hc, fun k v hk => ?_⟩
  have hblk : h'.blk g = some (.cells cur E (0, 0)) := Hp.one_le.1 hxb
  have := hg k v hk
  rw [List.getElem?_take] at this
  split at this
  ·rw [add_add]
   have hadd : (⟨g, 0, none⟩ : Addr).add (i * T.size + k) = ⟨g, i * T.size + k, none⟩ := by unfold Addr.add; split <;> simp_all
   rw [hadd]
   simpa [Zone.cell?, hblk] using this
  ·cases this
theorem lendAll (s : St h L w) : ∃ h1, h.le h1 ∧ St h1 [] w ∧ (∀ {i : Nat} {A : Atom}, L[i]? = some A → ∃ x, A.P h1 x ∧ x.le h1.blk) ∧
  ∀ {h2 : Zone} {w' : World}, h1.le h2 → St h2 [] w' → ∃ h3, h.le h3 ∧ St h3 L w' := by
 obtain ⟨z, hz, hd, hb, hzw⟩ := s.sep
 let h1 : Zone := ⟨h.blk.add z, h.os, h.tape, h.output⟩
 have hle : h.le h1 := ⟨Hp.le_add_left _ _, rfl, rfl, rfl⟩
 refine ⟨h1, hle, ⟨⟨Hp.nil, rfl, Hp.apart_nil _, Hp.add_le hb hzw, Hp.nil_le _⟩, s.os, s.tape, s.output⟩, fun {i A} hi => ?_, fun {h2 w'} hle2 s2 => ?_⟩
 ·obtain ⟨x, y, hx, dxy, e, _⟩ := hz.focus hi
  refine ⟨x, A.mono _ _ _ hle hx, ?_⟩
  subst e
  exact Hp.le_trans (Hp.le_add_left _ _) (Hp.le_add_right hd)
 ·obtain ⟨z2, _, _, hb2, _⟩ := s2.sep
  let h3 : Zone := ⟨fun b => if (z b).isSome then none else h2.blk b, h2.os, h2.tape, h2.output⟩
  have hle3 : h.le h3 := by
   refine ⟨fun b o ho => ?_, hle2.os.trans hle.os, hle2.tape.trans hle.tape, hle2.output.trans hle.output⟩
   have hzb : z b = none := by
    rcases hd b with h' | h'
    ·rw [ho] at h'; cases h'
    ·exact h'
   show (if (z b).isSome then none else h2.blk b) = some o
   rw [hzb]
   exact hle2.blk _ _ (hle.blk _ _ ho)
  refine ⟨h3, hle3, ⟨⟨z, hz.mono hle3, fun b => ?_, fun b o ho => ?_, fun b o ho => ?_⟩, s2.os, s2.tape, s2.output⟩⟩
  ·cases hzb : z b with
   | none => exact .inr rfl
   | some o =>
    refine .inl ?_
    show (if (z b).isSome then none else h2.blk b) = none
    simp [hzb]
  ·have ho' : (if (z b).isSome then none else h2.blk b) = some o := ho
   split at ho'
   ·cases ho'
   ·exact hb2 _ _ ho'
  ·exact hb2 _ _ (hle2.blk _ _ (Hp.le_add_right hd _ _ ho))
def lndC (σ : List Blk) : SV → SV
 | .own id => match at' σ id with
  | some (.own t _ xs) => .sl t xs
  | some (.fz t xs) => .sl t xs
  | _ => .own id
 | .mp id => match at' σ id with
  | some (.map es) => .mpc es
  | some (.fzm es) => .mpc es
  | _ => .mp id
 | s => s
def lndS (σ : List Blk) : SV → SV
 | .agg cs => .agg (cs.map (lndC σ))
 | s => lndC σ s
theorem lndC_is {h1 : Zone} (m : Mem e σ As) (hle : e.z.le h1) (hA : ∀ {i : Nat} {A : Atom}, (As ++ L0)[i]? = some A → ∃ x, A.P h1 x ∧ x.le h1.blk) {s : SV} {v : Value} (k : Is e s v) : Is ⟨h1, e.bs⟩ (lndC σ s) v := by
 have hke : e.le ⟨h1, e.bs⟩ := ⟨hle, [], rfl⟩
 unfold lndC
 split
 ·rename_i id
  split
  ·rename_i t E xs hB
   obtain ⟨i, m1, m2, m3⟩ := m.len hB
   cases k with
   | own hi =>
    rw [hi] at m1; cases m1
    obtain ⟨x, hx, hxb⟩ := hA (Mem.atom (L0 := L0) m3)
    rw [← m2]
    exact .sl (own_slice hx hxb)
  ·rename_i t xs hB
   obtain ⟨i, A, m1, m2, m3⟩ := m.get hB
   cases k with
   | own hi =>
    rw [hi] at m1; cases m1
    cases m3 with
    | fz hn hs => rw [← hn]; exact .sl (hs.mono hle)
  ·exact k.mono hke
 ·rename_i id
  split
  ·rename_i es hB
   obtain ⟨i, A, m1, m2, m3⟩ := m.get hB
   cases k with
   | mp hi =>
    rw [hi] at m1; cases m1
    cases m3 with
    | map =>
     obtain ⟨x, hx, hxb⟩ := hA (Mem.atom (L0 := L0) m2)
     have hx' : x = Hp.one i.b (cobj es) := hx
     subst hx'
     exact .mpc (Hp.one_le.1 hxb)
  ·rename_i es hB
   obtain ⟨i, A, m1, m2, m3⟩ := m.get hB
   cases k with
   | mp hi =>
    rw [hi] at m1; cases m1
    cases m3 with
    | fzm hb => exact .mpc (hle.blk _ _ hb)
  ·exact k.mono hke
 ·exact k.mono hke
theorem lndCs_is {h1 : Zone} (m : Mem e σ As) (hle : e.z.le h1) (hA : ∀ {i : Nat} {A : Atom}, (As ++ L0)[i]? = some A → ∃ x, A.P h1 x ∧ x.le h1.blk) : ∀ {l : List SV} {vs : List Value}, IsL e l vs → IsL ⟨h1, e.bs⟩ (l.map (lndC σ)) vs
 | _, _, .nil => .nil
 | _, _, .cons a b => .cons (lndC_is m hle hA a) (lndCs_is m hle hA b)
theorem lndS_is {h1 : Zone} (m : Mem e σ As) (hle : e.z.le h1) (hA : ∀ {i : Nat} {A : Atom}, (As ++ L0)[i]? = some A → ∃ x, A.P h1 x ∧ x.le h1.blk) {s : SV} {v : Value} (k : Is e s v) : Is ⟨h1, e.bs⟩ (lndS σ s) v := by
 unfold lndS
 split
 ·cases k with
  | agg hl => exact .agg (lndCs_is m hle hA hl)
 ·exact lndC_is m hle hA k
theorem lndL_is {h1 : Zone} (m : Mem e σ As) (hle : e.z.le h1) (hA : ∀ {i : Nat} {A : Atom}, (As ++ L0)[i]? = some A → ∃ x, A.P h1 x ∧ x.le h1.blk) : ∀ {l : List SV} {vs : List Value}, IsL e l vs → IsL ⟨h1, e.bs⟩ (l.map (lndS σ)) vs
 | _, _, .nil => .nil
 | _, _, .cons a b => .cons (lndS_is m hle hA a) (lndL_is m hle hA b)
theorem flat_any {z z2 : Zone} : ∀ {t : TC} {x : t.den} {cs : List Value}, t.flat = true → t.ty.rep z cs x → t.ty.rep z2 cs x
 | .int _, _, _, _, k => k
 | .bool, _, _, _, k => k
 | .str, _, _, _, k => k
 | .unit, _, _, _, k => k
 | .pair a b, x, cs, hf, ⟨c, d, e1, hc, hd⟩ => by
  simp only [TC.flat, za] at hf
  exact ⟨c, d, e1, flat_any hf.1 hc, flat_any hf.2 hd⟩
end Go.K
namespace Go.K
open Go.Sl Go.Sx
variable {e e' e0 : KE} {σ σ' : List Blk} {As As0 L0 L A' : List Atom} {P : Program} {w : World} {N : Nat} {ρ : Type} {z : Zone}
abbrev AT := Bool × TC
abbrev tt : List AT → Type
 | [] => Unit
 | [u] => u.2.den
 | u :: v :: l => u.2.den × tt (v :: l)
def fromA (u : AT) (x : u.2.den) : SV := bif u.1 then .agg (u.2.exp x) else (u.2.exp x).headD .any
def toA (u : AT) (s : SV) : Option u.2.den := match (bif u.1 then (match s with | .agg cs => some cs | _ => none) else some [s]) with
 | some l => match u.2.ofL l with
  | some (x, []) => some x
  | _ => none
 | none => none
def repA (z : Zone) (u : AT) (v : Value) (x : u.2.den) : Prop := (u.1 = true ∧ ∃ cs, v = .agg cs.toArray ∧ u.2.ty.rep z cs x) ∨ (u.1 = false ∧ u.2.ty.rep z [v] x)
theorem fromA_is {u : AT} {v : Value} {x : u.2.den} (h : repA e.z u v x) : Is e (fromA u x) v := by
 unfold fromA
 rcases h with ⟨h1, cs, rfl, h2⟩ | ⟨h1, h2⟩
 ·rw [h1]; exact .agg (exp_is u.2 h2)
 ·rw [h1]
  have := exp_is (e := e) u.2 h2
  revert this
  generalize u.2.exp x = l
  intro this
  cases this with
  | cons a b => exact a
theorem toA_rep {u : AT} {v : Value} {s : SV} {x : u.2.den} (h : toA u s = some x) (k : Is e s v) : repA e.z u v x := by
 obtain ⟨g, u⟩ := u
 unfold toA at h
 cases g with
 | true =>
  simp only [zT] at h
  cases k with
  | agg hl =>
   simp only at h
   split at h
   ·rename_i y hy
    cases h
    obtain ⟨v1, v2, q1, q2, q3⟩ := ofL_is u hy hl
    cases q3
    rw [List.append_nil] at q1
    subst q1
    exact .inl ⟨rfl, _, rfl, q2⟩
   ·cases h
  | _ => cases h
 | false =>
  simp only [zF] at h
  split at h
  ·rename_i y hy
   cases h
   obtain ⟨v1, v2, q1, q2, q3⟩ := ofL_is u hy (.cons k .nil)
   cases q3
   rw [List.append_nil] at q1
   subst q1
   exact .inr ⟨rfl, q2⟩
  ·cases h
def fromAs : (l : List AT) → tt l → List SV
 | [], _ => []
 | [u], x => [fromA u x]
 | u :: v :: l, x => fromA u x.1 :: fromAs (v :: l) x.2
def toAs : (l : List AT) → List SV → Option (tt l)
 | [], [] => some ()
 | [u], [s] => toA u s
 | u :: v :: l, s :: r => match toA u s, toAs (v :: l) r with
  | some x, some y => some (x, y)
  | _, _ => none
 | _, _ => none
def repAs (z : Zone) : (l : List AT) → List Value → tt l → Prop
 | [], vs, _ => vs = []
 | [u], vs, x => ∃ v, vs = [v] ∧ repA z u v x
 | u :: v :: l, vs, x => ∃ a r, vs = a :: r ∧ repA z u a x.1 ∧ repAs z (v :: l) r x.2
theorem fromAs_is : ∀ {l : List AT} {vs : List Value} {x : tt l}, repAs e.z l vs x → IsL e (fromAs l x) vs
 | [], vs, x, h => by cases h; exact .nil
 | [u], vs, x, ⟨v, h1, h2⟩ => by subst h1; exact .cons (fromA_is h2) .nil
 | u :: v :: l, vs, x, ⟨a, r, h1, h2, h3⟩ => by subst h1; exact .cons (fromA_is h2) (fromAs_is (l := v :: l) h3)
theorem toAs_rep : ∀ {l : List AT} {s : List SV} {vs : List Value} {x : tt l}, toAs l s = some x → IsL e s vs → repAs e.z l vs x
 | [], [], vs, x, h, k => by cases k; rfl
 | [u], [s], vs, x, h, k => by
  cases k with
  | cons a b => cases b; exact ⟨_, rfl, toA_rep h a⟩
 | u :: v :: l, s :: r, vs, x, h, k => by
  simp only [toAs] at h
  split at h
  ·rename_i y1 y2 h1 h2
   cases h
   cases k with
   | cons a b => exact ⟨_, _, rfl, toA_rep h1 a, toAs_rep (l := v :: l) h2 b⟩
  ·cases h
 | [], _ :: _, _, _, h, _ => by cases h
 | [u], [], _, _, h, _ => by cases h
 | [u], _ :: _ :: _, _, _, h, _ => by cases h
 | u :: v :: l, [], _, _, h, _ => by cases h
def fromR (l : List AT) (x : tt l) : SV := resT (fromAs l x)
def toR (l : List AT) (s : SV) : Option (tt l) := match l, s with
 | [u], s => toA u s
 | l, .tup r => toAs l r
 | _, _ => none
def repR (z : Zone) (l : List AT) (v : Value) (x : tt l) : Prop := ∃ vs, v = resV vs ∧ repAs z l vs x
theorem fromR_is {l : List AT} {v : Value} {x : tt l} (h : repR e.z l v x) : Is e (fromR l x) v := by
 obtain ⟨vs, rfl, h⟩ := h
 exact resT_is (fromAs_is h)
theorem toAs_nil (u : AT) (l : List AT) : toAs (u :: l) [] = none := by cases l <;> rfl
theorem toR_rep : ∀ {l : List AT} {s : SV} {v : Value} {x : tt l}, toR l s = some x → Is e s v → repR e.z l v x
 | [u], s, v, x, h, k => ⟨[v], rfl, v, rfl, toA_rep h k⟩
 | [], s, v, x, h, k => by
  cases k with
  | tup hl =>
   cases hl with
   | nil => exact ⟨[], rfl, rfl⟩
   | cons => cases h
  | _ => cases h
 | u :: u' :: l, s, v, x, h, k => by
  cases k with
  | tup hl =>
   rename_i r vs
   refine ⟨vs, ?_, toAs_rep (l := u :: u' :: l) h hl⟩
   cases hl with
   | nil => cases h
   | cons a b =>
    cases b with
    | nil =>
     simp only [toR, toAs, toAs_nil] at h
     split at h
     ·rename_i h2; cases h2
     ·cases h
    | cons c d => rfl
  | _ => cases h
def cellsL (l : List SV) : List SV := l.flatMap fun s => (svC s).getD []
def cellsT : SV → List SV
 | .tup l => cellsL l
 | s => cellsL [s]
structure Env where
 P : Zone → Prop
 mono : ∀ {z z' : Zone}, z.le z' → P z → P z'
def envA (E : Env) : Atom := ⟨fun z x => E.P z ∧ x = Hp.nil, fun _ _ _ k h => ⟨E.mono k h.1, h.2⟩⟩
theorem envA_in {E : Env} (h : E.P z) (s : St z L w) : St z (envA E :: L) w := by
 obtain ⟨x, hx, hd, hb, hw⟩ := s.sep
 exact ⟨⟨x, ⟨Hp.nil, x, ⟨h, rfl⟩, hx, Hp.apart_comm (Hp.apart_nil _), rfl⟩, hd, hb, hw⟩, s.os, s.tape, s.output⟩
theorem envA_mem {E : Env} (s : St z L w) (h : envA E ∈ L) : E.P z := by
 obtain ⟨i, hi⟩ := List.getElem?_of_mem h
 obtain ⟨x, hx, _⟩ := s.focus hi
 exact hx.1
def Valid (E : Env) (P : Program) (g : FuncId) (az rs : List AT) (F : tt az → Option (tt rs)) : Prop := ∀ {x : tt az} {y : tt rs}, F x = some y → ∀ {z : Zone} {L : List Atom} {w : World} {vs : List Value}, E.P z → repAs z az vs x → St z L w →
 Calls P g vs.toArray w fun en w' => ∃ v z', en = .returned v ∧ z.le z' ∧ repR z' rs v y ∧ St z' L w'
def flatR (rs : List AT) : Bool := rs.all fun u => u.2.flat
theorem flat_repA {z z2 : Zone} {u : AT} {v : Value} {x : u.2.den} (hf : u.2.flat = true) (h : repA z u v x) : repA z2 u v x := by
 rcases h with ⟨h1, cs, rfl, h2⟩ | ⟨h1, h2⟩
 ·exact .inl ⟨h1, cs, rfl, flat_any hf h2⟩
 ·exact .inr ⟨h1, flat_any hf h2⟩
theorem flat_repAs {z z2 : Zone} : ∀ {l : List AT} {vs : List Value} {x : tt l}, flatR l = true → repAs z l vs x → repAs z2 l vs x
 | [], _, _, _, h => h
 | [u], _, _, hf, ⟨v, h1, h2⟩ => ⟨v, h1, flat_repA (by simpa [flatR] using hf) h2⟩
 | u :: u' :: l, _, _, hf, ⟨a, r, h1, h2, h3⟩ => by
  simp only [flatR, List.all_cons, za] at hf
  exact ⟨a, r, h1, flat_repA hf.1 h2, flat_repAs (l := u' :: l) (by simpa [flatR] using hf.2) h3⟩
theorem flat_repR {z z2 : Zone} {l : List AT} {v : Value} {x : tt l} (hf : flatR l = true) (h : repR z l v x) : repR z2 l v x := by
 obtain ⟨vs, rfl, h⟩ := h
 exact ⟨vs, rfl, flat_repAs hf h⟩
def dataCon (az rs : List AT) (F : tt az → Option (tt rs)) : Con where
 run := fun args m k => bif flatR rs then (match toAs az (args.map (lndS m.σ)) with
  | some x => (F x).bind fun y => k (.val (fromR rs y)) m
  | none => none) else
  let m1 := frzL m (cellsL args)
  match toAs az (args.map (res m1.σ)) with
  | some x => (F x).bind fun y => k (.val (fromR rs y)) m1
  | none => none
theorem resAll_is (m : Mem e σ As) : ∀ {l : List SV} {vs : List Value}, IsL e l vs → IsL e (l.map (res σ)) vs
 | _, _, .nil => .nil
 | _, _, .cons h t => .cons (res_is m h) (resAll_is m t)
variable {E : Env}
theorem dataCon_ok {g : FuncId} {az rs : List AT} {F : tt az → Option (tt rs)} (h : Valid E P g az rs F) {L0 : List Atom} (hE : envA E ∈ L0) : ConOk P L0 (dataCon az rs F) g := by
 intro ρ args vs m e As w k r hr h1 h2 hl
 simp only [dataCon] at hr
 cases hfr : flatR rs with
 | true =>
  rw [hfr] at hr
  simp only [zT] at hr
  split at hr
  ·rename_i x hx
   obtain ⟨y, hy, hk⟩ := bind_some hr
   obtain ⟨z1, hle, hs1, hA, hback⟩ := lendAll h2
   have hrep := toAs_rep hx (lndL_is h1 hle hA hl)
   refine Calls.mono (h hy (E.mono hle (envA_mem h2 (List.mem_append_right _ hE))) hrep hs1) ?_
   rintro en w' ⟨v, z', rfl, hz, hr, hs⟩
   obtain ⟨z3, hle3, hs3⟩ := hback hz hs
   have hke : e.le ⟨z3, e.bs⟩ := ⟨hle3, [], rfl⟩
   exact ⟨_, _, ⟨z3, e.bs⟩, As, hk, ⟨v, rfl, fromR_is (flat_repR hfr hr)⟩, ⟨hke, .refl _, fun _ => ⟨[], rfl⟩⟩, h1.mono hke rfl, hs3⟩
  ·cases hr
 | false =>
 rw [hfr] at hr
 simp only [zF] at hr
 split at hr
 ·rename_i x hx
  obtain ⟨y, hy, hk⟩ := bind_some hr
  obtain ⟨e1, A1, g1, g2, g3⟩ := frzL_ok (cellsL args) h1 h2
  have hrep := toAs_rep hx (resAll_is g2 (hl.mono g1.le))
  refine Calls.mono (h hy (envA_mem g3 (List.mem_append_right _ hE)) hrep g3) ?_
  rintro en w' ⟨v, z', rfl, hz, hr, hs⟩
  have hle : e1.le ⟨z', e1.bs⟩ := ⟨hz, [], rfl⟩
  exact ⟨_, _, ⟨z', e1.bs⟩, A1, hk, ⟨v, rfl, fromR_is hr⟩, g1.trans ⟨hle, .refl _, fun _ => ⟨[], rfl⟩⟩, g2.mono hle rfl, hs⟩
 ·cases hr
def resTup (σ : List Blk) : SV → SV
 | .tup l => .tup (l.map (res σ))
 | s => res σ s
theorem resTup_is (m : Mem e σ As) {s : SV} {v : Value} (k : Is e s v) : Is e (resTup σ s) v := by
 unfold resTup
 split
 ·cases k with
  | tup hl => exact .tup (resAll_is m hl)
 ·exact res_is m k
def kD (rs : List AT) (c : CR) (m : KM) : Option (tt rs) := match c with
 | .val s => let m1 := frzL m (cellsT s); toR rs (resTup m1.σ s)
 | .pan _ => none
theorem kD_ok {rs : List AT} {c : CR} {m : KM} {y : tt rs} {en : Ending} (h : kD rs c m = some y) (hc : CallEnd e c en) (hm : Mem e m.σ As) (hs : St e.z (As ++ L) w) : ∃ v z', en = .returned v ∧ e.z.le z' ∧ repR z' rs v y ∧ St z' L w := by
 cases c with
 | pan s => cases h
 | val s =>
  obtain ⟨v, rfl, hv⟩ := hc
  obtain ⟨e3, A3, g1, g2, g3⟩ := frzL_ok (cellsT s) hm hs
  exact ⟨v, e3.z, rfl, g1.le.z, toR_rep h (resTup_is g2 (hv.mono g1.le)), by
   have := St.drop A3.length g3
   rwa [List.drop_left] at this⟩
noncomputable def fnX {ρ : Type} (P : Program) (C : FuncId → Option Con) (SP : FuncId → Sp) (lf : Nat) (g : FuncId) (args : List SV) (m : KM) (k : CR → KM → Option ρ) : Option ρ := match P.funcs[g]? with
 | some fn => match fn.body with
  | some body => exec P C SP lf 1000 true g (args.length + (fn.ntmps - args.length)) body ⟨argS args, m, [], false⟩ (endK P fn (rdF P C SP lf 999 ρ) k)
  | none => none
 | none => none
theorem fnX_ok {Cl : List Atom → Prop} (hup : ∀ A L, Cl L → Cl (A :: L)) {C : FuncId → Option Con} {SP : FuncId → Sp} {lf : Nat} (hP : P.follows .mixedOrders = true) (hC : ∀ L, Cl L → ∀ g con, C g = some con → ConOk P L con g) (hcl : Cl L0) {g : FuncId} {args : List SV} {m : KM} {k : CR → KM → Option ρ} {r : ρ} (h : fnX P C SP lf g args m k = some r)
  {vs : List Value} (h1 : Mem e m.σ As) (h2 : St e.z (As ++ L0) w) (hl : IsL e args vs) : Calls P g vs.toArray w (CallR L0 e As m k r) := by
 unfold fnX at h
 split at h
 ·rename_i fn hfn
  split at h
  ·rename_i body hb
   have hlen := hl.len
   refine calls_intro (N := args.length + (fn.ntmps - args.length)) hfn (by simp [hb, hlen]) fun a hf => ?_
   have hbody : bodyOf fn = body := by simp [bodyOf, hb]
   rw [hbody]
   have hkr : KR (args.length + (fn.ntmps - args.length)) L0 e As (argFL vs.toArray) [] ⟨argS args, m, [], false⟩ a w := ⟨hf, argS_is 0 hl, h1, h2, trivial, fun _ => rfl⟩
   exact exec_ok hup hP hC 1000 hcl h (fun _ => rfl) hkr fun x s' e' As' flv' dv' a' w' X q1 q2 q3 q4 q5 q6 => endK_ok (fun ms => rd_ok (exec_ok hup hP hC 999) (cl_marks hup hcl ms)) q1 q5 q6 q4 fun _ _ h => h
  ·cases h
 ·cases h
noncomputable def fnF (P : Program) (C : FuncId → Option Con) (SP : FuncId → Sp) (g : FuncId) (az rs : List AT) (lf : Nat) (x : tt az) : Option (tt rs) := fnX P C SP lf g (fromAs az x) ⟨[], []⟩ (kD rs)
theorem env_up {E : Env} (A : Atom) (L : List Atom) (h : envA E ∈ L) : envA E ∈ A :: L := List.mem_cons_of_mem _ h
theorem fnF_valid {C : FuncId → Option Con} {SP : FuncId → Sp} (hP : P.follows .mixedOrders = true) (hC : ∀ L, envA E ∈ L → ∀ g con, C g = some con → ConOk P L con g) (g : FuncId) (az rs : List AT) (lf : Nat) : Valid E P g az rs (fnF P C SP g az rs lf) := by
 intro x y hx z L w vs hz hrep hs
 refine Calls.mono (fnX_ok (Cl := fun L => envA E ∈ L) env_up (e := ⟨z, []⟩) (As := []) (L0 := envA E :: L) hP hC (List.mem_cons_self ..) hx ⟨rfl, rfl, fun h => by cases h⟩ (envA_in hz hs) (fromAs_is hrep)) ?_
 rintro en w' ⟨c, m', e', As', k1, k2, k3, k4, k5⟩
 obtain ⟨v, z', h1, h2, h3, h4⟩ := kD_ok k1 k2 k4 k5
 exact ⟨v, z', h1, Zone.le_trans k3.le.z h2, h3, h4.tail⟩
def extC (C : FuncId → Option Con) (g : FuncId) (c : Con) : FuncId → Option Con := fun f => bif Nat.beq f g then some c else C f
theorem extC_ok {C : FuncId → Option Con} {g : FuncId} {c : Con} (hC : ∀ g con, C g = some con → ConOk P L0 con g) (hc : ConOk P L0 c g) : ∀ f con, extC C g c f = some con → ConOk P L0 con f := by
 intro f con h
 unfold extC at h
 cases hb : Nat.beq f g with
 | true =>
  rw [hb] at h
  have := zN hb
  subst this
  cases h; exact @hc
 | false => rw [hb] at h; exact hC f con h
end Go.K
namespace Go.K
open Go.Sl Go.Sx
variable {e e' e0 : KE} {σ σ' : List Blk} {As As0 L0 L A' : List Atom} {P : Program} {w : World} {N : Nat} {ρ : Type} {z : Zone} {E : Env}
def bts (l : List Nat) : ByteArray := ⟨(l.map UInt8.ofNat).toArray⟩
def sm {α β ρ : Type} (y : α ⊕ β) (f : α → Option ρ) (g : β → Option ρ) : Option ρ := match y with
 | .inl a => f a
 | .inr b => g b
def endP (z : Zone) (rs : List AT) (T : TypeId) (u : AT) : tt rs ⊕ u.2.den → Ending → Prop
 | .inl y, en => ∃ v, en = .returned v ∧ repR z rs v y
 | .inr p, en => ∃ v, en = .panicked (pch (.iface T v)) ∧ repA z u v p
def ValidP (E : Env) (P : Program) (g : FuncId) (az rs : List AT) (T : TypeId) (u : AT) (F : tt az → Option (tt rs ⊕ u.2.den)) : Prop := ∀ {x : tt az} {y : tt rs ⊕ u.2.den}, F x = some y → ∀ {z : Zone} {L : List Atom} {w : World} {vs : List Value}, E.P z → repAs z az vs x → St z L w →
 Calls P g vs.toArray w fun en w' => ∃ z', z.le z' ∧ endP z' rs T u y en ∧ St z' L w'
def panCon (az rs : List AT) (T : TypeId) (u : AT) (F : tt az → Option (tt rs ⊕ u.2.den)) : Con where
 run := fun args m k => bif flatR rs && u.2.flat then (match toAs az (args.map (lndS m.σ)) with
  | some x => (F x).bind fun y => sm y (fun v => k (.val (fromR rs v)) m) (fun p => k (.pan (.ifc T (fromA u p))) m)
  | none => none) else
  let m1 := frzL m (cellsL args)
  match toAs az (args.map (res m1.σ)) with
  | some x => (F x).bind fun y => sm y (fun v => k (.val (fromR rs v)) m1) (fun p => k (.pan (.ifc T (fromA u p))) m1)
  | none => none
theorem panCon_ok {g : FuncId} {az rs : List AT} {T : TypeId} {u : AT} {F : tt az → Option (tt rs ⊕ u.2.den)} (h : ValidP E P g az rs T u F) {L0 : List Atom} (hE : envA E ∈ L0) : ConOk P L0 (panCon az rs T u F) g := by
 intro ρ args vs m e As w k r hr h1 h2 hl
 simp only [panCon] at hr
 cases hfr : (flatR rs && u.2.flat) with
 | true =>
  rw [hfr] at hr
  simp only [zT] at hr
  simp only [za] at hfr
  split at hr
  ·rename_i x hx
   obtain ⟨y, hy, hk⟩ := bind_some hr
   obtain ⟨z1, hle, hs1, hA, hback⟩ := lendAll h2
   have hrep := toAs_rep hx (lndL_is h1 hle hA hl)
   refine Calls.mono (h hy (E.mono hle (envA_mem h2 (List.mem_append_right _ hE))) hrep hs1) ?_
   rintro en w' ⟨z', hz, hr, hs⟩
   obtain ⟨z3, hle3, hs3⟩ := hback hz hs
   have hke : e.le ⟨z3, e.bs⟩ := ⟨hle3, [], rfl⟩
   cases y with
   | inl y =>
    obtain ⟨v, rfl, hr⟩ := hr
    exact ⟨_, _, ⟨z3, e.bs⟩, As, hk, ⟨v, rfl, fromR_is (flat_repR hfr.1 hr)⟩, ⟨hke, .refl _, fun _ => ⟨[], rfl⟩⟩, h1.mono hke rfl, hs3⟩
   | inr p =>
    obtain ⟨v, rfl, hr⟩ := hr
    exact ⟨_, _, ⟨z3, e.bs⟩, As, hk, ⟨_, rfl, .ifc (fromA_is (e := ⟨z3, e.bs⟩) (flat_repA hfr.2 hr))⟩, ⟨hke, .refl _, fun _ => ⟨[], rfl⟩⟩, h1.mono hke rfl, hs3⟩
  ·cases hr
 | false =>
 rw [hfr] at hr
 simp only [zF] at hr
 split at hr
 ·rename_i x hx
  obtain ⟨y, hy, hk⟩ := bind_some hr
  obtain ⟨e1, A1, g1, g2, g3⟩ := frzL_ok (cellsL args) h1 h2
  have hrep := toAs_rep hx (resAll_is g2 (hl.mono g1.le))
  refine Calls.mono (h hy (envA_mem g3 (List.mem_append_right _ hE)) hrep g3) ?_
  rintro en w' ⟨z', hz, hr, hs⟩
  have hle : e1.le ⟨z', e1.bs⟩ := ⟨hz, [], rfl⟩
  have hgo := g1.trans (⟨hle, .refl _, fun _ => ⟨[], rfl⟩⟩ : Go1 e1 A1 (frzL m (cellsL args)) ⟨z', e1.bs⟩ A1 (frzL m (cellsL args)))
  cases y with
  | inl y =>
   obtain ⟨v, rfl, hr⟩ := hr
   exact ⟨_, _, ⟨z', e1.bs⟩, A1, hk, ⟨v, rfl, fromR_is hr⟩, hgo, g2.mono hle rfl, hs⟩
  | inr p =>
   obtain ⟨v, rfl, hr⟩ := hr
   exact ⟨_, _, ⟨z', e1.bs⟩, A1, hk, ⟨_, rfl, .ifc (fromA_is (e := ⟨z', e1.bs⟩) hr)⟩, hgo, g2.mono hle rfl, hs⟩
 ·cases hr
def kDP (rs : List AT) (T : TypeId) (u : AT) (c : CR) (m : KM) : Option (tt rs ⊕ u.2.den) := match c with
 | .val s => let m1 := frzL m (cellsT s); match toR rs (resTup m1.σ s) with
  | some y => some (.inl y)
  | none => none
 | .pan (.ifc T' s) => bif Nat.beq T' T then (let m1 := frzL m (cellsL [s]); match toA u (res m1.σ s) with
  | some p => some (.inr p)
  | none => none) else none
 | .pan _ => none
theorem kDP_ok {rs : List AT} {T : TypeId} {u : AT} {c : CR} {m : KM} {y : tt rs ⊕ u.2.den} {en : Ending} (h : kDP rs T u c m = some y) (hc : CallEnd e c en) (hm : Mem e m.σ As) (hs : St e.z (As ++ L) w) : ∃ z', e.z.le z' ∧ endP z' rs T u y en ∧ St z' L w := by
 unfold kDP at h
 split at h
 ·rename_i s
  obtain ⟨v, rfl, hv⟩ := hc
  obtain ⟨e3, A3, g1, g2, g3⟩ := frzL_ok (cellsT s) hm hs
  simp only at h
  split at h
  ·rename_i y' hy
   cases h
   exact ⟨e3.z, g1.le.z, ⟨v, rfl, toR_rep hy (resTup_is g2 (hv.mono g1.le))⟩, by
    have := St.drop A3.length g3
    rwa [List.drop_left] at this⟩
  ·cases h
 ·rename_i T' s
  cases hb : Nat.beq T' T with
  | false => rw [hb] at h; cases h
  | true =>
   rw [hb] at h
   simp only [zT] at h
   have := zN hb
   subst this
   obtain ⟨v, rfl, hv⟩ := hc
   cases hv with
   | ifc hv =>
    obtain ⟨e3, A3, g1, g2, g3⟩ := frzL_ok (cellsL [s]) hm hs
    split at h
    ·rename_i p hp
     cases h
     exact ⟨e3.z, g1.le.z, ⟨_, rfl, toA_rep hp (res_is g2 (hv.mono g1.le))⟩, by
      have := St.drop A3.length g3
      rwa [List.drop_left] at this⟩
    ·cases h
 ·cases h
noncomputable def fnP (P : Program) (C : FuncId → Option Con) (SP : FuncId → Sp) (g : FuncId) (az rs : List AT) (T : TypeId) (u : AT) (lf : Nat) (x : tt az) : Option (tt rs ⊕ u.2.den) := fnX P C SP lf g (fromAs az x) ⟨[], []⟩ (kDP rs T u)
theorem fnP_valid {C : FuncId → Option Con} {SP : FuncId → Sp} (hP : P.follows .mixedOrders = true) (hC : ∀ L, envA E ∈ L → ∀ g con, C g = some con → ConOk P L con g) (g : FuncId) (az rs : List AT) (T : TypeId) (u : AT) (lf : Nat) : ValidP E P g az rs T u (fnP P C SP g az rs T u lf) := by
 intro x y hx z L w vs hz hrep hs
 refine Calls.mono (fnX_ok (Cl := fun L => envA E ∈ L) env_up (e := ⟨z, []⟩) (As := []) (L0 := envA E :: L) hP hC (List.mem_cons_self ..) hx ⟨rfl, rfl, fun h => by cases h⟩ (envA_in hz hs) (fromAs_is hrep)) ?_
 rintro en w' ⟨c, m', e', As', k1, k2, k3, k4, k5⟩
 obtain ⟨z', h2, h3, h4⟩ := kDP_ok k1 k2 k4 k5
 exact ⟨z', Zone.le_trans k3.le.z h2, h3, h4.tail⟩
theorem rec_valid {C : FuncId → Option Con} {SP : FuncId → Sp} {g : FuncId} {az rs : List AT} {lf : Nat} (hP : P.follows .mixedOrders = true) (hC : ∀ L, envA E ∈ L → ∀ g con, C g = some con → ConOk P L con g) {F : Nat → tt az → Option (tt rs)}
  (h0 : ∀ x, F 0 x = none) (hs : ∀ n x, F (n + 1) x = fnF P (extC C g (dataCon az rs (F n))) SP g az rs lf x) : ∀ n, Valid E P g az rs (F n)
 | 0 => by
  intro hx
  rw [h0] at hx; cases hx
 | n + 1 => by
  intro hx
  rw [hs] at hx
  exact fnF_valid hP (fun L hL => extC_ok (hC L hL) (dataCon_ok (rec_valid hP hC h0 hs n) hL)) g az rs lf hx
end Go.K
namespace Go.Sx
open Go.Sl Go.Shelf Go.Proofs Go.RowKit
variable {P : Program} {ρ : Ren} {h h' : Zone} {L M : List Atom} {w w' W0 : World}
theorem _root_.Go.Sl.St.of_below (hS : St h L w) (b : Below w.heap.size w w') : St h L w' := by
 obtain ⟨z, hz, hd, hb, hzw⟩ := hS.sep
 have up : ∀ {u : Hp}, u.le (fun b => w.heap[b]?) → u.le (fun b => w'.heap[b]?) := fun {u} hu k o e => by
  have h1 := hu k o e
  have hlt : k < w.heap.size := (Array.getElem?_eq_some_iff.1 h1).1
  exact (b.block k hlt).trans h1
 exact ⟨⟨z, hz, hd, up hb, up hzw⟩, b.os.trans hS.os, b.tape.trans hS.tape, b.output.trans hS.output⟩
theorem _root_.Go.Sl.St.of_below_new (hS : St h L w) (b : Below w.heap.size w w') {k : Nat} {o : Obj} (hk : w.heap.size ≤ k) (ho : w'.heap[k]? = some o) (A : Atom) (hA : A.P h (Hp.one k o)) : St h (A :: L) w' := by
 obtain ⟨z, hz, hd, hb, hzw⟩ := hS.sep
 have up : ∀ {u : Hp}, u.le (fun b => w.heap[b]?) → u.le (fun b => w'.heap[b]?) := fun {u} hu k o e => by
  have h1 := hu k o e
  have hlt : k < w.heap.size := (Array.getElem?_eq_some_iff.1 h1).1
  exact (b.block k hlt).trans h1
 have away : ∀ {u : Hp}, u.le (fun b => w.heap[b]?) → u k = none := fun {u} hu => by
  cases e : u k with
  | none => rfl
  | some o' => have h1 := (Array.getElem?_eq_some_iff.1 (hu k o' e)).1; omega
 have d1 : (Hp.one k o).apart z := Hp.one_apart.2 (away hzw)
 have d2 : (Hp.one k o).apart h.blk := Hp.one_apart.2 (away hb)
 exact ⟨⟨(Hp.one k o).add z, ⟨_, z, hA, hz, d1, rfl⟩, Hp.apart_add.2 ⟨Hp.apart_comm d2, hd⟩, up hb, Hp.add_le (Hp.one_le.2 ho) (up hzw)⟩, b.os.trans hS.os, b.tape.trans hS.tape, b.output.trans hS.output⟩
theorem _root_.Go.Sl.St.whole (hS : St h L w) : h.le (Zone.all w) := by
 obtain ⟨z, hz, hd, hb, hzw⟩ := hS.sep
 exact ⟨hb, hS.os, hS.tape, hS.output⟩
theorem _root_.Go.Sl.St.under (hS : St h' L w) (k : h.le h') : St h [] w := by
 obtain ⟨z, hz, hd, hb, hzw⟩ := hS.sep
 exact ⟨⟨Hp.nil, rfl, Hp.apart_nil _, Hp.le_trans k.blk hb, Hp.nil_le _⟩, hS.os.trans k.os, hS.tape.trans k.tape, hS.output.trans k.output⟩
def Env (P : Program) (g : Nat) (h : Zone) : Prop :=
 (∀ L w, St h L w → Lib.TabIs P w "internal/strconv.uint64pow10" .u64 Lib.pow10Tab) ∧ ∃ m, h.cell? ⟨g, 0, none⟩ = some (.int .i64 m)
theorem Env.mono {g : Nat} (k : h.le h') (e : Env P g h) : Env P g h' := ⟨fun L w hS => e.1 [] w (hS.under k), let ⟨m, hm⟩ := e.2; ⟨m, k.cell hm⟩⟩
def itoaC (n : Int) : Option ByteArray := if -9223372036854775808 ≤ n ∧ n ≤ 9223372036854775807 then some ⟨(Lib.itoa n).toArray⟩ else none
theorem itoa_ok (Ly : LaysM.n171 P ρ) {g : Nat} (hE : Env P g h) {n : Int} {s : ByteArray} (hn : itoaC n = some s) (hS : St h L w) :
  Calls P (ρ.f 171) #[.int .i64 n] w fun e w' => ∃ v, e = .returned v ∧ (v = .string s ∧ St h L w') := by
 unfold itoaC at hn
 split at hn
 ·rename_i hc
  simp only [zI] at hn
  subst hn
  refine (Any.strconv_Itoa Ly n hc.1 hc.2 w (hE.1 L w hS)).mono ?_
  rintro e w' ⟨rfl, k, os, rfl⟩
  refine ⟨_, rfl, rfl, hS.of_below ⟨rfl, rfl, rfl, ?_, fun b hb => ?_⟩⟩
  ·simp [Sort.grow, World.drewN]
  ·simp only [Sort.grow, World.drewN]
   rw [Array.getElem?_append_left hb]
 ·cases hn
def atoiC (s : ByteArray) : Option Int := if s.size ≤ 9223372036854775806 then match Lib.atoiAll s.data.toList with | .ok v => some v | _ => none else none
theorem atoi_ok (Ly : LaysC.n172 P ρ) {n : Int} {s : ByteArray} (hn : atoiC s = some n) (hS : St h L w) :
  Calls P (ρ.f 172) #[.string s] w fun e w' => ∃ v, e = .returned v ∧ (v = .tuple #[.int .i64 n, .nilIface] ∧ St h L w') := by
 unfold atoiC at hn
 split at hn
 ·rename_i hc
  split at hn
  ·rename_i v hv
   simp only [zI] at hn
   subst hn
   refine (Any.strconv_Atoi_ok Ly s hc v hv w).mono ?_
   rintro e w' ⟨rfl, hw⟩
   refine ⟨_, rfl, rfl, hS.of_below ?_⟩
   rcases hw with rfl | ⟨t, rfl⟩
   ·exact Below.refl _ _
   ·unfold Lib.bytesWorld
    exact Lib.below_freeze (((Below.refl _ _).drew).alloc (Nat.le_refl _) _) (Nat.le_refl _) _
  ·cases hn
 ·cases hn
def trimC (s c : ByteArray) : Option ByteArray := if s.size ≤ 9223372036854775807 ∧ c.size < 4294967281 ∧ c.data.toList.all (fun b => decide (b.toNat < 128)) = true then some ⟨(Lib.trimS s.data.toList c.data.toList).toArray⟩ else none
theorem trim_ok (Ly : Lays.n160 P ρ) (h116 : (P.info? (ρ.t 116)).map (fun i => (i.zero, i.size)) = some (some (.agg (Array.replicate 256 (.bool false))), 256)) {s c r : ByteArray} (hn : trimC s c = some r) (hS : St h L w) :
  Calls P (ρ.f 160) #[.string s, .string c] w fun e w' => ∃ v, e = .returned v ∧ (v = .string r ∧ St h L w') := by
 unfold trimC at hn
 split at hn
 ·rename_i hc
  simp only [zI] at hn
  subst hn
  refine (Any.strings_Trim_laid Ly h116 s c w hc.1 hc.2.1 (ascii_of_all hc.2.2)).mono ?_
  rintro e w' ⟨rfl, hb⟩
  exact ⟨_, rfl, rfl, hS.of_below hb⟩
 ·cases hn
theorem rows_str : ∀ {xs : List ByteArray} {h : Zone}, Rows Ty.str h (xs.map Value.string) xs
 | [], _ => rfl
 | x :: xs, _ => ⟨[.string x], xs.map Value.string, rfl, rfl, rows_str⟩
def splitC (s p : ByteArray) : Option (List ByteArray) := if s.size < 4294967281 ∧ 1 ≤ p.size then some (Lib.splitB p 0 (Lib.countB s p) s) else none
theorem split_ok (Ly : Lays.n146 P ρ) (hi9 : (P.info? (ρ.t 9)).map (fun i => (i.zero, i.size, i.bytes)) = some (some (.string ByteArray.empty), 1, 16)) (hE : Env P (ρ.g 1) h) {s p : ByteArray} {r : List ByteArray} (hn : splitC s p = some r) (hS : St h L w) :
  Calls P (ρ.f 146) #[.string s, .string p] w fun e w' => ∃ v, e = .returned v ∧ (∃ h', ∃ o : Option Addr, ∃ c : Nat, Zone.le h h' ∧ v = .slice o r.length c ∧ St h' L w' ∧ SliceR Ty.str h' o c r) := by
 unfold splitC at hn
 split at hn
 ·rename_i hc
  simp only [zI] at hn
  subst hn
  obtain ⟨m, hm⟩ := hE.2
  refine (Any.strings_Split Ly hi9 s p m w hc.1 (hS.cell hm) hc.2).mono ?_
  rintro e w' ⟨rfl, rfl⟩
  have hlen := Lib.splitB_all p hc.2 0 _ s rfl
  have hcnt := Lib.countB_le p hc.2 s.size s (Nat.le_refl _)
  have hN : St h (ownS Ty.str (ρ.t 9) (some ⟨w.heap.size, 0, none⟩) (Lib.countB s p + 1) (Lib.splitB p 0 (Lib.countB s p) s) :: L) (w.alloc (.cells ((Lib.splitB p 0 (Lib.countB s p) s).map Value.string).toArray (ρ.t 9))) := by
   refine hS.new _ _ (.inr ⟨w.heap.size, _, rfl, rfl, by omega, by simp only [maxLen]; omega, ?_, ?_⟩)
   ·simp [hlen, Ty.str]
   ·have e1 : (((Lib.splitB p 0 (Lib.countB s p) s).map Value.string).toArray.toList.take ((Lib.splitB p 0 (Lib.countB s p) s).length * Ty.str.size)) = (Lib.splitB p 0 (Lib.countB s p) s).map Value.string := by
     simp [Ty.str, List.take_of_length_le]
    rw [e1]
    exact rows_str
  obtain ⟨h', k, hS', hx⟩ := hN.share (j := 0) rfl
  exact ⟨_, rfl, h', _, _, k, by rw [hlen], St.drop 1 hS', hx⟩
 ·cases hn
def fieldsC (p : Nat → Bool) (s : ByteArray) : Option (List ByteArray) := if s.size ≤ 4294967296 then some (Lib.goFieldsP p s) else none
theorem fields_ok (Ly : Lays.n229 P ρ) (g : Nat) (eg : ∀ args w, (callFunc g args).run P w = .ok (.enter g args) w) (p : Nat → Bool)
  (hp : ∀ (W : World) (x : Nat), FnGives P g #[] #[encR x] (.bool (p x)) W)
  (hi154 : (P.info? (ρ.t 154)).map (fun i => (i.zero, i.size, i.bytes)) = some (some (.agg #[.int .i64 0, .int .i64 0]), 2, 16))
  (hi9 : (P.info? (ρ.t 9)).map (fun i => (i.zero, i.size, i.bytes)) = some (some (.string ⟨#[]⟩), 1, 16)) {s : ByteArray} {r : List ByteArray} (hn : fieldsC p s = some r) (hS : St h L w) :
  Calls P (ρ.f 229) #[.string s, .func (.func g) #[] #[]] w fun e w' => ∃ v, e = .returned v ∧ (∃ h', ∃ o : Option Addr, ∃ c : Nat, Zone.le h h' ∧ v = .slice o r.length c ∧ St h' L w' ∧ SliceR Ty.str h' o c r) := by
 unfold fieldsC at hn
 split at hn
 ·rename_i hc
  simp only [zI] at hn
  subst hn
  refine (Any.strings_FieldsFunc Ly g #[] eg p s w hc (fun W x _ => hp W x) hi154 hi9).mono ?_
  rintro e w' ⟨A, rfl, hA, hown, hb⟩
  rcases hown.2 with ⟨hv, _⟩ | ⟨k, cap, cur, hv, hkb, hk, hnc, hcm, hsz, htk⟩
  ·cases hv
  ·have hkA : k = A := by cases hv; rfl
   have hcap : cap = (Lib.goFieldsP p s).length := by cases hv; rfl
   subst hkA
   have hN := hS.of_below_new hb hA hk (ownS Ty.str (ρ.t 9) (some ⟨k, 0, none⟩) cap (Lib.goFieldsP p s)) (.inr ⟨k, cur, rfl, rfl, hnc, hcm, by simpa [Ty.str] using hsz, by
    have e1 : cur.toList.take ((Lib.goFieldsP p s).length * Ty.str.size) = (Lib.goFieldsP p s).map Value.string := by simpa [Ty.str] using htk
    rw [e1]
    exact rows_str⟩)
   obtain ⟨h', kk, hS', hx⟩ := hN.share (j := 0) rfl
   rw [hcap] at hx
   exact ⟨_, rfl, h', _, _, kk, rfl, St.drop 1 hS', hx⟩
 ·cases hn
def BldP (T e : TypeId) (B b : Nat) (s : ByteArray) (z : Hp) : Prop :=
 ∃ p v, (p = .pointer none ∨ p = .pointer (some ⟨b, 0, none⟩)) ∧ B ≤ b ∧
  ((v = .slice none 0 0 ∧ s.size = 0 ∧ z = Hp.one b (.cells #[p, v] T (0, 0))) ∨
   ∃ g cap cur fz, v = .slice (some ⟨g, 0, none⟩) s.size cap ∧ B ≤ g ∧ g ≠ b ∧ fz.2 ≤ s.size ∧ s.size ≤ cap ∧ cap ≤ maxLen ∧ cur.size = cap ∧ cur.toList.take s.size = Lib.strCells s ∧
    z = (Hp.one b (.cells #[p, v] T (0, 0))).add (Hp.one g (.cells cur e fz)))
def NB (e : TypeId) (B : Nat) (z : Hp) : Prop := ∀ k o, z k = some o → k < B ∨ ∀ c fz, o ≠ .cells c e fz
theorem NB.nil {e : TypeId} {B : Nat} : NB e B Hp.nil := fun _ _ h => by cases h
theorem NB.all (e : TypeId) : NB e W0.heap.size (Zone.all W0).blk := fun k o hk => .inl (Array.getElem?_eq_some_iff.1 hk).1
theorem BldP.is {T e : TypeId} {B b : Nat} {s : ByteArray} {z : Hp} (hb : BldP T e B b s z) (hz : z.le (fun b => w.heap[b]?)) : Lib.IsBuilderF T e B b (Lib.strCells s) w := by
 obtain ⟨p, v, hp, hB, hv⟩ := hb
 have key : Lib.BuilderAtF T e B b p (Lib.strCells s) w := by
  refine ⟨hB, v, ?_⟩
  rcases hv with ⟨rfl, h0, rfl⟩ | ⟨g, cap, cur, fz, rfl, h1, h2, h3, h4, h5, h6, h7, rfl⟩
  ·refine ⟨Hp.one_le.1 hz, ⟨by simp, .inl ⟨rfl, by rw [Lib.strCells_length, h0]⟩⟩, by simp [Value.ownBlock]⟩
  ·have d : (Hp.one b (.cells #[p, .slice (some ⟨g, 0, none⟩) s.size cap] T (0, 0))).apart (Hp.one g (.cells cur e fz)) := Hp.one_apart.2 (by simp [Hp.one, Ne.symm h2])
   have e1 := Hp.one_le.1 (Hp.le_trans (Hp.le_add_left _ _) hz)
   have e2 := Hp.one_le.1 (Hp.le_trans (Hp.le_add_right d) hz)
   refine ⟨e1, ⟨by simp, .inr ⟨g, cap, cur, fz, by rw [Lib.strCells_length], h1, e2, by rw [Lib.strCells_length]; omega, by rw [Lib.strCells_length]; omega, h5, by omega, ?_⟩⟩, by simp [Value.ownBlock, h2]⟩
   rw [Lib.strCells_length, Nat.mul_one]
   exact h7
 rcases hp with rfl | rfl
 ·exact .inl key
 ·exact .inr key
end Go.Sx
namespace Go.K
open Go.Sl Go.Sx Go.Shelf Go.Proofs
variable {e : KE} {As L0 L : List Atom} {P : Program} {w : World} {ρ' : Ren} {z : Zone} {E : Env}
abbrev aI : AT := (false, .i)
abbrev aS : AT := (false, .str)
abbrev aB : AT := (false, .bool)
abbrev aSs : AT := (false, .sl .str)
theorem rep1 {u : TC} {v : Value} {x : u.den} (h : repA z (false, u) v x) : u.ty.rep z [v] x := by
 rcases h with ⟨h, _⟩ | ⟨_, h⟩
 ·cases h
 ·exact h
theorem rep_int {v : Value} {x : Int} (h : repA z aI v x) : v = .int .i64 x := by
 have h' : [v] = [.int .i64 x] := rep1 h
 simpa using h'
theorem rep_str {v : Value} {x : ByteArray} (h : repA z aS v x) : v = .string x := by
 have h' : [v] = [.string x] := rep1 h
 simpa using h'
def envT (P : Program) (g : Nat) : Env := ⟨fun z => Sx.Env P g z, fun h k => Sx.Env.mono h k⟩
theorem itoa_valid {g : Nat} (Ly : LaysM.n171 P ρ') : Valid (envT P g) P (ρ'.f 171) [aI] [aS] itoaC := by
 intro x y hx z L w vs hz hrep hs
 obtain ⟨v, rfl, hv⟩ := hrep
 have := rep_int hv
 subst this
 refine Calls.mono (itoa_ok Ly hz hx hs) ?_
 rintro en w' ⟨v, rfl, rfl, hS⟩
 exact ⟨_, z, rfl, Zone.le_refl _, ⟨[.string y], rfl, _, rfl, .inr ⟨rfl, rfl⟩⟩, hS⟩
theorem trim_valid (Ly : Lays.n160 P ρ') (h116 : (P.info? (ρ'.t 116)).map (fun i => (i.zero, i.size)) = some (some (.agg (Array.replicate 256 (.bool false))), 256)) : Valid E P (ρ'.f 160) [aS, aS] [aS] fun x => trimC x.1 x.2 := by
 intro x y hx z L w vs hz hrep hs
 obtain ⟨v, r, rfl, hv, u, rfl, hu⟩ := hrep
 have h1 := rep_str hv
 have h2 := rep_str hu
 subst h1 h2
 refine Calls.mono (trim_ok Ly h116 hx hs) ?_
 rintro en w' ⟨v, rfl, rfl, hS⟩
 exact ⟨_, z, rfl, Zone.le_refl _, ⟨[.string y], rfl, _, rfl, .inr ⟨rfl, rfl⟩⟩, hS⟩
theorem split_valid (Ly : Lays.n146 P ρ') (hi9 : (P.info? (ρ'.t 9)).map (fun i => (i.zero, i.size, i.bytes)) = some (some (.string ByteArray.empty), 1, 16)) : Valid (envT P (ρ'.g 1)) P (ρ'.f 146) [aS, aS] [aSs] fun x => splitC x.1 x.2 := by
 intro x y hx z L w vs hz hrep hs
 obtain ⟨v, r, rfl, hv, u, rfl, hu⟩ := hrep
 have h1 := rep_str hv
 have h2 := rep_str hu
 subst h1 h2
 refine Calls.mono (split_ok Ly hi9 hz hx hs) ?_
 rintro en w' ⟨v, rfl, z', o, c, hle, rfl, hS, hsl⟩
 exact ⟨_, z', rfl, hle, ⟨[_], rfl, _, rfl, .inr ⟨rfl, o, c, rfl, hsl⟩⟩, hS⟩
def atoiCon : Con where
 run := fun args m k => match args with
  | [.str s] => (atoiC s).bind fun n => k (.val (.tup [.int .i64 n, .raw .nilIface])) m
  | _ => none
theorem atoiCon_ok (Ly : LaysC.n172 P ρ') : ConOk P L0 atoiCon (ρ'.f 172) := by
 intro ρ args vs m e As w k r hr h1 h2 hl
 unfold atoiCon at hr
 simp only at hr
 split at hr
 ·rename_i s
  obtain ⟨n, hn, hk⟩ := bind_some hr
  cases hl with
  | cons a b =>
   cases b
   cases a
   refine Calls.mono (atoi_ok Ly hn h2) ?_
   rintro en w' ⟨v, rfl, rfl, hS⟩
   exact ⟨_, m, e, As, hk, ⟨_, rfl, .tup (.cons (.int _ _) (.cons (.raw _) .nil))⟩, .refl, h1, hS⟩
 ·cases hr
def fieldsCon (f : FuncId) (p : Nat → Bool) : Con where
 run := fun args m k => match args with
  | [.str s, .fn g [] []] => bif Nat.beq g f then (fieldsC p s).bind fun l => k (.val (.sl .str l)) m else none
  | _ => none
theorem fieldsCon_ok (Ly : Lays.n229 P ρ') {g : Nat} (eg : ∀ args w, (callFunc g args).run P w = .ok (.enter g args) w) {p : Nat → Bool}
  (hp : ∀ (W : World) (x : Nat), FnGives P g #[] #[encR x] (.bool (p x)) W)
  (hi154 : (P.info? (ρ'.t 154)).map (fun i => (i.zero, i.size, i.bytes)) = some (some (.agg #[.int .i64 0, .int .i64 0]), 2, 16))
  (hi9 : (P.info? (ρ'.t 9)).map (fun i => (i.zero, i.size, i.bytes)) = some (some (.string ⟨#[]⟩), 1, 16)) : ConOk P L0 (fieldsCon g p) (ρ'.f 229) := by
 intro ρ args vs m e As w k r hr h1 h2 hl
 unfold fieldsCon at hr
 simp only at hr
 split at hr
 ·rename_i s g'
  cases hb : Nat.beq g' g with
  | false => rw [hb] at hr; cases hr
  | true =>
   rw [hb] at hr
   have := zN hb
   subst this
   obtain ⟨l, hn, hk⟩ := bind_some hr
   cases hl with
   | cons a b =>
    cases b with
    | cons b c =>
     cases c
     cases a
     cases b with
     | fn hx hy =>
      cases hx
      cases hy
      refine Calls.mono (fields_ok Ly g' eg p hp hi154 hi9 hn h2) ?_
      rintro en w' ⟨v, rfl, z', o, c, hle, rfl, hS, hsl⟩
      have hle' : e.le ⟨z', e.bs⟩ := ⟨hle, [], rfl⟩
      exact ⟨_, m, ⟨z', e.bs⟩, As, hk, ⟨_, rfl, .sl hsl⟩, ⟨hle', .refl _, fun _ => ⟨[], rfl⟩⟩, h1.mono hle' rfl, hS⟩
 ·cases hr
end Go.K
namespace Go.K
open Go.Sl Go.Sx Go.Proofs
def ofL (l : List UInt8) : ByteArray := ⟨l.toArray⟩
theorem ofL_back (s : ByteArray) : ofL s.data.toList = s := ext_data (ofL_data _)
theorem ofL_size (l : List UInt8) : (ofL l).size = l.length := by rw [size_len]; unfold ofL; rw [ofL_data]
theorem ofL_eq {s : ByteArray} {l : List UInt8} (h : s.data.toList = l) : s = ofL l := by rw [← h, ofL_back]
theorem ext_extract (s : ByteArray) (a b : Nat) : s.extract a b = ofL ((s.data.toList.drop a).take (b - a)) := ofL_eq (by rw [Lib.extract_data])
def sp : List UInt8 → List (List UInt8)
 | [] => [[]]
 | b :: r => if b = 10 then [] :: sp r else match sp r with
  | x :: xs => (b :: x) :: xs
  | [] => [[b]]
theorem sp_ne (l : List UInt8) : sp l ≠ [] := by
 cases l with
 | nil => simp [sp]
 | cons b r =>
  simp only [sp]
  split
  ·simp
  ·split <;> simp
theorem splitK_ne {b : UInt8} (h : b ≠ 10) (k : Nat) (l : List UInt8) : Lib.splitK [10] 0 k (b :: l) = match Lib.splitK [10] 0 k l with
  | x :: xs => (b :: x) :: xs
  | [] => [[b]] := by
 cases k with
 | zero => rfl
 | succ k =>
  have hp : ([10] : List UInt8).isPrefixOf (b :: l) = false := by simp [List.isPrefixOf, Ne.symm h]
  have hix : Lib.index (b :: l) [10] = if Lib.index l [10] == -1 then -1 else Lib.index l [10] + 1 := by rw [Lib.index, hp]; simp
  by_cases hm : Lib.index l [10] = -1
  ·simp only [Lib.splitK, hix, hm]; rfl
  ·have hge := Lib.index_ge l [10]
   obtain ⟨j, hj⟩ : ∃ j : Nat, Lib.index l [10] = j := ⟨(Lib.index l [10]).toNat, by omega⟩
   have e1 : ((j : Int) == -1) = false := by simp
   have e2 : ((j : Int) + 1 == -1) = false := by simp; omega
   have e3 : ((j : Int) + 1).toNat = j + 1 := by omega
   have e4 : j + 1 + [(10 : UInt8)].length = j + [(10 : UInt8)].length + 1 := by simp
   simp only [Lib.splitK, hix, hj, e1, Bool.false_eq_true, if_false, e2, e3, Int.toNat_natCast, Nat.add_zero, List.take_succ_cons, e4, List.drop_succ_cons]
theorem splitK_sp : ∀ l : List UInt8, Lib.splitK [10] 0 (Lib.count l [10]) l = sp l
 | [] => by rw [Lib.count_miss (by simp [Lib.index])]; rfl
 | b :: l => by
  by_cases h : b = 10
  ·subst h
   rw [Lib.count_cons_eq, Nat.add_comm]
   have hix : Lib.index (10 :: l) [10] = 0 := by rw [Lib.index]; simp [List.isPrefixOf]
   simp only [Lib.splitK, hix, sp, if_true]
   have : ((0 : Int) == -1) = false := by decide
   simp only [this, Bool.false_eq_true, if_false, Int.toNat_zero, Nat.add_zero, List.take_zero, Nat.zero_add, List.length_singleton, List.drop_succ_cons, List.drop_zero, splitK_sp l]
  ·rw [Lib.count_cons_ne b 10 l h, splitK_ne h, splitK_sp l]
   simp only [sp, h, if_false]
theorem bts10 : (bts [10]).data.toList = [10] := by simp [bts]
theorem splitC_sp {s : ByteArray} (h : s.size < 4294967281) : splitC s (bts [10]) = some ((sp s.data.toList).map ofL) := by
 unfold splitC
 rw [if_pos ⟨h, by decide⟩]
 have e := Lib.splitB_data (bts [10]) 0 (Lib.countB s (bts [10])) s
 unfold Lib.countB at e ⊢
 rw [bts10, splitK_sp] at e
 rw [← e, List.map_map, bts10]
 congr 1
 conv => lhs; rw [← List.map_id (Lib.splitB (bts [10]) 0 (Lib.count s.data.toList [10]) s)]
 refine List.map_congr_left fun x _ => ?_
 simp [ofL_back]
def trimE (l : List (List UInt8)) : List (List UInt8) := if l.getLast? = some [] then l.dropLast else l
def lns (l : List UInt8) : List (List UInt8) := trimE (sp l)
def spc (cur l : List UInt8) : List (List UInt8) := match sp l with
 | x :: xs => (cur ++ x) :: xs
 | [] => [cur]
theorem spc_nil (l : List UInt8) : spc [] l = sp l := by
 unfold spc
 cases h : sp l with
 | nil => exact absurd h (sp_ne l)
 | cons x xs => rfl
theorem spc_end (cur : List UInt8) : spc cur [] = [cur] := by simp [spc, sp]
theorem spc_10 (cur r : List UInt8) : spc cur (10 :: r) = cur :: sp r := by simp [spc, sp]
theorem spc_ne (cur : List UInt8) {b : UInt8} (h : b ≠ 10) (r : List UInt8) : spc cur (b :: r) = spc (cur ++ [b]) r := by
 unfold spc
 simp only [sp, h, if_false]
 cases sp r <;> simp
theorem spc_len (l : List UInt8) : ∀ cur, (spc cur l).length ≤ l.length + 1 := by
 induction l with
 | nil => intro cur; simp [spc_end]
 | cons b r ih =>
  intro cur
  by_cases h : b = 10
  ·subst h; rw [spc_10, ← spc_nil r]; simpa using ih []
  ·rw [spc_ne cur h]; have := ih (cur ++ [b]); simp only [zC]; omega
theorem sp_len (l : List UInt8) : (sp l).length ≤ l.length + 1 := by rw [← spc_nil]; exact spc_len l []
def wd : List UInt8 → List UInt8 → List (List UInt8)
 | cur, [] => if cur = [] then [] else [cur]
 | cur, b :: r => if b = 32 then (if cur = [] then wd [] r else cur :: wd [] r) else wd (cur ++ [b]) r
theorem wd_skip : ∀ (u cur r : List UInt8), (∀ b ∈ u, b ≠ 32) → wd cur (u ++ r) = wd (cur ++ u) r
 | [], cur, r, _ => by simp
 | b :: u, cur, r, h => by
  simp only [List.cons_append, wd, h b (by simp), if_false]
  rw [wd_skip u (cur ++ [b]) r fun c hc => h c (by simp [hc])]
  simp
theorem wd_sp (u r : List UInt8) (hu : u ≠ []) (h : ∀ b ∈ u, b ≠ 32) : wd [] (u ++ 32 :: r) = u :: wd [] r := by
 rw [wd_skip u [] _ h]; simp [wd, hu]
theorem wd_one (u : List UInt8) (hu : u ≠ []) (h : ∀ b ∈ u, b ≠ 32) : wd [] u = [u] := by
 have := wd_skip u [] [] h
 simp only [List.append_nil, List.nil_append] at this
 rw [this]; simp [wd, hu]
theorem get_list (s : ByteArray) {i : Nat} (h : i < s.size) : s.data.toList[i]? = some (s.get! i) := by
 obtain ⟨⟨l⟩⟩ := s
 have h' : i < l.length := by simpa [size_len] using h
 show l[i]? = some ((⟨l⟩ : Array UInt8)[i]!)
 rw [List.getElem?_eq_getElem h']
 simp [h']
theorem dec32 (s : ByteArray) (i : Nat) (h : i < s.size) : 1 ≤ (Utf8.decode s i).2 ∧ i + (Utf8.decode s i).2 ≤ s.size ∧ ((Utf8.decode s i).1 = 32 → (Utf8.decode s i).2 = 1 ∧ s.get! i = 32) ∧
  ((Utf8.decode s i).1 ≠ 32 → ∀ j, i ≤ j → j < i + (Utf8.decode s i).2 → s.get! j ≠ 32) := by
 have hb : ∀ j, (s.get! j).toNat = 32 → s.get! j = 32 := fun j hj => by
  apply UInt8.toNat_inj.1; simpa using hj
 have hb' : ∀ j, s.get! j = 32 → (s.get! j).toNat = 32 := fun j hj => by rw [hj]; rfl
 rw [Lib.decode_at]
 have k1 := hb i
 have k1' := hb' i
 have k2' := hb' (i + 1)
 have k3' := hb' (i + 2)
 have k4' := hb' (i + 3)
 have h0 : (s.get! i).toNat < 256 := UInt8.toNat_lt _
 generalize e0 : (s.get! i).toNat = b0 at *
 generalize e1 : (s.get! (i + 1)).toNat = b1 at *
 generalize e2 : (s.get! (i + 2)).toNat = b2 at *
 generalize e3 : (s.get! (i + 3)).toNat = b3 at *
 have hj4 : ∀ j k, i ≤ j → j < i + k → k ≤ 4 → j = i ∨ (j = i + 1 ∧ 2 ≤ k) ∨ (j = i + 2 ∧ 3 ≤ k) ∨ (j = i + 3 ∧ 4 ≤ k) := fun j k _ _ _ => by omega
 have key : ∀ (r k : Nat), Lib.decodeN (s.size - i) b0 b1 b2 b3 = (r, k) → 1 ≤ k ∧ i + k ≤ s.size ∧ k ≤ 4 ∧ (r = 32 → k = 1 ∧ b0 = 32) ∧ (r ≠ 32 → b0 ≠ 32 ∧ (2 ≤ k → b1 ≠ 32) ∧ (3 ≤ k → b2 ≠ 32) ∧ (4 ≤ k → b3 ≠ 32)) := by
  intro r k hd
  unfold Lib.decodeN at hd
  by_cases c0 : b0 < 128
  ·rw [if_pos c0] at hd; cases hd
   refine ⟨by omega, by omega, by omega, fun e => ⟨rfl, e⟩, fun e => ⟨e, by omega, by omega, by omega⟩⟩
  ·rw [if_neg c0] at hd
   by_cases c1 : b0 / 32 = 6 ∧ (1 < s.size - i ∧ b1 / 64 = 2)
   ·rw [if_pos c1] at hd
    split at hd <;> cases hd
    ·refine ⟨by omega, by omega, by omega, by omega, fun e => ⟨by omega, by omega, by omega, by omega⟩⟩
    ·refine ⟨by omega, by omega, by omega, by omega, fun e => ⟨by omega, by omega, by omega, by omega⟩⟩
   ·rw [if_neg c1] at hd
    by_cases c2 : b0 / 16 = 14 ∧ (1 < s.size - i ∧ b1 / 64 = 2) ∧ (2 < s.size - i ∧ b2 / 64 = 2)
    ·rw [if_pos c2] at hd
     split at hd <;> cases hd
     ·refine ⟨by omega, by omega, by omega, by omega, fun e => ⟨by omega, by omega, by omega, by omega⟩⟩
     ·refine ⟨by omega, by omega, by omega, by omega, fun e => ⟨by omega, by omega, by omega, by omega⟩⟩
    ·rw [if_neg c2] at hd
     by_cases c3 : b0 / 8 = 30 ∧ (1 < s.size - i ∧ b1 / 64 = 2) ∧ (2 < s.size - i ∧ b2 / 64 = 2) ∧ (3 < s.size - i ∧ b3 / 64 = 2)
     ·rw [if_pos c3] at hd
      split at hd <;> cases hd
      ·refine ⟨by omega, by omega, by omega, by omega, fun e => ⟨by omega, by omega, by omega, by omega⟩⟩
      ·refine ⟨by omega, by omega, by omega, by omega, fun e => ⟨by omega, by omega, by omega, by omega⟩⟩
     ·rw [if_neg c3] at hd
      cases hd
      refine ⟨by omega, by omega, by omega, by omega, fun e => ⟨by omega, by omega, by omega, by omega⟩⟩
 obtain ⟨a1, a2, a3, a4, a5⟩ := key _ _ rfl
 refine ⟨a1, a2, fun h => ⟨(a4 h).1, k1 (a4 h).2⟩, fun h j j1 j2 hj => ?_⟩
 obtain ⟨q0, q1, q2, q3⟩ := a5 h
 rcases hj4 j _ j1 j2 a3 with rfl | ⟨rfl, hk⟩ | ⟨rfl, hk⟩ | ⟨rfl, hk⟩
 ·exact q0 (k1' hj)
 ·exact q1 hk (k2' hj)
 ·exact q2 hk (k3' hj)
 ·exact q3 hk (k4' hj)
def is32 (n : Nat) : Bool := Nat.beq n 32
theorem spans_wd (s : ByteArray) : ∀ (f pos : Nat) (st : Option Nat) (acc : List (Nat × Nat)), s.size ≤ pos + f → pos ≤ s.size → (∀ a, st = some a → a < pos) →
  ((Lib.closeSpans s (Lib.spansFromP is32 s f pos st acc)).map fun x => s.extract x.1 x.2) = (acc.map fun x => s.extract x.1 x.2) ++ (wd (Lib.openPiece s.data.toList st pos) (s.data.toList.drop pos)).map ofL := by
 intro f
 have hend : ∀ (pos : Nat) (st : Option Nat) (acc : List (Nat × Nat)), pos = s.size → (∀ a, st = some a → a < pos) → ((Lib.closeSpans s (acc, st)).map fun x => s.extract x.1 x.2) = (acc.map fun x => s.extract x.1 x.2) ++ (wd (Lib.openPiece s.data.toList st pos) (s.data.toList.drop pos)).map ofL := by
  intro pos st acc hp hst
  subst hp
  have hd : s.data.toList.drop s.size = [] := List.drop_eq_nil_of_le (by rw [size_len]; exact Nat.le_refl _)
  rw [hd]
  cases st with
  | none => simp [Lib.closeSpans, Lib.openPiece, wd]
  | some a =>
   have := Lib.pieceU_ne s.data.toList a s.size (hst a rfl) (by rw [size_len]; exact Nat.le_refl _)
   simp only [Lib.closeSpans, Lib.openPiece, wd, this, if_false, List.map_append, List.map_cons, List.map_nil, ext_extract]
   rfl
 induction f with
 | zero =>
  intro pos st acc h hp hst
  simp only [Lib.spansFromP]
  exact hend pos st acc (by omega) hst
 | succ f ih =>
  intro pos st acc h hp hst
  by_cases hlt : pos < s.size
  ·obtain ⟨d1, d2, d3, d4⟩ := dec32 s pos hlt
   simp only [Lib.spansFromP, hlt, if_true]
   generalize hk : (Utf8.decode s pos).2 = k at *
   generalize hr : (Utf8.decode s pos).1 = r at *
   have hg := get_list s hlt
   have hdrop : s.data.toList.drop pos = s.get! pos :: s.data.toList.drop (pos + 1) := by
    obtain ⟨hl, he⟩ := List.getElem?_eq_some_iff.1 hg
    rw [List.drop_eq_getElem_cons hl, he]
   by_cases h32 : r = 32
   ·have e32 : is32 r = true := by rw [h32]; rfl
    obtain ⟨rfl, hb⟩ := d3 h32
    simp only [e32, if_true]
    cases st with
    | none =>
     simp only
     rw [ih (pos + 1) none acc (by omega) (by omega) (by intro a ha; cases ha), hdrop, hb]
     simp [Lib.openPiece, wd]
    | some a =>
     have hne := Lib.pieceU_ne s.data.toList a pos (hst a rfl) (by rw [← size_len]; omega)
     simp only
     rw [ih (pos + 1) none (acc ++ [(a, pos)]) (by omega) (by omega) (by intro a ha; cases ha), hdrop, hb]
     simp only [Lib.openPiece, wd, if_true, hne, if_false, List.map_append, List.map_cons, List.map_nil, List.append_assoc, List.singleton_append, ext_extract]
     rfl
   ·have e32 : is32 r = false := by
     cases hb : is32 r with
     | false => rfl
     | true => exact absurd (zN hb) h32
    simp only [e32, Bool.false_eq_true, if_false]
    have hsplit : s.data.toList.drop pos = (s.data.toList.drop pos).take k ++ s.data.toList.drop (pos + k) := by
     rw [← List.drop_drop, List.take_append_drop]
    have hall : ∀ b ∈ (s.data.toList.drop pos).take k, b ≠ 32 := by
     intro b hb
     obtain ⟨j, hj⟩ := List.getElem?_of_mem hb
     rw [List.getElem?_take] at hj
     split at hj
     ·rw [List.getElem?_drop] at hj
      have hlj := (List.getElem?_eq_some_iff.1 hj).1
      rw [get_list s (by rw [size_len]; exact hlj)] at hj
      injection hj with hj
      rw [← hj]
      exact d4 h32 (pos + j) (by omega) (by omega)
     ·cases hj
    have step : wd (Lib.openPiece s.data.toList st pos) (s.data.toList.drop pos) = wd (Lib.openPiece s.data.toList (some (st.getD pos)) (pos + k)) (s.data.toList.drop (pos + k)) := by
     conv => lhs; rw [hsplit]
     rw [wd_skip _ _ _ hall]
     congr 1
     cases st with
     | none => simp [Lib.openPiece, Lib.pieceU]
     | some a => exact Lib.pieceU_grow s.data.toList a pos k (by have := hst a rfl; omega)
    rw [step]
    cases st with
    | none => exact ih (pos + k) (some pos) acc (by omega) (by omega) (by intro a ha; cases ha; omega)
    | some a => exact ih (pos + k) (some a) acc (by omega) (by omega) (by intro b hb; cases hb; have := hst a rfl; omega)
  ·rw [Lib.spansFromP_end _ _ _ _ _ _ hlt]
   exact hend pos st acc (by omega) hst
theorem fieldsC_wd {s : ByteArray} (h : s.size ≤ 4294967296) : fieldsC is32 s = some ((wd [] s.data.toList).map ofL) := by
 unfold fieldsC
 rw [if_pos h]
 unfold Lib.goFieldsP Lib.spansOfP
 rw [spans_wd s s.size 0 none [] (by omega) (by omega) (by intro a ha; cases ha)]
 simp [Lib.openPiece]
theorem wd_len : ∀ (r cur : List UInt8), (wd cur r).length ≤ r.length + 1
 | [], cur => by simp only [wd]; split <;> simp
 | b :: r, cur => by
  simp only [wd]
  have h1 := wd_len r []
  have h2 := wd_len r (cur ++ [b])
  split
  ·split
   ·simp only [zC]; omega
   ·simp only [zC]; omega
  ·simp only [zC]; omega
end Go.K
namespace Go.K
open Go.Sl Go.Sx Go.Proofs
abbrev LF : Nat := 9223372036854775808
theorem iter_go {σ A α ρ : Type} {f : α → Option (α ⊕ ρ)} (mk : Int → A → α) (step : σ → Nat → A → A ⊕ ρ) (good : Nat → A → Prop) (all : List σ) (fin : A → Option ρ) (a : A)
  (h1 : ∀ i x a, all[i]? = some x → good i a → f (mk (i : Nat) a) = some (match step x i a with | .inl a' => .inl (mk ((i + 1 : Nat) : Int) a') | .inr e => .inr e))
  (hg : ∀ i x a a', all[i]? = some x → good i a → step x i a = .inl a' → good (i + 1) a')
  (h2 : ∀ a, good all.length a → f (mk (all.length : Nat) a) = outR (fin a)) (hl : all.length < LF) (h0 : good 0 a) :
  iter LF f (mk 0 a) = match foldS step all 0 a with | .inl a' => fin a' | .inr e => some e := by
 suffices H : ∀ (k i : Nat) (a : A) (lf : Nat), i + k = all.length → k < lf → good i a → iter lf f (mk (i : Nat) a) = match foldS step (all.drop i) i a with | .inl a' => fin a' | .inr e => some e by
  have := H all.length 0 a LF (by omega) hl h0
  simpa using this
 intro k
 induction k with
 | zero =>
  intro i a lf hk hlf hgd
  obtain ⟨lf, rfl⟩ : ∃ n, lf = n + 1 := ⟨lf - 1, by omega⟩
  have hi : i = all.length := by omega
  subst hi
  simp only [iter, h2 a hgd, List.drop_length, foldS]
  cases fin a <;> rfl
 | succ k ih =>
  intro i a lf hk hlf hgd
  obtain ⟨lf, rfl⟩ : ∃ n, lf = n + 1 := ⟨lf - 1, by omega⟩
  have hlt : i < all.length := by omega
  have hx : all[i]? = some all[i] := List.getElem?_eq_getElem hlt
  simp only [iter, h1 i _ a hx hgd]
  rw [List.drop_eq_getElem_cons hlt]
  simp only [foldS]
  cases hs : step all[i] i a with
  | inl a' => exact ih (i + 1) a' lf (by omega) (by omega) (hg i _ a a' hx hgd hs)
  | inr e => rfl
def scan {σ ρ : Type} (g : σ → Nat → Option ρ) : List σ → Nat → Option ρ
 | [], _ => none
 | x :: r, i => match g x i with
  | some e => some e
  | none => scan g r (i + 1)
theorem foldS_scan {σ ρ : Type} (g : σ → Nat → Option ρ) : ∀ (l : List σ) (i : Nat), foldS (fun x i (_ : Unit) => match g x i with | some e => .inr e | none => .inl ()) l i () = match scan g l i with | some e => .inr e | none => .inl ()
 | [], i => rfl
 | x :: l, i => by
  simp only [foldS, scan]
  cases g x i with
  | some e => rfl
  | none => exact foldS_scan g l (i + 1)
theorem iter_scan {σ ρ : Type} {f : Int → Option (Int ⊕ ρ)} (g : σ → Nat → Option ρ) (all : List σ) (fin : Option ρ)
  (h1 : ∀ i x, all[i]? = some x → scan g (all.take i) 0 = none → f ((i : Nat) : Int) = some (match g x i with | some e => .inr e | none => .inl ((i + 1 : Nat) : Int)))
  (h2 : scan g all 0 = none → f ((all.length : Nat) : Int) = outR fin) (hl : all.length < LF) :
  iter LF f 0 = match scan g all 0 with | some e => some e | none => fin := by
 have tk : ∀ (l m : List σ) (i : Nat), scan g (l ++ m) i = match scan g l i with | some e => some e | none => scan g m (i + l.length) := by
  intro l
  induction l with
  | nil => intro m i; simp [scan]
  | cons x l ih =>
   intro m i
   simp only [List.cons_append, scan]
   cases g x i with
   | some e => rfl
   | none => simp only [ih]; rw [show i + 1 + l.length = i + (x :: l).length by simp; omega]
 have key := iter_go (f := f) (fun i (_ : Unit) => i) (fun x i _ => match g x i with | some e => .inr e | none => .inl ()) (fun i _ => scan g (all.take i) 0 = none) all (fun _ => fin) ()
  (fun i x a hx hg => by
   rw [h1 i x hx hg]
   cases g x i <;> rfl)
  (fun i x a a' hx hg hs => by
   have hlt := (List.getElem?_eq_some_iff.1 hx).1
   have hxe := (List.getElem?_eq_some_iff.1 hx).2
   have e1 : all.take (i + 1) = all.take i ++ [x] := by rw [List.take_add_one, hx]; rfl
   rw [e1, tk, hg]
   simp only [scan, List.length_take, Nat.zero_add]
   rw [show min i all.length = i by omega]
   cases h : g x i with
   | some e => rw [h] at hs; cases hs
   | none => rfl)
  (fun a hg => h2 (by simpa using hg)) hl (by simp [scan])
 rw [key, foldS_scan]
 cases scan g all 0 <;> rfl
def foldI {σ A : Type} (g : σ → Nat → A → A) : List σ → Nat → A → A
 | [], _, a => a
 | x :: r, i, a => foldI g r (i + 1) (g x i a)
theorem foldS_foldI {σ A ρ : Type} (g : σ → Nat → A → A) : ∀ (l : List σ) (i : Nat) (a : A), foldS (ρ := ρ) (fun x i a => .inl (g x i a)) l i a = .inl (foldI g l i a)
 | [], _, _ => rfl
 | x :: l, i, a => by simp only [foldS, foldI]; exact foldS_foldI g l (i + 1) _
theorem iter_foldI {σ A α ρ : Type} {f : α → Option (α ⊕ ρ)} (mk : Int → A → α) (g : σ → Nat → A → A) (good : Nat → A → Prop) (all : List σ) (fin : A → Option ρ) (a : A)
  (h1 : ∀ i x a, all[i]? = some x → good i a → f (mk (i : Nat) a) = some (.inl (mk ((i + 1 : Nat) : Int) (g x i a))))
  (hg : ∀ i x a, all[i]? = some x → good i a → good (i + 1) (g x i a))
  (h2 : ∀ a, good all.length a → f (mk (all.length : Nat) a) = outR (fin a)) (hl : all.length < LF) (h0 : good 0 a) :
  iter LF f (mk 0 a) = fin (foldI g all 0 a) := by
 rw [iter_go mk (fun x i a => .inl (g x i a)) good all fin a h1 (fun i x a a' hx hgd hs => by cases hs; exact hg i x a hx hgd) h2 hl h0, foldS_foldI]
theorem foldI_const {σ A : Type} (g : σ → A → A) : ∀ (l : List σ) (i : Nat) (a : A), foldI (fun x _ a => g x a) l i a = l.foldl (fun a x => g x a) a
 | [], _, _ => rfl
 | x :: l, i, a => by simp only [foldI, List.foldl_cons]; exact foldI_const g l (i + 1) _
end Go.K
namespace Go.K
open Go.Sl Go.Sx Go.Proofs
def It (n : Int) : ByteArray := ⟨(Lib.itoa n).toArray⟩
theorem dec_small {u : Nat} (h : u < 10) : Lib.decDigits u = [UInt8.ofNat (48 + u)] := by rw [Lib.decDigits, dif_pos h]
theorem dec_big {u : Nat} (h : ¬ u < 10) : Lib.decDigits u = Lib.decDigits (u / 10) ++ [UInt8.ofNat (48 + u % 10)] := by rw [Lib.decDigits, dif_neg h]
theorem dec_len : ∀ (u : Nat), 1 ≤ (Lib.decDigits u).length ∧ (Lib.decDigits u).length ≤ u + 1 := by
 intro u
 induction u using Nat.strongRecOn with
 | _ u ih =>
  by_cases h : u < 10
  ·rw [dec_small h]; simp
  ·rw [dec_big h]
   have := ih (u / 10) (by omega)
   simp only [List.length_append, List.length_singleton]
   omega
theorem wrap8 {n : Int} (h : 0 ≤ n ∧ n < 256) : Go.IntKind.wrap .u8 n = n := by
 unfold Go.IntKind.wrap
 simp [IntKind.bits, IntKind.signed]
 omega
theorem dig_one {d : Nat} (h : d < 10) : strI [Go.IntKind.wrap .u8 (w64 ((48 : Int) + (d : Int)))] = ⟨[UInt8.ofNat (48 + d)].toArray⟩ := by
 rw [w64_id (by omega) (by omega), wrap8 (by omega)]
 apply ext_data
 rw [strI_data, ofL_data]
 have : ((48 : Int) + (d : Int)).toNat = 48 + d := by omega
 simp [this]
theorem cat_of (a b : List UInt8) (h : a.length + b.length ≤ 9223372036854775807) : catC ⟨a.toArray⟩ ⟨b.toArray⟩ = some () := catC_of (by
 rw [size_len, size_len]; simpa using h)
theorem app_L (a b : List UInt8) : (⟨a.toArray⟩ : ByteArray) ++ ⟨b.toArray⟩ = ⟨(a ++ b).toArray⟩ := by
 apply ext_data; rw [app_data]
theorem bts_size (l : List Nat) : (bts l).size = l.length := by rw [size_len]; simp [bts]
def isD (b : UInt8) : Bool := decide (48 ≤ b.toNat ∧ b.toNat ≤ 57)
def valF (d : List UInt8) (a : Int) : Int := d.foldl (fun n b => 10 * n + ((b.toNat : Int) - 48)) a
def valD (d : List UInt8) : Int := valF d 0
def okD (m : Nat) (d : List UInt8) : Bool := decide (1 ≤ d.length ∧ d.length ≤ m ∧ ¬ (1 < d.length ∧ d.head? = some 48)) && d.all isD
theorem isD_iff {b : UInt8} : isD b = true ↔ 48 ≤ b.toNat ∧ b.toNat ≤ 57 := by unfold isD; simp
theorem byteAt_ofL {l : List UInt8} {i : Nat} {b : UInt8} (h : l[i]? = some b) : byteAt (ofL l) (i : Int) = some ((b.toNat : Nat) : Int) := byteAt_nat (by unfold ofL; rw [ofL_data]; exact h)
theorem byteAt_0 {c : UInt8} {l : List UInt8} : byteAt (ofL (c :: l)) 0 = some ((c.toNat : Nat) : Int) := byteAt_ofL (i := 0) rfl
theorem nat_eq {b : UInt8} {n : Nat} (hn : n < 256) : (((b.toNat : Nat) : Int) = (n : Int)) ↔ b = UInt8.ofNat n := by
 constructor
 ·intro h
  apply UInt8.toNat_inj.1
  rw [UInt8.toNat_ofNat']
  omega
 ·intro h
  subst h
  rw [UInt8.toNat_ofNat']
  omega
theorem b48 {b : UInt8} : (((b.toNat : Nat) : Int) = (48 : Int)) ↔ b = 48 := nat_eq (n := 48) (by omega)
theorem b35 {b : UInt8} : (((b.toNat : Nat) : Int) = (35 : Int)) ↔ b = 35 := nat_eq (n := 35) (by omega)
theorem dig10 (b : UInt8) : (bts [48, 49, 50, 51, 52, 53, 54, 55, 56, 57]).data.toList.contains b = isD b := by
 have : ∀ n : Fin 256, (bts [48, 49, 50, 51, 52, 53, 54, 55, 56, 57]).data.toList.contains (UInt8.ofNat n.val) = isD (UInt8.ofNat n.val) := by decide +kernel
 have h := this ⟨b.toNat, UInt8.toNat_lt b⟩
 simpa using h
theorem dropW_nil {α : Type} {p : α → Bool} : ∀ {l : List α}, l.dropWhile p = [] ↔ l.all p = true
 | [] => by simp
 | x :: l => by
  rw [List.dropWhile_cons, List.all_cons]
  cases h : p x with
  | true => simpa using dropW_nil (p := p) (l := l)
  | false => simp
theorem trimS_nil (l cs : List UInt8) : Lib.trimS l cs = [] ↔ l.all (fun b => cs.contains b) = true := by
 unfold Lib.trimS Lib.trimLeftS Lib.trimRightS
 rw [dropW_nil, List.all_eq_true]
 constructor
 ·intro h
  rw [List.all_eq_true]
  by_cases hd : (l.reverse.dropWhile (cs.contains ·)) = []
  ·rw [dropW_nil, List.all_reverse, List.all_eq_true] at hd
   exact hd
  ·exfalso
   obtain ⟨x, r, hx⟩ := List.exists_cons_of_ne_nil hd
   have h1 := List.head?_dropWhile_not (cs.contains ·) l.reverse
   rw [hx] at h1
   simp only [List.head?_cons] at h1
   have h2 := h x (by rw [hx]; simp)
   simp at h1 h2
   exact h1 h2
 ·intro h x hx
  rw [List.all_eq_true] at h
  have hx' := List.mem_reverse.1 hx
  exact h x (List.mem_reverse.1 ((List.dropWhile_sublist _).mem hx'))
theorem trimC_dig {d : List UInt8} (h : d.length ≤ 9223372036854775807) : ∃ r, trimC (ofL d) (bts [48, 49, 50, 51, 52, 53, 54, 55, 56, 57]) = some r ∧ (ByteArray.toList r == ([] : List UInt8)) = d.all isD := by
 unfold trimC
 rw [if_pos ⟨by rw [ofL_size]; exact h, by decide, by decide +kernel⟩]
 refine ⟨_, rfl, ?_⟩
 rw [eqL', ofL_data]
 have e : (ofL d).data.toList = d := by unfold ofL; rw [ofL_data]
 rw [e]
 have : (fun b => (bts [48, 49, 50, 51, 52, 53, 54, 55, 56, 57]).data.toList.contains b) = isD := funext dig10
 have k := trimS_nil d (bts [48, 49, 50, 51, 52, 53, 54, 55, 56, 57]).data.toList
 rw [this] at k
 cases hD : d.all isD with
 | true => rw [zE (k.2 hD)]
 | false => rw [zD (fun h => by rw [k.1 h] at hD; cases hD)]
theorem parse10 : ∀ (l : List UInt8) (acc : Nat), l.all isD = true → (acc + 1) * 10 ^ l.length ≤ 10 ^ 18 → ∃ u, Lib.parseUint10 acc l = .ok u ∧ (u : Int) = valF l acc ∧ u < 10 ^ 18
 | [], acc, _, h => ⟨acc, rfl, rfl, by simp at h; omega⟩
 | x :: l, acc, hD, h => by
  simp only [List.all_cons, za] at hD
  have hx := isD_iff.1 hD.1
  have hp : 10 ^ (l.length + 1) = 10 ^ l.length * 10 := Nat.pow_succ ..
  simp only [zC, hp] at h
  have h1 : 1 ≤ 10 ^ l.length := Nat.one_le_pow _ _ (by decide)
  have h2 : (acc + 1) * 10 ≤ 10 ^ 18 := by
   calc (acc + 1) * 10 ≤ (acc + 1) * (10 ^ l.length * 10) := Nat.mul_le_mul_left _ (by omega)
    _ ≤ 10 ^ 18 := h
  have h3 : (acc * 10 + (x.toNat - 48) + 1) * 10 ^ l.length ≤ 10 ^ 18 := by
   calc (acc * 10 + (x.toNat - 48) + 1) * 10 ^ l.length ≤ ((acc + 1) * 10) * 10 ^ l.length := Nat.mul_le_mul_right _ (by omega)
    _ = (acc + 1) * (10 ^ l.length * 10) := by rw [Nat.mul_assoc, Nat.mul_comm 10]
    _ ≤ 10 ^ 18 := h
  have h18 : 10 ^ 18 = 1000000000000000000 := by decide
  obtain ⟨u, u1, u2, u3⟩ := parse10 l (acc * 10 + (x.toNat - 48)) hD.2 h3
  refine ⟨u, ?_, ?_, u3⟩
  ·simp only [Lib.parseUint10]
   rw [if_pos hx, if_neg (by omega), if_neg (by omega), u1]
  ·rw [u2]
   simp only [valF, List.foldl_cons]
   congr 1
   omega
theorem atoiC_pos {d : List UInt8} (h : okD 13 d = true) : atoiC (ofL d) = some (valD d) := by
 unfold okD at h
 simp only [za, decide_eq_true_eq] at h
 obtain ⟨⟨h1, h2, _⟩, hD⟩ := h
 obtain ⟨c, r, rfl⟩ := List.exists_cons_of_ne_nil (show d ≠ [] by intro hd; rw [hd] at h1; simp at h1)
 have hp : (0 + 1) * 10 ^ (c :: r).length ≤ 10 ^ 18 := by
  rw [Nat.zero_add, Nat.one_mul]; exact Nat.pow_le_pow_right (by decide) (by omega)
 obtain ⟨u, u1, u2, u3⟩ := parse10 (c :: r) 0 hD hp
 have hc : isD c = true := by simp only [List.all_cons, za] at hD; exact hD.1
 have hx := isD_iff.1 hc
 have eD : (ofL (c :: r)).data.toList = c :: r := by unfold ofL; rw [ofL_data]
 have h18 : 10 ^ 18 = 1000000000000000000 := by decide
 unfold atoiC
 rw [if_pos (by rw [ofL_size]; omega), eD]
 have e1 : ¬ (c.toNat = 43 ∨ c.toNat = 45) := by omega
 have e2 : ¬ c.toNat = 45 := by omega
 have hm : Lib.parseMag (c :: r) = .ok u := by unfold Lib.parseMag; rw [if_neg (by simp), u1]
 have ha : Lib.atoiAll (c :: r) = .ok (u : Int) := by
  unfold Lib.atoiAll
  simp only
  rw [if_neg e1, hm]
  simp only
  rw [if_neg (by omega), if_neg (by omega), if_neg e2]
 rw [ha]
 simp only
 rw [u2]; rfl
theorem dec_all : ∀ u : Nat, ∀ b ∈ Lib.decDigits u, isD b = true := by
 intro u
 induction u using Nat.strongRecOn with
 | _ u ih =>
  intro b hb
  by_cases h : u < 10
  ·rw [dec_small h] at hb
   simp only [List.mem_singleton] at hb
   subst hb
   rw [isD_iff, UInt8.toNat_ofNat']; omega
  ·rw [dec_big h] at hb
   rcases List.mem_append.1 hb with hb | hb
   ·exact ih (u / 10) (by omega) b hb
   ·simp only [List.mem_singleton] at hb
    subst hb
    rw [isD_iff, UInt8.toNat_ofNat']; omega
theorem head_app {α : Type} {a b : List α} (h : a ≠ []) : (a ++ b).head? = a.head? := by
 cases a with
 | nil => exact absurd rfl h
 | cons _ _ => rfl
theorem dec_head : ∀ u : Nat, 1 ≤ u → (Lib.decDigits u).head? ≠ some 48 := by
 intro u
 induction u using Nat.strongRecOn with
 | _ u ih =>
  intro h1
  by_cases h : u < 10
  ·rw [dec_small h]
   intro e
   simp only [List.head?_cons, zI] at e
   have := congrArg UInt8.toNat e
   rw [UInt8.toNat_ofNat'] at this
   have e48 : (48 : UInt8).toNat = 48 := rfl
   omega
  ·rw [dec_big h]
   have hl := (dec_len (u / 10)).1
   rw [head_app (by intro e; rw [e] at hl; simp at hl)]
   exact ih (u / 10) (by omega) (by omega)
theorem dec_len10 : ∀ (k u : Nat), u < 10 ^ (k + 1) → (Lib.decDigits u).length ≤ k + 1
 | k, u, h => by
  by_cases h1 : u < 10
  ·rw [dec_small h1]; simp
  ·cases k with
   | zero => simp at h; omega
   | succ k =>
    rw [dec_big h1]
    have hp : 10 ^ (k + 1 + 1) = 10 ^ (k + 1) * 10 := Nat.pow_succ ..
    have := dec_len10 k (u / 10) (by omega)
    simp; omega
theorem valF_app (a b : List UInt8) (n : Int) : valF (a ++ b) n = valF b (valF a n) := by unfold valF; rw [List.foldl_append]
theorem dec_val : ∀ u : Nat, valD (Lib.decDigits u) = (u : Int) := by
 intro u
 induction u using Nat.strongRecOn with
 | _ u ih =>
  by_cases h : u < 10
  ·rw [dec_small h]
   unfold valD valF
   simp only [List.foldl_cons, List.foldl_nil, UInt8.toNat_ofNat']
   omega
  ·have e := ih (u / 10) (by omega)
   rw [dec_big h]
   unfold valD at e ⊢
   rw [valF_app, e]
   unfold valF
   simp only [List.foldl_cons, List.foldl_nil, UInt8.toNat_ofNat']
   omega
theorem dec_ok {m k u : Nat} (h : u < 10 ^ (k + 1)) (hm : k + 1 ≤ m) : okD m (Lib.decDigits u) = true := by
 unfold okD
 rw [za, decide_eq_true_eq]
 have h1 := (dec_len u).1
 have h2 := dec_len10 k u h
 refine ⟨⟨h1, by omega, fun ⟨k1, k2⟩ => ?_⟩, List.all_eq_true.2 (dec_all u)⟩
 by_cases hu : 1 ≤ u
 ·exact dec_head u hu k2
 ·have : u = 0 := by omega
  subst this
  rw [dec_small (by omega)] at k1
  simp at k1
theorem itoa_neg {n : Int} (h : n < 0) : Lib.itoa n = 45 :: Lib.decDigits n.natAbs := by unfold Lib.itoa; rw [if_pos h]
theorem itoa_pos {n : Int} (h : ¬ n < 0) : Lib.itoa n = Lib.decDigits n.toNat := by unfold Lib.itoa; rw [if_neg h]
theorem itoa_mem {n : Int} {b : UInt8} (h : b ∈ Lib.itoa n) : b = 45 ∨ isD b = true := by
 by_cases hn : n < 0
 ·rw [itoa_neg hn] at h
  rcases List.mem_cons.1 h with h | h
  ·exact .inl h
  ·exact .inr (dec_all _ b h)
 ·rw [itoa_pos hn] at h
  exact .inr (dec_all _ b h)
theorem itoa_no {n : Int} {b c : UInt8} (h : b ∈ Lib.itoa n) (hc : c ≠ 45) (hd : isD c = false) : b ≠ c := by
 rintro rfl
 rcases itoa_mem h with h | h
 ·exact hc h
 ·rw [hd] at h; cases h
theorem itoa_ne (n : Int) : Lib.itoa n ≠ [] := by
 intro e
 by_cases hn : n < 0
 ·rw [itoa_neg hn] at e; cases e
 ·rw [itoa_pos hn] at e
  have := (dec_len n.toNat).1
  rw [e] at this
  simp at this
end Go.K
namespace Go.K
open Go.Sl Go.Sx
variable {e e' : KE} {σ : List Blk} {As L0 L : List Atom} {P : Program} {w : World} {h : Zone}
def bldCon (T : TypeId) : Con where
 run := fun args m k => match args with
  | [.ptr id 0] => match at' m.σ id with
   | some (.cells T' [.nilp id' 0, _]) => bif Nat.beq T' T && Nat.beq id' id then k (.val (.tup [])) ⟨m.σ, (id, 1) :: m.lg⟩ else none
   | _ => none
  | _ => none
structure Bld (P : Program) (T : TypeId) (g : FuncId) : Prop where
 used : ∀ b w, w.cell? ⟨b, 0, none⟩ = some (.pointer (some ⟨b, 0, none⟩)) → Calls P g #[.pointer (some ⟨b, 0, none⟩)] w fun e w' => e = .returned (.tuple #[]) ∧ w' = w
 fresh : ∀ b w, w.cell? ⟨b, 0, none⟩ = some (.pointer none) → w.shape? b = some (T, 2) → w.frozen? ⟨b, 0, none⟩ = false → Calls P g #[.pointer (some ⟨b, 0, none⟩)] w fun e w' => e = .returned (.tuple #[]) ∧ w' = w.setCell ⟨b, 0, none⟩ (.pointer (some ⟨b, 0, none⟩))
theorem bldCon_ok {T : TypeId} {g : FuncId} (hB : Bld P T g) : ConOk P L0 (bldCon T) g := by
 intro ρ args vs m e As w k r hr h1 h2 hl
 simp only [bldCon] at hr
 split at hr
 ·rename_i id
  split at hr
  ·rename_i T' id' c hblk
   cases hb : (Nat.beq T' T && Nat.beq id' id) with
   | false => rw [hb] at hr; cases hr
   | true =>
    rw [hb] at hr
    simp only [zT] at hr
    simp only [za] at hb
    have e1 := zN hb.1
    have e2 := zN hb.2
    subst e1 e2
    obtain ⟨i, A, m1, m2, m3⟩ := h1.get hblk
    cases hl with
    | cons ha hn =>
     cases hn
     cases ha with
     | ptr hi =>
      rw [hi] at m1; cases m1
      cases m3 with
      | cells hc hone =>
       rename_i us
       cases hc with
       | cons hc0 hc1 =>
        cases hc1 with
        | cons hc1 hn =>
         cases hn
         rename_i u v
         have hext : ExtM m ⟨m.σ, (id', 1) :: m.lg⟩ := ⟨[(id', 1)], rfl, Nat.le_refl _, fun h => ⟨_, h, rfl, fun _ _ => rfl⟩, fun h _ _ => h⟩
         obtain ⟨x, hx, hxw, _, hset⟩ := h2.focus (Mem.atom (L0 := L0) m2)
         have hx' : x = Hp.one i.b (.cells [u, v].toArray T' (0, 0)) := hx
         subst hx'
         have hheap : w.heap[i.b]? = some (.cells #[u, v] T' (0, 0)) := Hp.one_le.1 hxw
         have hcell : w.cell? ⟨i.b, 0, none⟩ = some u := by rw [cell_heap hheap]; rfl
         cases hc0 with
         | nil1 hj =>
          rw [hi] at hj; cases hj
          refine Calls.mono (hB.used _ w hcell) ?_
          rintro en w' ⟨rfl, rfl⟩
          exact ⟨_, _, e, As, hr, ⟨_, rfl, .tup (vs := []) .nil⟩, ⟨.rfl, hext, fun hh => absurd hh (by simp)⟩, h1, h2⟩
         | nil0 hj =>
          rw [hi] at hj; cases hj
          refine Calls.mono (hB.fresh _ w hcell (by simp [World.shape?, hheap]) (by simp [World.frozen?, hheap])) ?_
          rintro en w' ⟨rfl, rfl⟩
          have hrow : (w.setCell ⟨i.b, 0, none⟩ (.pointer (some ⟨i.b, 0, none⟩))).heap[i.b]? = some (.cells #[.pointer (some ⟨i.b, 0, none⟩), v] T' (0, 0)) := by
           have := heap_setCell_same w i.b 0 #[.pointer none, v] T' (.pointer (some ⟨i.b, 0, none⟩)) hheap
           simpa using this
          have hst := hset _ (box i.b [.pointer (some ⟨i.b, 0, none⟩), v] T') (Hp.one i.b (.cells #[.pointer (some ⟨i.b, 0, none⟩), v] T' (0, 0))) rfl (Hp.one_le.2 hrow) (fun b hb hn => heap_setCell_other w _ b _ fun e => by subst e; simp [Hp.one] at hn) (fun b o' hb => by
           right
           unfold Hp.one at hb ⊢
           split at hb <;> simp_all) rfl rfl rfl
          rw [setAt_app (at_lt m2)] at hst
          have hm := h1.set (B := .cells T' [.nilp id' 0, c]) (A := box i.b [.pointer (some ⟨i.b, 0, none⟩), v] T') hi (.cells (.cons (.nil1 hi) (.cons hc1 .nil)) (by
           simp only [oneCells, za] at hone ⊢
           exact ⟨rfl, hone.2⟩))
          have es : setAt m.σ id' (.cells T' [.nilp id' 0, c]) = m.σ := by
           unfold setAt; exact list_set_same (at_pos hblk)
          rw [es] at hm
          exact ⟨_, _, e, _, hr, ⟨_, rfl, .tup (vs := []) .nil⟩, ⟨.rfl, hext, fun hh => absurd hh (by simp)⟩, hm, hst⟩
  ·cases hr
 ·cases hr
end Go.K
namespace Go.K
open Go.Sl Go.Sx
variable {e e' e0 : KE} {σ σ' σ1 σ2 : List Blk} {As As0 L0 L A' : List Atom} {P : Program} {w : World} {N : Nat} {ρ : Type} {z z' : Zone} {E : Env}
inductive CK where
 | d (u : TC) | o (u : TC) (E : TypeId)
abbrev ckT : List CK → Type
 | [] => Unit
 | .d u :: r => u.den × ckT r
 | .o u _ :: r => List u.den × ckT r
def CellsR (z : Zone) : (l : List CK) → ckT l → List Value → List Atom → Prop
 | [], _, vs, Os => vs = [] ∧ Os = []
 | .d u :: l, x, vs, Os => ∃ v vs', vs = v :: vs' ∧ u.ty.rep z [v] x.1 ∧ CellsR z l x.2 vs' Os
 | .o u E :: l, x, vs, Os => ∃ o c vs' Os', vs = .slice o x.1.length c :: vs' ∧ Os = ownS u.ty E o c x.1 :: Os' ∧ CellsR z l x.2 vs' Os'
theorem CellsR.mono (h : z.le z') : ∀ {l : List CK} {x : ckT l} {vs : List Value} {Os : List Atom}, CellsR z l x vs Os → CellsR z' l x vs Os
 | [], _, _, _, k => k
 | .d u :: l, x, _, _, ⟨v, vs', h1, h2, h3⟩ => ⟨v, vs', h1, Ty.mono _ h h2, h3.mono h⟩
 | .o u E :: l, x, _, _, ⟨o, c, vs', Os', h1, h2, h3⟩ => ⟨o, c, vs', Os', h1, h2, h3.mono h⟩
theorem CellsR.one : ∀ {l : List CK} {x : ckT l} {vs : List Value} {Os : List Atom}, CellsR z l x vs Os → oneCells vs = true
 | [], _, _, _, ⟨h, _⟩ => by subst h; rfl
 | .d u :: l, x, _, _, ⟨v, vs', h1, h2, h3⟩ => by
  subst h1
  simp only [oneCells, za]
  exact ⟨u.ty.one h2 v (by simp), h3.one⟩
 | .o u E :: l, x, _, _, ⟨o, c, vs', Os', h1, h2, h3⟩ => by
  subst h1
  simp only [oneCells, za]
  exact ⟨rfl, h3.one⟩
theorem CellsR.len : ∀ {l : List CK} {x : ckT l} {vs : List Value} {Os : List Atom}, CellsR z l x vs Os → vs.length = l.length
 | [], _, _, _, ⟨h, _⟩ => by subst h; rfl
 | .d u :: l, x, _, _, ⟨v, vs', h1, h2, h3⟩ => by subst h1; simp [h3.len]
 | .o u E :: l, x, _, _, ⟨o, c, vs', Os', h1, h2, h3⟩ => by subst h1; simp [h3.len]
def endR (z : Zone) (L : List Atom) (w : World) (b : Nat) (T : TypeId) (n : Nat) (cks : List CK) (rs : List AT) (pT : TypeId) (u : AT) : (ckT cks × tt rs) ⊕ u.2.den → Ending → Prop
 | .inl y, en => ∃ cv Os, CellsR z cks y.1 cv Os ∧ St z (box b cv T :: (Os ++ L)) w ∧ ∃ v, en = .returned v ∧ repR z rs v y.2
 | .inr p, en => ∃ cv, cv.length = n ∧ oneCells cv = true ∧ St z (box b cv T :: L) w ∧ ∃ v, en = .panicked (pch (.iface pT v)) ∧ repA z u v p
end Go.K
namespace Go.K
open Go.Sl Go.Sx Go.Proofs
def isSp (n : Nat) : Bool := Nat.beq n 32
noncomputable def CT (P : Program) (lf : Nat) : FuncId → Option Con :=
 extC (extC (extC (extC (extC (extC (extC (fun _ => none) 60 (dataCon [aI] [aS] itoaC)) 50 (dataCon [aS, aS] [aS] fun x => trimC x.1 x.2))
  19 (dataCon [aS, aS] [aSs] fun x => splitC x.1 x.2)) 51 atoiCon) 20 (fieldsCon 21 isSp)) 84 (bldCon 73)) 5 (dataCon [] [aB] fun _ => some true)
end Go.K
set_option maxRecDepth 100000
set_option maxHeartbeats 0
namespace Go.K
noncomputable section
open Go.Sl Go.Sx Go.Proofs
def S48 : FuncId → Sp := fun _ => {}
def F48 (P : Program) (lf : Nat) (x : tt [(false, .i), (false, .i), (false, .i)]) : Option (tt [(false, .bool)]) := fnF P (CT P lf) S48 48 [(false, .i), (false, .i), (false, .i)] [(false, .bool)] lf x
def C48 (P : Program) (lf : Nat) : FuncId → Option Con := extC (CT P lf) 48 (dataCon [(false, .i), (false, .i), (false, .i)] [(false, .bool)] (F48 P lf))
def S17 : FuncId → Sp := fun g => match g with
 | 17 => { joins := [(2, [(.slot 24, .dat .bool)])] }
 | _ => {}
def F17 (P : Program) (lf : Nat) (x : tt [(true, (.pair .i (.pair .i (.pair .i .i))))]) : Option (tt [(false, .i)]) := fnF P (C48 P lf) S17 17 [(true, (.pair .i (.pair .i (.pair .i .i))))] [(false, .i)] lf x
def C17 (P : Program) (lf : Nat) : FuncId → Option Con := extC (C48 P lf) 17 (dataCon [(true, (.pair .i (.pair .i (.pair .i .i))))] [(false, .i)] (F17 P lf))
def S52 : FuncId → Sp := fun g => match g with
 | 52 => { joins := [(7, [(.slot 32, .dat .bool)])], loops := [(4, [(.slot 10, .dat .i)])] }
 | _ => {}
def F52 (P : Program) (lf : Nat) (x : tt [(false, Yp)]) : Option (tt [(false, .i)]) := fnF P (C17 P lf) S52 52 [(false, Yp)] [(false, .i)] lf x
def C52 (P : Program) (lf : Nat) : FuncId → Option Con := extC (C17 P lf) 52 (dataCon [(false, Yp)] [(false, .i)] (F52 P lf))
def S37 : FuncId → Sp := fun g => match g with
 | 37 => { joins := [(8, [(.slot 43, .dat .bool)])], loops := [(5, [(.slot 3, .dat .i), (.slot 13, .dat .i)])] }
 | _ => {}
def F37 (P : Program) (lf : Nat) (x : tt [(true, (.sl (.pair .i .i)))]) : Option (tt [(false, .bool)]) := fnF P (C52 P lf) S37 37 [(true, (.sl (.pair .i .i)))] [(false, .bool)] lf x
def C37 (P : Program) (lf : Nat) : FuncId → Option Con := extC (C52 P lf) 37 (dataCon [(true, (.sl (.pair .i .i)))] [(false, .bool)] (F37 P lf))
def S38 : FuncId → Sp := fun g => match g with
 | 38 => { loops := [(3, [(.slot 3, .dat .i), (.slot 9, .dat .i)])] }
 | _ => {}
def F38 (P : Program) (lf : Nat) (x : tt [(true, (.sl (.pair .i .i)))]) : Option (tt [(false, .i)]) := fnF P (C37 P lf) S38 38 [(true, (.sl (.pair .i .i)))] [(false, .i)] lf x
def C38 (P : Program) (lf : Nat) : FuncId → Option Con := extC (C37 P lf) 38 (dataCon [(true, (.sl (.pair .i .i)))] [(false, .i)] (F38 P lf))
def S41 : FuncId → Sp := fun g => match g with
 | 41 => { loops := [(3, [(.slot 3, .dat .i), (.slot 8, .dat .i)])] }
 | _ => {}
def F41 (P : Program) (lf : Nat) (x : tt [(false, Yq)]) : Option (tt [(false, .i)]) := fnF P (C38 P lf) S41 41 [(false, Yq)] [(false, .i)] lf x
def C41 (P : Program) (lf : Nat) : FuncId → Option Con := extC (C38 P lf) 41 (dataCon [(false, Yq)] [(false, .i)] (F41 P lf))
def S23 : FuncId → Sp := fun _ => {}
def F23 (P : Program) (lf : Nat) (x : tt [(false, .i)]) : Option (tt [(false, .bool)]) := fnF P (C41 P lf) S23 23 [(false, .i)] [(false, .bool)] lf x
def C23 (P : Program) (lf : Nat) : FuncId → Option Con := extC (C41 P lf) 23 (dataCon [(false, .i)] [(false, .bool)] (F23 P lf))
def S22 : FuncId → Sp := fun g => match g with
 | 22 => { joins := [(6, [(.slot 32, .dat .bool)])], loops := [(3, [(.slot 5, .own .i 3), (.slot 12, .dat .i)])] }
 | _ => {}
def F22 (P : Program) (lf : Nat) (x : tt [(false, (.sl .str)), (false, .i)]) : Option (tt [(false, (.sl .i))] ⊕ ((true, .i) : AT).2.den) := fnP P (C23 P lf) S22 22 [(false, (.sl .str)), (false, .i)] [(false, (.sl .i))] 57 (true, .i) lf x
def C22 (P : Program) (lf : Nat) : FuncId → Option Con := extC (C23 P lf) 22 (panCon [(false, (.sl .str)), (false, .i)] [(false, (.sl .i))] 57 (true, .i) (F22 P lf))
end
end Go.K
namespace Go.K
noncomputable section
open Go.Sl Go.Sx Go.Proofs
def G48 (lf : Nat) (x : (Int × (Int × Int))) : Option (Bool) :=
 cond (decide (x.2.1 ≤ x.1)) (some (decide (x.1 ≤ x.2.2))) (some false)
theorem F48_G (lf : Nat) (x : (Int × (Int × Int))) : F48 Tryz.prog lf x = G48 lf x := by
 obtain ⟨_, ⟨_, _⟩⟩ := x
 unfold G48
 kernel_rfl
def G17 (lf : Nat) (x : (Int × (Int × (Int × Int)))) : Option (Int) :=
 jn (((G48 lf (x.1, ((1 : Int), (9999 : Int))))).bind fun r9 => cond (!r9) (some (.inl true)) (((G48 lf (x.2.1, ((1 : Int), (9 : Int))))).bind fun r10 => cond (!r10) (some (.inl true)) (((G48 lf (x.2.2.1, ((1 : Int), (9 : Int))))).bind fun r11 => cond (!r11) (some (.inl true)) (((G48 lf (x.2.2.2, ((0 : Int), (10000 : Int))))).bind fun r12 => some (.inl (!r12)))))) (fun y13 : Bool => cond y13 (some (60 : Int)) (some (0 : Int)))
theorem F17_G (lf : Nat) (x : (Int × (Int × (Int × Int)))) : F17 Tryz.prog lf x = G17 lf x := by
 obtain ⟨_, ⟨_, ⟨_, _⟩⟩⟩ := x
 unfold G17
 (try simp only [← F48_G lf])
 kernel_rfl
def G52 (lf : Nat) (x : Yt) : Option (Int) :=
 cond (decide ((x.length : Int) > (40 : Int))) (some (60 : Int)) (iter lf (fun y6 : Int => cond (decide (y6 < (x.length : Int))) (((getI x y6)).bind fun r7 => jn (((G17 lf (r7.1, (r7.2.1, (r7.2.2.1, r7.2.2.2))))).bind fun r8 => cond (!(decide (r8 = (0 : Int)))) (some (.inl true)) (cond (decide (y6 > (0 : Int))) (((getI x (w64 (y6 - (1 : Int))))).bind fun r9 => some (.inl (decide (r9.1 ≥ r7.1)))) (some (.inl false)))) (fun y10 : Bool => cond y10 (some (.inr (60 : Int))) (some (.inl (w64 (y6 + (1 : Int))))))) (some (.inr (0 : Int)))) (0 : Int))
theorem F52_G (lf : Nat) (x : Yt) : F52 Tryz.prog lf x = G52 lf x := by
 unfold G52
 (try simp only [← F17_G lf])
 kernel_rfl
def G37 (lf : Nat) (x : (List (Int × Int))) : Option (Bool) :=
 cond (decide ((x.length : Int) > (40 : Int))) (some false) (iter lf (fun y8 : (Int × Int) => cond (decide (y8.2 < (x.length : Int))) (((getI x y8.2)).bind fun r9 => jn (((G48 lf (r9.1, ((1 : Int), (9999 : Int))))).bind fun r10 => cond (!r10) (some (.inl true)) (((G48 lf (r9.2, ((1 : Int), (100000000 : Int))))).bind fun r11 => cond (!r11) (some (.inl true)) (cond (decide (y8.2 > (0 : Int))) (((getI x (w64 (y8.2 - (1 : Int))))).bind fun r12 => some (.inl (decide (r12.1 ≥ r9.1)))) (some (.inl false))))) (fun y13 : Bool => cond y13 (some (.inr false)) (some (.inl ((w64 (y8.1 + r9.2)), (w64 (y8.2 + (1 : Int)))))))) (some (.inr (decide (y8.1 ≤ (100000000 : Int)))))) ((0 : Int), (0 : Int)))
theorem F37_G (lf : Nat) (x : (List (Int × Int))) : F37 Tryz.prog lf x = G37 lf x := by
 unfold G37
 (try simp only [← F48_G lf])
 kernel_rfl
def G38 (lf : Nat) (x : (List (Int × Int))) : Option (Int) :=
 iter lf (fun y4 : (Int × Int) => cond (decide (y4.2 < (x.length : Int))) (((getI x y4.2)).bind fun r5 => some (.inl ((w64 (y4.1 + r5.2)), (w64 (y4.2 + (1 : Int)))))) (some (.inr y4.1))) ((0 : Int), (0 : Int))
theorem F38_G (lf : Nat) (x : (List (Int × Int))) : F38 Tryz.prog lf x = G38 lf x := by
 unfold G38
 kernel_rfl
def G41 (lf : Nat) (x : Yr) : Option (Int) :=
 iter lf (fun y5 : (Int × Int) => cond (decide (y5.2 < (x.length : Int))) (((getI x y5.2)).bind fun r6 => ((G38 lf r6)).bind fun r7 => some (.inl ((w64 (y5.1 + r7)), (w64 (y5.2 + (1 : Int)))))) (some (.inr y5.1))) ((0 : Int), (0 : Int))
theorem F41_G (lf : Nat) (x : Yr) : F41 Tryz.prog lf x = G41 lf x := by
 unfold G41
 (try simp only [← F38_G lf])
 kernel_rfl
def G23 (lf : Nat) (x : Int) : Option (Bool) :=
 ((G48 lf (x, ((0 : Int), (8 : Int))))).bind fun r2 => some r2
theorem F23_G (lf : Nat) (x : Int) : F23 Tryz.prog lf x = G23 lf x := by
 unfold G23
 (try simp only [← F48_G lf])
 kernel_rfl
def G22 (lf : Nat) (x : ((List ByteArray) × Int)) : Option ((List Int) ⊕ Int) :=
 iter lf (fun y11 : ((List Int) × Int) => cond (decide (y11.2 < (x.1.length : Int))) (((getI x.1 y11.2)).bind fun r12 => jn (cond (decide ((r12.size : Int) > (9 : Int))) (some (.inl true)) (((byteAt r12 (0 : Int))).bind fun r13 => cond (decide (r13 = (48 : Int))) (cond (!(r12.data.toList == [(UInt8.ofNat 48)])) (some (.inl true)) (((trimC r12 (bts [48, 49, 50, 51, 52, 53, 54, 55, 56, 57]))).bind fun r14 => some (.inl (!(r14.data.toList == ([] : List UInt8)))))) (((trimC r12 (bts [48, 49, 50, 51, 52, 53, 54, 55, 56, 57]))).bind fun r15 => some (.inl (!(r15.data.toList == ([] : List UInt8))))))) (fun y16 : Bool => cond y16 (some (.inr (.inr x.2))) (((atoiC r12)).bind fun r17 => ((appC y11.1 [r17])).bind fun r18 => some (.inl (r18, (w64 (y11.2 + (1 : Int)))))))) (some (.inr (.inl y11.1)))) (([] : List Int), (0 : Int))
theorem F22_G (lf : Nat) (x : ((List ByteArray) × Int)) : F22 Tryz.prog lf x = G22 lf x := by
 obtain ⟨_, _⟩ := x
 unfold G22
 (try simp only [← Lib.toList_data])
 kernel_rfl
end
end Go.K
namespace Go.K
noncomputable section
open Go.Sl Go.Sx Go.Proofs
def S42 : FuncId → Sp := fun g => match g with
 | 66 => { joins := [(6, [(.slot 31, .dat .bool)])], loops := [(3, [(.slot 9, .dat .i), (.slot 10, .dat .i)])] }
 | _ => {}
def F42 (P : Program) (lf : Nat) (x : tt [(false, Yp), (false, .i)]) : Option (tt [(false, .i), (false, .bool)]) := fnF P (C22 P lf) S42 42 [(false, Yp), (false, .i)] [(false, .i), (false, .bool)] lf x
def C42 (P : Program) (lf : Nat) : FuncId → Option Con := extC (C22 P lf) 42 (dataCon [(false, Yp), (false, .i)] [(false, .i), (false, .bool)] (F42 P lf))
def S24 : FuncId → Sp := fun g => match g with
 | 24 => { joins := [(12, [(.slot 37, .dat .bool)]), (6, [(.slot 4, .dat Yq)])], loops := [(14, [(.slot 41, .dat .i)]), (9, [(.slot 25, .dat .i)]), (4, [(.slot 17, .dat .i)])] }
 | _ => {}
def F24 (P : Program) (lf : Nat) (x : tt [(true, Yu)]) : Option (tt [(false, .i)]) := fnF P (C42 P lf) S24 24 [(true, Yu)] [(false, .i)] lf x
def C24 (P : Program) (lf : Nat) : FuncId → Option Con := extC (C42 P lf) 24 (dataCon [(true, Yu)] [(false, .i)] (F24 P lf))
def S9 : FuncId → Sp := fun g => match g with
 | 31 => { loops := [(2, [(.slot 13, .dat .i), (.cell 0 1, .own (.int .u8) 5)])] }
 | 9 => { joins := [(13, [(.slot 8, .dat .i), (.slot 9, .dat Yq)])], loops := [(18, [(.slot 12, .own .i 3), (.slot 55, .dat .i)]), (14, [(.slot 46, .dat .i), (.cell 5 1, .own (.int .u8) 5)]), (11, [(.slot 40, .dat .i), (.cell 5 1, .own (.int .u8) 5)]), (6, [(.slot 23, .dat .i), (.cell 5 1, .own (.int .u8) 5)])] }
 | _ => {}
def F9 (P : Program) (lf : Nat) (x : tt [(true, Yu)]) : Option (tt [(false, .str), (false, .i)]) := fnF P (C24 P lf) S9 9 [(true, Yu)] [(false, .str), (false, .i)] lf x
def C9 (P : Program) (lf : Nat) : FuncId → Option Con := extC (C24 P lf) 9 (dataCon [(true, Yu)] [(false, .str), (false, .i)] (F9 P lf))
end
end Go.K
namespace Go.K
open Go.Sl Go.Sx Go.Proofs
noncomputable def G42 (lf : Nat) (x : (Yt × Int)) : Option ((Int × Bool)) :=
 iter lf (fun y7 : (Int × Int) => cond (decide (y7.1 < y7.2)) (jn (((getI x.1 (w64 (Int.fdiv (Go.IntKind.wrap .u64 (w64 (y7.1 + y7.2))) (2 : Int))))).bind fun r8 => cond (!(decide (r8.1 = r8.1))) (cond (!(decide (x.2 = x.2))) (some (.inl false)) (some (.inl true))) (cond (!(decide (x.2 = x.2))) (some (.inl false)) (cond (decide (r8.1 < x.2)) (some (.inl true)) (cond (decide (r8.1 > x.2)) (some (.inl false)) (some (.inl false)))))) (fun y9 : Bool => cond y9 (some (.inl ((w64 ((w64 (Int.fdiv (Go.IntKind.wrap .u64 (w64 (y7.1 + y7.2))) (2 : Int))) + (1 : Int))), y7.2))) (some (.inl (y7.1, (w64 (Int.fdiv (Go.IntKind.wrap .u64 (w64 (y7.1 + y7.2))) (2 : Int)))))))) (outR (cond (decide (y7.1 < (x.1.length : Int))) (((getI x.1 y7.1)).bind fun r10 => cond (!(decide (r10.1 = r10.1))) (cond (!(decide (x.2 = x.2))) (some (y7.1, true)) (some (y7.1, false))) (cond (!(decide (x.2 = x.2))) (some (y7.1, false)) (cond (decide (r10.1 < x.2)) (some (y7.1, false)) (cond (decide (r10.1 > x.2)) (some (y7.1, false)) (some (y7.1, true)))))) (some (y7.1, false))))) ((0 : Int), (x.1.length : Int))
theorem F42_G (lf : Nat) (x : (Yt × Int)) : F42 Tryz.prog lf x = G42 lf x := by
 obtain ⟨_, _⟩ := x
 unfold G42
 kernel_rfl
noncomputable def G24 (lf : Nat) (x : Ys) : Option (Int) :=
 ((G52 lf x.1)).bind fun r21 => cond (!(decide (r21 = (0 : Int)))) (some (62 : Int)) (iter lf (fun y22 : Int => cond (decide (y22 < (9 : Int))) (jn (cond (decide (y22 = (0 : Int))) (some (.inl x.2.1)) (cond (decide (y22 = (1 : Int))) (some (.inl x.2.2.1)) (cond (decide (y22 = (2 : Int))) (some (.inl x.2.2.2.1)) (cond (decide (y22 = (3 : Int))) (some (.inl x.2.2.2.2.1)) (cond (decide (y22 = (4 : Int))) (some (.inl x.2.2.2.2.2.1)) (cond (decide (y22 = (5 : Int))) (some (.inl x.2.2.2.2.2.2.1)) (cond (decide (y22 = (6 : Int))) (some (.inl x.2.2.2.2.2.2.2.1)) (cond (decide (y22 = (7 : Int))) (some (.inl x.2.2.2.2.2.2.2.2.1)) (cond (decide (y22 = (8 : Int))) (some (.inl x.2.2.2.2.2.2.2.2.2)) ((outI))))))))))) (fun y23 : Yr => cond (decide ((y23.length : Int) > (4 : Int))) (some (.inr (62 : Int))) (iter lf (fun y24 : Int => cond (decide (y24 < (y23.length : Int))) (((getI y23 y24)).bind fun r25 => jn (((G37 lf r25)).bind fun r26 => cond (!r26) (some (.inl true)) (some (.inl (decide ((r25.length : Int) = (0 : Int)))))) (fun y27 : Bool => cond y27 (some (.inr (.inr (62 : Int)))) (iter lf (fun y28 : Int => cond (decide (y28 < (r25.length : Int))) (((getI r25 y28)).bind fun r29 => ((G42 lf (x.1, r29.1))).bind fun r30 => cond (!r30.2) (some (.inr (.inr (.inr (62 : Int))))) (some (.inl (w64 (y28 + (1 : Int)))))) (some (.inr (.inl (w64 (y24 + (1 : Int))))))) (0 : Int)))) (outR (((G41 lf y23)).bind fun r31 => cond (decide (r31 > (100000000 : Int))) (some (.inr (62 : Int))) (some (.inl (w64 (y22 + (1 : Int)))))))) (0 : Int)))) (some (.inr (0 : Int)))) (0 : Int))
theorem F24_G (lf : Nat) (x : Ys) : F24 Tryz.prog lf x = G24 lf x := by
 obtain ⟨_, ⟨_, ⟨_, ⟨_, ⟨_, ⟨_, ⟨_, ⟨_, ⟨_, _⟩⟩⟩⟩⟩⟩⟩⟩⟩ := x
 unfold G24
 (try simp only [← F37_G lf, ← F41_G lf, ← F42_G lf, ← F52_G lf])
 kernel_rfl
noncomputable def G9 (lf : Nat) (x : Ys) : Option ((ByteArray × Int)) :=
 ((G24 lf (x.1, (x.2.1, (x.2.2.1, (x.2.2.2.1, (x.2.2.2.2.1, (x.2.2.2.2.2.1, (x.2.2.2.2.2.2.1, (x.2.2.2.2.2.2.2.1, (x.2.2.2.2.2.2.2.2.1, x.2.2.2.2.2.2.2.2.2))))))))))).bind fun r97 => cond (!(decide (r97 = (0 : Int)))) (some ((bts []), r97)) (iter lf (fun y98 : (Int × (List Int)) => cond (decide (y98.1 < (x.1.length : Int))) (((getI x.1 y98.1)).bind fun r99 => ((appC y98.2 [(108 : Int), (111 : Int), (116 : Int)])).bind fun r100 => iter lf (fun y101 : (Int × (List Int)) => cond (decide (y101.1 < ([r99.1, r99.2.1, r99.2.2.1, r99.2.2.2].length : Int))) (((getI [r99.1, r99.2.1, r99.2.2.1, r99.2.2.2] y101.1)).bind fun r102 => ((getI [r99.1, r99.2.1, r99.2.2.1, r99.2.2.2] y101.1)).bind fun r103 => ((itoaC r103)).bind fun r104 => ((catC (bts [32]) r104)).bind fun r105 => ((appC y101.2 (bytesI ((bts [32]) ++ r104)))).bind fun r106 => some (.inl ((w64 (y101.1 + (1 : Int))), r106))) (outR (((appC y101.2 [(10 : Int)])).bind fun r107 => some (.inl ((w64 (y98.1 + (1 : Int))), r107))))) ((0 : Int), r100)) (outR (iter lf (fun y108 : (Int × (List Int)) => cond (decide (y108.1 < (9 : Int))) (jn (cond (decide (y108.1 = (0 : Int))) (some (.inl (y108.1, x.2.1))) (cond (decide (y108.1 = (1 : Int))) (some (.inl (y108.1, x.2.2.1))) (cond (decide (y108.1 = (2 : Int))) (some (.inl (y108.1, x.2.2.2.1))) (cond (decide (y108.1 = (3 : Int))) (some (.inl (y108.1, x.2.2.2.2.1))) (cond (decide (y108.1 = (4 : Int))) (some (.inl (y108.1, x.2.2.2.2.2.1))) (cond (decide (y108.1 = (5 : Int))) (some (.inl (y108.1, x.2.2.2.2.2.2.1))) (cond (decide (y108.1 = (6 : Int))) (some (.inl (y108.1, x.2.2.2.2.2.2.2.1))) (cond (decide (y108.1 = (7 : Int))) (some (.inl (y108.1, x.2.2.2.2.2.2.2.2.1))) (cond (decide (y108.1 = (8 : Int))) (some (.inl (y108.1, x.2.2.2.2.2.2.2.2.2))) ((outI))))))))))) (fun y109 : (Int × Yr) => iter lf (fun y110 : (Int × (List Int)) => cond (decide (y110.1 < (y109.2.length : Int))) (((getI y109.2 y110.1)).bind fun r111 => iter lf (fun y112 : ((List Int) × Int) => cond (decide (y112.2 < (r111.length : Int))) (((getI r111 y112.2)).bind fun r113 => ((appC y112.1 [r113.1, r113.2])).bind fun r114 => some (.inl (r114, (w64 (y112.2 + (1 : Int)))))) (outR (((appC y110.2 [(104 : Int), (101 : Int), (97 : Int), (112 : Int)])).bind fun r115 => iter lf (fun y116 : (Int × (List Int)) => cond (decide (y116.1 < (y112.1.length : Int))) (((getI y112.1 y116.1)).bind fun r117 => ((getI y112.1 y116.1)).bind fun r118 => ((itoaC r118)).bind fun r119 => ((catC (bts [32]) r119)).bind fun r120 => ((appC y116.2 (bytesI ((bts [32]) ++ r119)))).bind fun r121 => some (.inl ((w64 (y116.1 + (1 : Int))), r121))) (outR (((appC y116.2 [(10 : Int)])).bind fun r122 => some (.inl ((w64 (y110.1 + (1 : Int))), r122))))) ((0 : Int), r115)))) ([y109.1], (0 : Int))) (some (.inr (.inl ((w64 (y108.1 + (1 : Int))), y110.2))))) ((0 : Int), y108.2))) (outR (cond (emp0 y108.2) (((lenC (y108.2.length : Int) ([] : List Int))).bind fun r123 => some ((bts []), (0 : Int))) (((getI y108.2 (0 : Int))).bind fun r124 => ((getI y108.2 (0 : Int))).bind fun r125 => ((lenC (y108.2.length : Int) y108.2)).bind fun r126 => some ((strI y108.2), (0 : Int)))))) ((0 : Int), y98.2)))) ((0 : Int), ([] : List Int)))
theorem F9_G (lf : Nat) (x : Ys) : F9 Tryz.prog lf x = G9 lf x := by
 obtain ⟨_, ⟨_, ⟨_, ⟨_, ⟨_, ⟨_, ⟨_, ⟨_, ⟨_, _⟩⟩⟩⟩⟩⟩⟩⟩⟩ := x
 unfold G9
 (try simp only [← F24_G lf])
 kernel_rfl
end Go.K
namespace Go.K
open Go.Sl Go.Sx Go.Proofs
def S6 : FuncId → Sp := fun g => match g with
 | 6 => { joins := [(21, [(.cell 5 0, .own (.pair .i (.pair .i (.pair .i .i))) 55), (.cell 5 1, .own (.sl (.pair .i .i)) 42), (.cell 5 2, .own (.sl (.pair .i .i)) 42), (.cell 5 3, .own (.sl (.pair .i .i)) 42), (.cell 5 4, .own (.sl (.pair .i .i)) 42), (.cell 5 5, .own (.sl (.pair .i .i)) 42), (.cell 5 6, .own (.sl (.pair .i .i)) 42), (.cell 5 7, .own (.sl (.pair .i .i)) 42), (.cell 5 8, .own (.sl (.pair .i .i)) 42), (.cell 5 9, .own (.sl (.pair .i .i)) 42)]), (15, [(.slot 72, .dat .bool)]), (13, [(.slot 44, .dat .bool)])], loops := [(17, [(.slot 11, .dat .i), (.cell 10 0, .own (.pair .i .i) 46)]), (6, [(.slot 21, .dat .i), (.cell 5 0, .own (.pair .i (.pair .i (.pair .i .i))) 55), (.cell 5 1, .own (.sl (.pair .i .i)) 42), (.cell 5 2, .own (.sl (.pair .i .i)) 42), (.cell 5 3, .own (.sl (.pair .i .i)) 42), (.cell 5 4, .own (.sl (.pair .i .i)) 42), (.cell 5 5, .own (.sl (.pair .i .i)) 42), (.cell 5 6, .own (.sl (.pair .i .i)) 42), (.cell 5 7, .own (.sl (.pair .i .i)) 42), (.cell 5 8, .own (.sl (.pair .i .i)) 42), (.cell 5 9, .own (.sl (.pair .i .i)) 42)])], fz := [(20, [(.cell 10 0, .dat (.sl (.pair .i .i)))])] }
 | _ => {}
noncomputable def F6 (P : Program) (lf : Nat) (x : tt [(false, .str)]) : Option (tt [(true, Yu), (false, .i), (false, .i)]) := fnF P (C9 P lf) S6 6 [(false, .str)] [(true, Yu), (false, .i), (false, .i)] lf x
noncomputable def C6 (P : Program) (lf : Nat) : FuncId → Option Con := extC (C9 P lf) 6 (dataCon [(false, .str)] [(true, Yu), (false, .i), (false, .i)] (F6 P lf))
end Go.K
namespace Go.K
open Go.Sl Go.Sx Go.Proofs
noncomputable def ag {ρ : Type} (a : Option ρ) : Option ρ := agree a a
theorem ag_self {ρ : Type} (a : Option ρ) : ag a = a := agree_self a
noncomputable def ar {ρ : Type} (a : Option ρ) : Option ρ := agree a (ag a)
theorem ar_self {ρ : Type} (a : Option ρ) : ar a = a := by unfold ar; rw [ag_self, agree_self]
noncomputable def G6 (lf : Nat) (x : ByteArray) : Option ((Ys × (Int × Int))) :=
 cond (decide ((x.size : Int) > (40000 : Int))) (some ((([] : List (Int × (Int × (Int × Int)))), (([] : List (List (Int × Int))), (([] : List (List (Int × Int))), (([] : List (List (Int × Int))), (([] : List (List (Int × Int))), (([] : List (List (Int × Int))), (([] : List (List (Int × Int))), (([] : List (List (Int × Int))), (([] : List (List (Int × Int))), ([] : List (List (Int × Int)))))))))))), ((0 : Int), (2 : Int)))) (((splitC x (bts [10]))).bind fun r143 => iter lf (fun y144 : (Int × Ys) => cond (decide (y144.1 < (r143.length : Int))) (jn (((getI r143 y144.1)).bind fun r145 => ((fieldsC (fun y146 : Nat => (isSp y146)) r145)).bind fun r147 => cond (decide ((r147.length : Int) = (0 : Int))) (some (.inl (y144.2.1, (y144.2.2.1, (y144.2.2.2.1, (y144.2.2.2.2.1, (y144.2.2.2.2.2.1, (y144.2.2.2.2.2.2.1, (y144.2.2.2.2.2.2.2.1, (y144.2.2.2.2.2.2.2.2.1, (y144.2.2.2.2.2.2.2.2.2.1, y144.2.2.2.2.2.2.2.2.2.2))))))))))) (((byteAt r145 (0 : Int))).bind fun r148 => cond (decide (r148 = (35 : Int))) (some (.inl (y144.2.1, (y144.2.2.1, (y144.2.2.2.1, (y144.2.2.2.2.1, (y144.2.2.2.2.2.1, (y144.2.2.2.2.2.2.1, (y144.2.2.2.2.2.2.2.1, (y144.2.2.2.2.2.2.2.2.1, (y144.2.2.2.2.2.2.2.2.2.1, y144.2.2.2.2.2.2.2.2.2.2))))))))))) (((subI r147 (1 : Int) (r147.length : Int))).bind fun r149 => ((G22 lf (r149, (w64 (y144.1 + (1 : Int)))))).bind fun r150 => sm r150 (fun r151 : (List Int) => jn (((getI r147 (0 : Int))).bind fun r152 => cond (r152.data.toList == [(UInt8.ofNat 108), (UInt8.ofNat 111), (UInt8.ofNat 116)]) (some (.inl (decide ((r151.length : Int) = (4 : Int))))) (some (.inl false))) (fun y153 : Bool => cond y153 (((getI r151 (0 : Int))).bind fun r154 => ((getI r151 (1 : Int))).bind fun r155 => ((getI r151 (2 : Int))).bind fun r156 => ((getI r151 (3 : Int))).bind fun r157 => ((appC y144.2.1 [(r154, (r155, (r156, r157)))])).bind fun r158 => some (.inl (r158, (y144.2.2.1, (y144.2.2.2.1, (y144.2.2.2.2.1, (y144.2.2.2.2.2.1, (y144.2.2.2.2.2.2.1, (y144.2.2.2.2.2.2.2.1, (y144.2.2.2.2.2.2.2.2.1, (y144.2.2.2.2.2.2.2.2.2.1, y144.2.2.2.2.2.2.2.2.2.2))))))))))) (jn (((getI r147 (0 : Int))).bind fun r159 => cond (r159.data.toList == [(UInt8.ofNat 104), (UInt8.ofNat 101), (UInt8.ofNat 97), (UInt8.ofNat 112)]) (cond (decide ((r151.length : Int) ≥ (3 : Int))) (cond (decide ((Int.tmod (r151.length : Int) (2 : Int)) = (1 : Int))) (((getI r151 (0 : Int))).bind fun r160 => ((G23 lf r160)).bind fun r161 => some (.inl r161)) (some (.inl false))) (some (.inl false))) (some (.inl false))) (fun y162 : Bool => cond y162 (iter lf (fun y163 : (Int × (List (Int × Int))) => cond (decide (y163.1 < (r151.length : Int))) (((getI r151 y163.1)).bind fun r164 => ((getI r151 (w64 (y163.1 + (1 : Int))))).bind fun r165 => ((appC y163.2 [(r164, r165)])).bind fun r166 => some (.inl ((w64 (y163.1 + (2 : Int))), r166))) (outR (((getI r151 (0 : Int))).bind fun r167 => ((getI r151 (0 : Int))).bind fun r168 => cond (decide (r168 = (0 : Int))) (ar (((appC y144.2.2.1 [y163.2])).bind fun r169 => cond (decide (r167 = (0 : Int))) (some (.inl (y144.2.1, (r169, (y144.2.2.2.1, (y144.2.2.2.2.1, (y144.2.2.2.2.2.1, (y144.2.2.2.2.2.2.1, (y144.2.2.2.2.2.2.2.1, (y144.2.2.2.2.2.2.2.2.1, (y144.2.2.2.2.2.2.2.2.2.1, y144.2.2.2.2.2.2.2.2.2.2))))))))))) (cond (decide (r167 = (1 : Int))) (none) (cond (decide (r167 = (2 : Int))) (none) (cond (decide (r167 = (3 : Int))) (none) (cond (decide (r167 = (4 : Int))) (none) (cond (decide (r167 = (5 : Int))) (none) (cond (decide (r167 = (6 : Int))) (none) (cond (decide (r167 = (7 : Int))) (none) (cond (decide (r167 = (8 : Int))) (none) ((outI)))))))))))) (cond (decide (r168 = (1 : Int))) (ar (((appC y144.2.2.2.1 [y163.2])).bind fun r172 => cond (decide (r167 = (0 : Int))) (none) (cond (decide (r167 = (1 : Int))) (some (.inl (y144.2.1, (y144.2.2.1, (r172, (y144.2.2.2.2.1, (y144.2.2.2.2.2.1, (y144.2.2.2.2.2.2.1, (y144.2.2.2.2.2.2.2.1, (y144.2.2.2.2.2.2.2.2.1, (y144.2.2.2.2.2.2.2.2.2.1, y144.2.2.2.2.2.2.2.2.2.2))))))))))) (cond (decide (r167 = (2 : Int))) (none) (cond (decide (r167 = (3 : Int))) (none) (cond (decide (r167 = (4 : Int))) (none) (cond (decide (r167 = (5 : Int))) (none) (cond (decide (r167 = (6 : Int))) (none) (cond (decide (r167 = (7 : Int))) (none) (cond (decide (r167 = (8 : Int))) (none) ((outI)))))))))))) (cond (decide (r168 = (2 : Int))) (ar (((appC y144.2.2.2.2.1 [y163.2])).bind fun r175 => cond (decide (r167 = (0 : Int))) (none) (cond (decide (r167 = (1 : Int))) (none) (cond (decide (r167 = (2 : Int))) (some (.inl (y144.2.1, (y144.2.2.1, (y144.2.2.2.1, (r175, (y144.2.2.2.2.2.1, (y144.2.2.2.2.2.2.1, (y144.2.2.2.2.2.2.2.1, (y144.2.2.2.2.2.2.2.2.1, (y144.2.2.2.2.2.2.2.2.2.1, y144.2.2.2.2.2.2.2.2.2.2))))))))))) (cond (decide (r167 = (3 : Int))) (none) (cond (decide (r167 = (4 : Int))) (none) (cond (decide (r167 = (5 : Int))) (none) (cond (decide (r167 = (6 : Int))) (none) (cond (decide (r167 = (7 : Int))) (none) (cond (decide (r167 = (8 : Int))) (none) ((outI)))))))))))) (cond (decide (r168 = (3 : Int))) (ar (((appC y144.2.2.2.2.2.1 [y163.2])).bind fun r178 => cond (decide (r167 = (0 : Int))) (none) (cond (decide (r167 = (1 : Int))) (none) (cond (decide (r167 = (2 : Int))) (none) (cond (decide (r167 = (3 : Int))) (some (.inl (y144.2.1, (y144.2.2.1, (y144.2.2.2.1, (y144.2.2.2.2.1, (r178, (y144.2.2.2.2.2.2.1, (y144.2.2.2.2.2.2.2.1, (y144.2.2.2.2.2.2.2.2.1, (y144.2.2.2.2.2.2.2.2.2.1, y144.2.2.2.2.2.2.2.2.2.2))))))))))) (cond (decide (r167 = (4 : Int))) (none) (cond (decide (r167 = (5 : Int))) (none) (cond (decide (r167 = (6 : Int))) (none) (cond (decide (r167 = (7 : Int))) (none) (cond (decide (r167 = (8 : Int))) (none) ((outI)))))))))))) (cond (decide (r168 = (4 : Int))) (ar (((appC y144.2.2.2.2.2.2.1 [y163.2])).bind fun r181 => cond (decide (r167 = (0 : Int))) (none) (cond (decide (r167 = (1 : Int))) (none) (cond (decide (r167 = (2 : Int))) (none) (cond (decide (r167 = (3 : Int))) (none) (cond (decide (r167 = (4 : Int))) (some (.inl (y144.2.1, (y144.2.2.1, (y144.2.2.2.1, (y144.2.2.2.2.1, (y144.2.2.2.2.2.1, (r181, (y144.2.2.2.2.2.2.2.1, (y144.2.2.2.2.2.2.2.2.1, (y144.2.2.2.2.2.2.2.2.2.1, y144.2.2.2.2.2.2.2.2.2.2))))))))))) (cond (decide (r167 = (5 : Int))) (none) (cond (decide (r167 = (6 : Int))) (none) (cond (decide (r167 = (7 : Int))) (none) (cond (decide (r167 = (8 : Int))) (none) ((outI)))))))))))) (cond (decide (r168 = (5 : Int))) (ar (((appC y144.2.2.2.2.2.2.2.1 [y163.2])).bind fun r184 => cond (decide (r167 = (0 : Int))) (none) (cond (decide (r167 = (1 : Int))) (none) (cond (decide (r167 = (2 : Int))) (none) (cond (decide (r167 = (3 : Int))) (none) (cond (decide (r167 = (4 : Int))) (none) (cond (decide (r167 = (5 : Int))) (some (.inl (y144.2.1, (y144.2.2.1, (y144.2.2.2.1, (y144.2.2.2.2.1, (y144.2.2.2.2.2.1, (y144.2.2.2.2.2.2.1, (r184, (y144.2.2.2.2.2.2.2.2.1, (y144.2.2.2.2.2.2.2.2.2.1, y144.2.2.2.2.2.2.2.2.2.2))))))))))) (cond (decide (r167 = (6 : Int))) (none) (cond (decide (r167 = (7 : Int))) (none) (cond (decide (r167 = (8 : Int))) (none) ((outI)))))))))))) (cond (decide (r168 = (6 : Int))) (ar (((appC y144.2.2.2.2.2.2.2.2.1 [y163.2])).bind fun r187 => cond (decide (r167 = (0 : Int))) (none) (cond (decide (r167 = (1 : Int))) (none) (cond (decide (r167 = (2 : Int))) (none) (cond (decide (r167 = (3 : Int))) (none) (cond (decide (r167 = (4 : Int))) (none) (cond (decide (r167 = (5 : Int))) (none) (cond (decide (r167 = (6 : Int))) (some (.inl (y144.2.1, (y144.2.2.1, (y144.2.2.2.1, (y144.2.2.2.2.1, (y144.2.2.2.2.2.1, (y144.2.2.2.2.2.2.1, (y144.2.2.2.2.2.2.2.1, (r187, (y144.2.2.2.2.2.2.2.2.2.1, y144.2.2.2.2.2.2.2.2.2.2))))))))))) (cond (decide (r167 = (7 : Int))) (none) (cond (decide (r167 = (8 : Int))) (none) ((outI)))))))))))) (cond (decide (r168 = (7 : Int))) (ar (((appC y144.2.2.2.2.2.2.2.2.2.1 [y163.2])).bind fun r190 => cond (decide (r167 = (0 : Int))) (none) (cond (decide (r167 = (1 : Int))) (none) (cond (decide (r167 = (2 : Int))) (none) (cond (decide (r167 = (3 : Int))) (none) (cond (decide (r167 = (4 : Int))) (none) (cond (decide (r167 = (5 : Int))) (none) (cond (decide (r167 = (6 : Int))) (none) (cond (decide (r167 = (7 : Int))) (some (.inl (y144.2.1, (y144.2.2.1, (y144.2.2.2.1, (y144.2.2.2.2.1, (y144.2.2.2.2.2.1, (y144.2.2.2.2.2.2.1, (y144.2.2.2.2.2.2.2.1, (y144.2.2.2.2.2.2.2.2.1, (r190, y144.2.2.2.2.2.2.2.2.2.2))))))))))) (cond (decide (r167 = (8 : Int))) (none) ((outI)))))))))))) (cond (decide (r168 = (8 : Int))) (ar (((appC y144.2.2.2.2.2.2.2.2.2.2 [y163.2])).bind fun r193 => cond (decide (r167 = (0 : Int))) (none) (cond (decide (r167 = (1 : Int))) (none) (cond (decide (r167 = (2 : Int))) (none) (cond (decide (r167 = (3 : Int))) (none) (cond (decide (r167 = (4 : Int))) (none) (cond (decide (r167 = (5 : Int))) (none) (cond (decide (r167 = (6 : Int))) (none) (cond (decide (r167 = (7 : Int))) (none) (cond (decide (r167 = (8 : Int))) (some (.inl (y144.2.1, (y144.2.2.1, (y144.2.2.2.1, (y144.2.2.2.2.1, (y144.2.2.2.2.2.1, (y144.2.2.2.2.2.2.1, (y144.2.2.2.2.2.2.2.1, (y144.2.2.2.2.2.2.2.2.1, (y144.2.2.2.2.2.2.2.2.2.1, r193))))))))))) ((outI)))))))))))) ((outI))))))))))))) ((1 : Int), ([] : List (Int × Int)))) (some (.inr (.inr ((([] : List (Int × (Int × (Int × Int)))), (([] : List (List (Int × Int))), (([] : List (List (Int × Int))), (([] : List (List (Int × Int))), (([] : List (List (Int × Int))), (([] : List (List (Int × Int))), (([] : List (List (Int × Int))), (([] : List (List (Int × Int))), (([] : List (List (Int × Int))), ([] : List (List (Int × Int)))))))))))), ((w64 (y144.1 + (1 : Int))), (12 : Int)))))))))) (fun r196 : Int => outR (outR (ag (some ((([] : List (Int × (Int × (Int × Int)))), (([] : List (List (Int × Int))), (([] : List (List (Int × Int))), (([] : List (List (Int × Int))), (([] : List (List (Int × Int))), (([] : List (List (Int × Int))), (([] : List (List (Int × Int))), (([] : List (List (Int × Int))), (([] : List (List (Int × Int))), ([] : List (List (Int × Int)))))))))))), (r196, (12 : Int)))))))))) (fun y197 : Ys => some (.inl ((w64 (y144.1 + (1 : Int))), (y197.1, (y197.2.1, (y197.2.2.1, (y197.2.2.2.1, (y197.2.2.2.2.1, (y197.2.2.2.2.2.1, (y197.2.2.2.2.2.2.1, (y197.2.2.2.2.2.2.2.1, (y197.2.2.2.2.2.2.2.2.1, y197.2.2.2.2.2.2.2.2.2))))))))))))) (outR (((G24 lf (y144.2.1, (y144.2.2.1, (y144.2.2.2.1, (y144.2.2.2.2.1, (y144.2.2.2.2.2.1, (y144.2.2.2.2.2.2.1, (y144.2.2.2.2.2.2.2.1, (y144.2.2.2.2.2.2.2.2.1, (y144.2.2.2.2.2.2.2.2.2.1, y144.2.2.2.2.2.2.2.2.2.2))))))))))).bind fun r198 => cond (!(decide (r198 = (0 : Int)))) (some ((([] : List (Int × (Int × (Int × Int)))), (([] : List (List (Int × Int))), (([] : List (List (Int × Int))), (([] : List (List (Int × Int))), (([] : List (List (Int × Int))), (([] : List (List (Int × Int))), (([] : List (List (Int × Int))), (([] : List (List (Int × Int))), (([] : List (List (Int × Int))), ([] : List (List (Int × Int)))))))))))), ((0 : Int), r198))) (some ((y144.2.1, (y144.2.2.1, (y144.2.2.2.1, (y144.2.2.2.2.1, (y144.2.2.2.2.2.1, (y144.2.2.2.2.2.2.1, (y144.2.2.2.2.2.2.2.1, (y144.2.2.2.2.2.2.2.2.1, (y144.2.2.2.2.2.2.2.2.2.1, y144.2.2.2.2.2.2.2.2.2.2))))))))), ((0 : Int), (0 : Int))))))) ((0 : Int), (([] : List (Int × (Int × (Int × Int)))), (([] : List (List (Int × Int))), (([] : List (List (Int × Int))), (([] : List (List (Int × Int))), (([] : List (List (Int × Int))), (([] : List (List (Int × Int))), (([] : List (List (Int × Int))), (([] : List (List (Int × Int))), (([] : List (List (Int × Int))), ([] : List (List (Int × Int))))))))))))))
theorem F6_G (lf : Nat) (x : ByteArray) : F6 Tryz.prog lf x = G6 lf x := by
 unfold G6
 simp only [← F22_G lf, ← F23_G lf, ← F24_G lf, ← Lib.toList_data]
 kernel_rfl
end Go.K
namespace Go.K
noncomputable section
open Go.Sl Go.Sx Go.Proofs
def S54 : FuncId → Sp := fun _ => {}
def F54 (P : Program) (lf : Nat) (x : tt [(false, .i), (false, .i), (false, .i)]) : Option (tt [(false, .bool)]) := fnF P (C6 P lf) S54 54 [(false, .i), (false, .i), (false, .i)] [(false, .bool)] lf x
def C54 (P : Program) (lf : Nat) : FuncId → Option Con := extC (C6 P lf) 54 (dataCon [(false, .i), (false, .i), (false, .i)] [(false, .bool)] (F54 P lf))
def S82 : FuncId → Sp := fun g => match g with
 | 82 => { joins := [(2, [(.slot 24, .dat .bool)])] }
 | _ => {}
def F82 (P : Program) (lf : Nat) (x : tt [(true, (.pair .i (.pair .i (.pair .i .i))))]) : Option (tt [(false, .i)]) := fnF P (C54 P lf) S82 82 [(true, (.pair .i (.pair .i (.pair .i .i))))] [(false, .i)] lf x
def C82 (P : Program) (lf : Nat) : FuncId → Option Con := extC (C54 P lf) 82 (dataCon [(true, (.pair .i (.pair .i (.pair .i .i))))] [(false, .i)] (F82 P lf))
def S55 : FuncId → Sp := fun g => match g with
 | 55 => { joins := [(7, [(.slot 36, .dat .bool)])], loops := [(4, [(.slot 3, .dat .i)])] }
 | _ => {}
def F55 (P : Program) (lf : Nat) (x : tt [(false, Yp)]) : Option (tt [(false, .i)]) := fnF P (C82 P lf) S55 55 [(false, Yp)] [(false, .i)] lf x
def C55 (P : Program) (lf : Nat) : FuncId → Option Con := extC (C82 P lf) 55 (dataCon [(false, Yp)] [(false, .i)] (F55 P lf))
def S56 : FuncId → Sp := fun g => match g with
 | 56 => { joins := [(9, [(.slot 47, .dat .bool)])], loops := [(5, [(.slot 3, .dat .i), (.slot 4, .dat .i)])] }
 | _ => {}
def F56 (P : Program) (lf : Nat) (x : tt [(true, (.sl (.pair .i .i)))]) : Option (tt [(false, .bool)]) := fnF P (C55 P lf) S56 56 [(true, (.sl (.pair .i .i)))] [(false, .bool)] lf x
def C56 (P : Program) (lf : Nat) : FuncId → Option Con := extC (C55 P lf) 56 (dataCon [(true, (.sl (.pair .i .i)))] [(false, .bool)] (F56 P lf))
def S83 : FuncId → Sp := fun g => match g with
 | 83 => { loops := [(3, [(.slot 3, .dat .i), (.slot 4, .dat .i)])] }
 | _ => {}
def F83 (P : Program) (lf : Nat) (x : tt [(true, (.sl (.pair .i .i)))]) : Option (tt [(false, .i)]) := fnF P (C56 P lf) S83 83 [(true, (.sl (.pair .i .i)))] [(false, .i)] lf x
def C83 (P : Program) (lf : Nat) : FuncId → Option Con := extC (C56 P lf) 83 (dataCon [(true, (.sl (.pair .i .i)))] [(false, .i)] (F83 P lf))
def S58 : FuncId → Sp := fun g => match g with
 | 58 => { loops := [(3, [(.slot 3, .dat .i), (.slot 4, .dat .i)])] }
 | _ => {}
def F58 (P : Program) (lf : Nat) (x : tt [(false, Yq)]) : Option (tt [(false, .i)]) := fnF P (C83 P lf) S58 58 [(false, Yq)] [(false, .i)] lf x
def C58 (P : Program) (lf : Nat) : FuncId → Option Con := extC (C83 P lf) 58 (dataCon [(false, Yq)] [(false, .i)] (F58 P lf))
def S57 : FuncId → Sp := fun g => match g with
 | 57 => { loops := [(2, [(.slot 5, .dat .i)])] }
 | _ => {}
def F57 (P : Program) (lf : Nat) (x : tt [(false, Yp), (false, .i)]) : Option (tt [(false, .i)]) := fnF P (C58 P lf) S57 57 [(false, Yp), (false, .i)] [(false, .i)] lf x
def C57 (P : Program) (lf : Nat) : FuncId → Option Con := extC (C58 P lf) 57 (dataCon [(false, Yp), (false, .i)] [(false, .i)] (F57 P lf))
def S29 : FuncId → Sp := fun g => match g with
 | 29 => { joins := [(13, [(.slot 42, .dat .bool)]), (7, [(.slot 4, .dat Yq)])], loops := [(15, [(.slot 6, .dat .i)]), (10, [(.slot 5, .dat .i)]), (4, [(.slot 3, .dat .i)])] }
 | _ => {}
def F29 (P : Program) (lf : Nat) (x : tt [(true, Yu)]) : Option (tt [(false, .i)]) := fnF P (C57 P lf) S29 29 [(true, Yu)] [(false, .i)] lf x
def C29 (P : Program) (lf : Nat) : FuncId → Option Con := extC (C57 P lf) 29 (dataCon [(true, Yu)] [(false, .i)] (F29 P lf))
def S30 : FuncId → Sp := fun g => match g with
 | 30 => { loops := [(4, [(.slot 5, .dat .i)])] }
 | _ => {}
def F30 (P : Program) (lf : Nat) (x : tt [(true, (.sl (.pair .i .i))), (true, (.sl (.pair .i .i)))]) : Option (tt [(false, .bool)]) := fnF P (C29 P lf) S30 30 [(true, (.sl (.pair .i .i))), (true, (.sl (.pair .i .i)))] [(false, .bool)] lf x
def C30 (P : Program) (lf : Nat) : FuncId → Option Con := extC (C29 P lf) 30 (dataCon [(true, (.sl (.pair .i .i))), (true, (.sl (.pair .i .i)))] [(false, .bool)] (F30 P lf))
def S8 : FuncId → Sp := fun g => match g with
 | 8 => { joins := [(10, []), (17, [(.slot 8, .dat .bool)]), (16, []), (12, [(.slot 48, .dat .bool)])], loops := [(14, [(.slot 7, .dat .i)]), (9, [(.slot 6, .dat .i)]), (4, [(.slot 5, .dat .i)])] }
 | _ => {}
def F8 (P : Program) (lf : Nat) (x : tt [(true, Yu), (true, Yu)]) : Option (tt [(false, .bool)]) := fnF P (C30 P lf) S8 8 [(true, Yu), (true, Yu)] [(false, .bool)] lf x
def C8 (P : Program) (lf : Nat) : FuncId → Option Con := extC (C30 P lf) 8 (dataCon [(true, Yu), (true, Yu)] [(false, .bool)] (F8 P lf))
def S33 : FuncId → Sp := fun _ => {}
def F33 (P : Program) (lf : Nat) : Nat → tt [(false, .i)] → Option (tt [(false, .str)])
 | 0, _ => none
 | n + 1, x => fnF P (extC (C8 P lf) 33 (dataCon [(false, .i)] [(false, .str)] (F33 P lf n))) S33 33 [(false, .i)] [(false, .str)] lf x
def C33 (P : Program) (lf : Nat) : FuncId → Option Con := extC (C8 P lf) 33 (dataCon [(false, .i)] [(false, .str)] (F33 P lf lf))
theorem F33_eq (lf n : Nat) (a0 : Int) : F33 Tryz.prog lf (n + 1) a0 =
 cond (decide (a0 < (10 : Int))) (some (strI [(Go.IntKind.wrap .u8 (w64 ((48 : Int) + a0)))])) (agree (((F33 Tryz.prog lf n (w64 (Int.tdiv a0 (10 : Int))))).bind fun r5 => ((catC r5 (strI [(Go.IntKind.wrap .u8 (w64 ((48 : Int) + (Int.tmod a0 (10 : Int)))))]))).bind fun r6 => some (r5 ++ (strI [(Go.IntKind.wrap .u8 (w64 ((48 : Int) + (Int.tmod a0 (10 : Int)))))]))) (((F33 Tryz.prog lf n (w64 (Int.tdiv a0 (10 : Int))))).bind fun r7 => ((catC r7 (strI [(Go.IntKind.wrap .u8 (w64 ((48 : Int) + (Int.tmod a0 (10 : Int)))))]))).bind fun r8 => some (r7 ++ (strI [(Go.IntKind.wrap .u8 (w64 ((48 : Int) + (Int.tmod a0 (10 : Int)))))])))) := by kernel_rfl
end
end Go.K
