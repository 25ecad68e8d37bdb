/-
  A part of the walk and of the plain law of one given statement. No condition.
-/
import Derived.Test.YtlkffcddfpghkaaGreatDoorKr
import Derived.Shelf.Strings.BuilderK
import Derived.Shelf.Strings.Split
import Derived.Shelf.Strings.FieldsFuncAny
import Derived.Shelf.Strings.SlTrimAscii
import Derived.Shelf.Strconv.AtoiAll
import Derived.Shelf.Strconv.Itoa3
import Derived.Shelf.Small.Wraps
import Derived.Lib.SlicesCompact
import Derived.Test.YtlkffcddfpghkaaGreatDoorProg
set_option linter.unusedVariables false
set_option linter.unusedSimpArgs false
namespace Go.K
open Go.Sl Go.Sx
variable {e e' e0 : KE} {σ σ' : List Blk} {As As0 L0 L A' : List Atom} {P : Program} {w : World} {N : Nat} {fl : SFL} {flv flv' : FL} {ρ : Type} {h : Zone} {a : Act} {ds : List Deferred}
def ConOk (P : Program) (L0 : List Atom) (con : Con) (g : FuncId) : Prop := ∀ {ρ : Type} {args : List SV} {vs : List Value} {m : KM} {e : KE} {As : List Atom} {w : World} {k : CR → KM → Option ρ} {r : ρ},
  con.run args m k = some r → Mem e m.σ As → St e.z (As ++ L0) w → IsL e args vs → Calls P g vs.toArray w (CallR L0 e As m k r)
theorem argS_is : ∀ {l : List SV} {vs : List Value} (i : Nat), IsL e l vs → FLIs e ((l.zipIdx i).map fun (v, i) => (i, v)) ((vs.zipIdx i).map fun (v, i) => (i, v))
  | _, _, i, .nil => trivial
  | _, _, i, .cons h t => ⟨rfl, h, argS_is (i + 1) t⟩
theorem resL_ok {s : KS} (hf : Fr a N flv ds) (hl' : FLIs e s.fl flv) (hm : Mem e s.m.σ As) (hst : St e.z (As ++ L0) w) : ∀ {rs : List ResultVar} {l : List SV}, resL P s rs = some l → ∃ vs, IsL e l vs ∧ (rs.mapM (resOne a.tmps)).run P w = .ok vs w
  | [], l, h => by simp only [resL, Option.some.injEq] at h; subst h; exact ⟨[], .nil, rfl⟩
  | .tmp t :: rs, l, h => by
    simp only [resL] at h
    split at h
    · rename_i v r hl hrr
      cases h
      obtain ⟨u, h1, h2⟩ := hl'.look hl
      obtain ⟨vs, k1, k2⟩ := resL_ok hf hl' hm hst hrr
      refine ⟨u :: vs, .cons (res_is hm h2) k1, ?_⟩
      have h3 : (resOne a.tmps (.tmp t)).run P w = .ok u w := by simp only [resOne, Sem.run_pure, hf.getD h1]
      rw [List.mapM_cons, Sem.run_bind, h3, Result.andThen_ok, Sem.run_bind, k2]; rfl
    · cases h
  | .cell t ty :: rs, l, h => by
    simp only [resL] at h
    split at h
    · rename_i id off r hl hrr
      split at h
      · rename_i T cs hB
        split at h
        · rename_i v hv
          cases h
          obtain ⟨u, h1, h2⟩ := hl'.look hl
          obtain ⟨vs, k1, k2⟩ := resL_ok hf hl' hm hst hrr
          obtain ⟨i, A, m1, m2, m3⟩ := hm.get hB
          cases m3 with
          | cells hc hone =>
            rename_i us
            cases h2 with
            | ptr hi =>
              rw [hi] at m1; cases m1
              obtain ⟨q, q1, q2⟩ := ld_run (P := P) hv hc ⟨i.b, 0, none⟩
              have hw : WM e As L0 w := ⟨e.z, Zone.le_refl _, hst⟩
              have q3 := q2 w fun j x hj => by rw [add_of]; exact hw.box m2 hj
              rw [add_of] at q3
              refine ⟨q :: vs, .cons (res_is hm q1) k1, ?_⟩
              have h3 : (resOne a.tmps (.cell t ty)).run P w = .ok q w := by
                simp only [resOne, Sem.run_bind, hf.getD h1, asAddr, Sem.run_pure, Result.andThen_ok, q3]
              rw [List.mapM_cons, Sem.run_bind, h3, Result.andThen_ok, Sem.run_bind, k2]; rfl
        · cases h
      · cases h
    · cases h
theorem resT_is {l : List SV} {vs : List Value} (h : IsL e l vs) : Is e (resT l) (resV vs) := by
  cases h with
  | nil => exact Is.tup (vs := []) .nil
  | cons h1 h2 =>
    cases h2 with
    | nil => exact h1
    | cons h3 h4 => exact Is.tup (vs := _ :: _ :: _) (.cons h1 (.cons h3 h4))
theorem resS_ok {s : KS} {fn : Func} {v : SV} (hf : Fr a N flv ds) (hl' : FLIs e s.fl flv) (hm : Mem e s.m.σ As) (hst : St e.z (As ++ L0) w) (h : resS P fn s = some v) : ∃ u, Is e v u ∧ (results fn a.tmps).run P w = .ok u w := by
  unfold resS at h
  split at h
  · rename_i l hl
    cases h
    obtain ⟨vs, k1, k2⟩ := resL_ok hf hl' hm hst hl
    refine ⟨resV vs, resT_is k1, ?_⟩
    have h2 : (fn.results.mapM (resOne a.tmps)).run P w = .ok vs.toArray w := by
      rw [Array.mapM_eq_mapM_toList, map_eq_pure_bind, Sem.run_bind, k2]
      rfl
    have h3 : results fn a.tmps = (do let vs ← fn.results.mapM (resOne a.tmps); pure (if h : vs.size = 1 then vs[0] else .tuple vs)) := rfl
    rw [h3, Sem.run_bind, h2, Result.andThen_ok, Sem.run_pure, ← resV_eq]
  · cases h
theorem recBody_eq {fn : Func} {d : Nat} {rest : Code} (h : recBody fn = some (d, rest)) : ∃ id o, fn.body = some (.seq (.region id #[o] false) rest) ∧ o.dst = some d ∧ o.guard = none ∧ fn.results = #[] ∧ ∃ ts, o.op = .call { callee := .builtin .recover, args := #[], argTypes := ts } := by
  unfold recBody at h
  split at h
  · rename_i id o rest' hb
    cases hc : (isRecover o && fn.results.isEmpty) with
    | false => rw [hc] at h; cases h
    | true =>
      rw [hc] at h
      simp only [cond_true] at h
      simp only [Bool.and_eq_true] at hc
      split at h
      · rename_i d' hd
        cases h
        have h1 := hc.1
        simp only [isRecover, Bool.and_eq_true] at h1
        refine ⟨id, o, hb, hd, ?_, by simpa using hc.2, ?_⟩
        · cases hg : o.guard with
          | none => rfl
          | some => rw [hg] at h1; cases h1.1
        · have h2 := h1.2
          split at h2
          · rename_i ts hop; exact ⟨ts, hop⟩
          · cases h2
      · cases h
  · cases h
def RunDOk {ρ : Type} (P : Program) (L0 : List Atom) (rd : RunD ρ) : Prop := ∀ {f : FuncId} {caps : List SV} {sv : SV} {m : KM} {k : KM → Option ρ} {r : ρ}, rd f caps sv m k = some r → callOK P f = true ∧
  ∀ {e : KE} {As : List Atom} {w : World} {cs : List Value} {v : Value} {u u' : FrameMode}, Mem e m.σ As → St e.z (As ++ L0) w → IsL e caps cs → Is e sv v →
    (∀ (c₀ : Frame) (fs : List Frame), c₀.mode = u → ((recoverD (c₀ :: fs) = some (v, { c₀ with mode := u' } :: fs)) ∨ (recoverD (c₀ :: fs) = none ∧ v = .nilIface ∧ u' = u))) →
    CallsDIn (WF none) 0 P f cs.toArray u w fun en u2 w' => u2 = u' ∧ (en = .returned (.tuple #[]) ∧ ∃ m' e' As', k m' = some r ∧ Go1 e As m e' As' m' ∧ Mem e' m'.σ As' ∧ St e'.z (As' ++ L0) w')
theorem invoke_run {f : FuncId} {cs : List Value} (h : callOK P f = true) : (invoke (.fn (.func f) cs.toArray) #[]).run P w = .ok (.enter f cs.toArray) w := by
  unfold callOK at h
  split at h
  · rename_i fn hfn
    simp only [Bool.and_eq_true, Bool.not_eq_true'] at h
    have hn : ¬ fn.name = "runtime.NumGoroutine" := by simpa using h.1
    have hnb : ¬ fn.body = none := fun e => by simp [e] at h
    simp [invoke, callFunc, hfn, hn, hnb]
  · cases h
theorem out_def {fn : Func} {R' : Ending → World → Prop} {tmps : Array Value} {u u' : FrameMode} {f : FuncId} {cs : List Value} {dd : List Deferred} (hu : u ≠ .run) (hs : settle u' = .returning) (hok : callOK P f = true)
    (hcl : CallsDIn (WF none) 0 P f cs.toArray u w fun en u2 w' => u2 = u' ∧ (en = .returned (.tuple #[]) ∧ LeavesInM (WF none) 0 P fn tmps R' dd .returning w')) :
    LeavesInM (WF none) 0 P fn tmps R' ({ target := .fn (.func f) cs.toArray, args := #[] } :: dd) u w := by
  refine ⟨hu, .inr ⟨fun e => absurd (show false = true from e) (by decide), .func f, cs.toArray, f, cs.toArray, rfl, invoke_run hok, fun _ _ => trivial, ?_⟩⟩
  refine CallsDIn.mono hcl ?_
  rintro en u2 w' ⟨rfl, rfl, ho⟩
  show LeavesInM (WF none) 0 P fn tmps R' dd (settle u2) w'
  rw [hs]
  exact ho
theorem marks_out {fn : Func} {R' : Ending → World → Prop} {tmps : Array Value} {u : FrameMode} {z : Zone} (hu : u ≠ .run) : ∀ (m1 rest : List Deferred) {w : World}, noMk m1 = [] → St z (As ++ (mkA (m1 ++ rest) ++ L0)) w →
    (∀ w', St z (As ++ (mkA rest ++ L0)) w' → LeavesInM (WF none) 0 P fn tmps R' rest u w') → LeavesInM (WF none) 0 P fn tmps R' (m1 ++ rest) u w
  | [], rest, w, _, hs, k => k w hs
  | d :: m1, rest, w, hn, hs, k => by
    cases hd : mkD d with
    | none => simp [noMk, hd] at hn
    | some D =>
      have hn' : noMk m1 = [] := by simpa [noMk, hd] using hn
      have hA : mkA (d :: m1 ++ rest) = defA D :: mkA (m1 ++ rest) := by simp [mkA, marksOf, hd]
      rw [hA] at hs
      have hj : (As ++ (defA D :: mkA (m1 ++ rest) ++ L0))[As.length]? = some (defA D) := by simp
      have htg : d.target = .collected D := by
        unfold mkD at hd
        split at hd
        · rename_i r hr; cases hd; exact hr
        · cases hd
      obtain ⟨o, ho, hl, hput⟩ := hs.focus1 hj (l := D) (fun z hz => ⟨_, hz⟩)
      have he : o = .deferred (some []) := Hp.one_inj ho
      subst he
      refine ⟨hu, .inl ⟨D, _, htg, run_takeDeferred hl, marks_out hu m1 rest hn' ?_ k⟩⟩
      have h1 := hput ⟨fun _ z => z = Hp.one D (.deferred none), fun _ _ _ _ h => h⟩ (.deferred none) rfl
      have e2 : (As ++ (defA D :: mkA (m1 ++ rest) ++ L0)).set As.length ⟨fun _ z => z = Hp.one D (.deferred none), fun _ _ _ _ h => h⟩ = As ++ ([⟨fun _ z => z = Hp.one D (.deferred none), fun _ _ _ _ h => h⟩] ++ mkA (m1 ++ rest)) ++ L0 := by
        simp
      rw [e2] at h1
      have := St.cut h1
      rwa [List.append_assoc] at this
theorem noMk_one : ∀ {dv : List Deferred} {d : Deferred}, noMk dv = [d] → ∃ m1 m2, dv = m1 ++ d :: m2 ∧ noMk m1 = [] ∧ noMk m2 = [] ∧ mkD d = none
  | [], d, h => by cases h
  | x :: dv, d, h => by
    cases hx : mkD x with
    | some D =>
      have h' : noMk dv = [d] := by simpa [noMk, hx] using h
      obtain ⟨m1, m2, rfl, h1, h2, h3⟩ := noMk_one h'
      exact ⟨x :: m1, m2, rfl, by simp only [noMk, List.filter_cons, hx] at h1 ⊢; simpa using h1, h2, h3⟩
    | none =>
      have h' : x = d ∧ noMk dv = [] := by simpa [noMk, hx] using h
      obtain ⟨rfl, h'⟩ := h'
      exact ⟨[], dv, rfl, rfl, h', hx⟩
theorem noMk_nil {dv : List Deferred} (h : noMk dv = []) (k : marksOf dv = []) : dv = [] := by
  cases dv with
  | nil => rfl
  | cons d dv =>
    cases hd : mkD d with
    | none => simp [noMk, hd] at h
    | some D => simp [marksOf, hd] at k
theorem endK_ok {rd : RunD ρ} (hrd : ∀ ms : List Deferred, RunDOk P (mkA ms ++ L0) rd) {dv : List Deferred} {s : KS} {fn : Func} {k : CR → KM → Option ρ} {r : ρ} {x : KX} {X : Exit} {m0 : KM} {e0 : KE} {A0 : List Atom} (h : endK P fn rd k x s = some r) (hr : KR N L0 e As flv dv s a w) (hX : XIs e x X) (hg : Go1 e0 A0 m0 e As s.m) {R' : Ending → World → Prop}
    (hR : ∀ en w', CallR L0 e0 A0 m0 k r en w' → R' en w') : postM P fn R' X a w := by
  have key : ∀ {m2 : KM} {e2 : KE} {As2 : List Atom} {w2 : World} {q : List DF} {b : Bool} (v : SV), resS P fn ⟨s.fl, m2, q, b⟩ = some v → k (.val v) m2 = some r → e.le e2 → Mem e2 m2.σ As2 → St e2.z (As2 ++ L0) w2 → Go1 e0 A0 m0 e2 As2 m2 → LeavesInM (WF none) 0 P fn a.tmps R' [] .returning w2 := fun {m2 e2 As2 w2 q b} v h1 h2 h3 h4 h5 h6 => by
    obtain ⟨u, q1, q2⟩ := resS_ok (s := ⟨s.fl, m2, q, b⟩) hr.fr (hr.fl.mono h3) h4 h5 h1
    exact ⟨u, q2, hR _ _ ⟨.val v, _, _, _, h2, ⟨u, rfl, q1⟩, h6, h4, h5⟩⟩
  have keyD : ∀ {f : FuncId} {c : List SV} {sv : SV} {v : Value} {u u' : FrameMode} {cs : List Value} {m2 : List Deferred} {w : World}, rd f c sv s.m (fun m => match resS P fn ⟨s.fl, m, [], false⟩ with
      | some v => k (.val v) m
      | none => none) = some r → noMk m2 = [] → St e.z (As ++ (mkA m2 ++ L0)) w → IsL e c cs → Is e sv v → u ≠ .run → settle u' = .returning →
      (∀ (c₀ : Frame) (fs : List Frame), c₀.mode = u → ((recoverD (c₀ :: fs) = some (v, { c₀ with mode := u' } :: fs)) ∨ (recoverD (c₀ :: fs) = none ∧ v = .nilIface ∧ u' = u))) →
      LeavesInM (WF none) 0 P fn a.tmps R' ({ target := .fn (.func f) cs.toArray, args := #[] } :: m2) u w := fun {f c sv v u u' cs m2 w} hrun hm2 hst hc hv hu hs hrec => by
    obtain ⟨hok, hd⟩ := hrd m2 hrun
    refine out_def hu hs hok (CallsDIn.mono (hd hr.mem hst hc hv hrec) ?_)
    rintro en u2 w' ⟨h1, h2, m', e', As', k1, k2, k3, k4⟩
    refine ⟨h1, h2, ?_⟩
    have := marks_out (fn := fn) (R' := R') (tmps := a.tmps) (u := .returning) (P := P) (As := As') (L0 := L0) (z := e'.z) (by simp) m2 [] (w := w') hm2 (by rw [List.append_nil]; exact k4) (fun w'' k5 => ?_)
    · rwa [List.append_nil] at this
    · split at k1
      · rename_i q hq
        exact key (q := []) q hq k1 k2.le k3 k5 (hg.trans k2)
      · cases k1
  have ret : (match s.ds with
      | [] => match resS P fn s with
        | some v => k (.val v) s.m
        | none => none
      | [(f, c)] => rd f c (.raw .nilIface) s.m (fun m => match resS P fn ⟨s.fl, m, [], false⟩ with
        | some v => k (.val v) m
        | none => none)
      | _ => none) = some r → LeavesInM (WF none) 0 P fn a.tmps R' dv .returning w := fun h => by
    have hd := hr.dI
    split at h
    · rename_i hds
      rw [hds] at hd
      cases hdv : noMk dv with
      | nil =>
        split at h
        · rename_i v hv
          have := marks_out (fn := fn) (R' := R') (tmps := a.tmps) (u := .returning) (P := P) (As := As) (L0 := L0) (z := e.z) (by simp) dv [] (w := w) hdv (by rw [List.append_nil]; exact hr.st) (fun w'' k5 => key (m2 := s.m) (q := s.ds) (b := s.rg) v hv h .rfl hr.mem k5 hg)
          rwa [List.append_nil] at this
        · cases h
      | cons => rw [hdv] at hd; exact hd.elim
    · rename_i f c hds
      rw [hds] at hd
      match hdv : noMk dv, hd with
      | [d], ⟨⟨vs, h1, h2⟩, _⟩ =>
        obtain ⟨m1, m2, rfl, n1, n2, n3⟩ := noMk_one hdv
        refine marks_out (by simp) m1 (d :: m2) n1 hr.st fun w' k5 => ?_
        have hA : mkA (d :: m2) = mkA m2 := by simp [mkA, marksOf, n3]
        rw [hA] at k5
        subst h1
        exact keyD h n2 k5 h2 (.raw _) (by simp) rfl fun c₀ fs hu => .inr ⟨by simp [recoverD, hu], rfl, rfl⟩
      | [], hd => exact hd.elim
      | d :: d' :: _, ⟨_, hd⟩ => exact hd.elim
    · cases h
  cases x with
  | ext id => cases h
  | nrm =>
    have hX' : X = .normal := hX
    subst hX'
    show LeavesInM (WF none) 0 P fn a.tmps R' a.defers .returning w
    rw [hr.fr.defers]
    exact ret h
  | ret =>
    have hX' : X = .ret := hX
    subst hX'
    show LeavesInM (WF none) 0 P fn a.tmps R' a.defers .returning w
    rw [hr.fr.defers]
    exact ret h
  | pan sv =>
    obtain ⟨v, rfl, hv⟩ := hX
    show LeavesInM (WF none) 0 P fn a.tmps R' a.defers (.panicking (pch v)) w
    rw [hr.fr.defers]
    have hd := hr.dI
    simp only [endK] at h
    split at h
    · rename_i hds
      rw [hds] at hd
      cases hdv : noMk dv with
      | nil =>
        have := marks_out (fn := fn) (R' := R') (tmps := a.tmps) (u := .panicking (pch v)) (P := P) (As := As) (L0 := L0) (z := e.z) (by simp) dv [] (w := w) hdv (by rw [List.append_nil]; exact hr.st) (fun w'' k5 => hR _ _ ⟨.pan sv, s.m, e, As, h, ⟨v, rfl, hv⟩, hg, hr.mem, k5⟩)
        rwa [List.append_nil] at this
      | cons => rw [hdv] at hd; exact hd.elim
    · rename_i f c hds
      rw [hds] at hd
      match hdv : noMk dv, hd with
      | [d], ⟨⟨vs, h1, h2⟩, _⟩ =>
        obtain ⟨m1, m2, rfl, n1, n2, n3⟩ := noMk_one hdv
        refine marks_out (by simp) m1 (d :: m2) n1 hr.st fun w' k5 => ?_
        have hA : mkA (d :: m2) = mkA m2 := by simp [mkA, marksOf, n3]
        rw [hA] at k5
        subst h1
        exact keyD (u' := .panicking [{ v := v, recovered := true }]) h n2 k5 h2 hv (by simp) rfl fun c₀ fs hu => .inl (by simp [recoverD, hu])
      | [], hd => exact hd.elim
      | d :: d' :: _, ⟨_, hd⟩ => exact hd.elim
    · cases h
theorem frzV_ok {fl0 : SFL} : ∀ (l : List Vr) {s : KS} {e : KE} {As : List Atom}, KR N L0 e As flv ds s a w → (frzV fl0 l s).fl = s.fl ∧ (frzV fl0 l s).ds = s.ds ∧ ∃ e' As', Go1 e As s.m e' As' (frzV fl0 l s).m ∧ KR N L0 e' As' flv ds (frzV fl0 l s) a w
  | [], s, e, As, h => ⟨rfl, rfl, e, As, .refl, h⟩
  | (p, .own _ _) :: l, s, e, As, h => frzV_ok l h
  | (p, .oo _ _ _) :: l, s, e, As, h => frzV_ok l h
  | (p, .bx _ _ _ _) :: l, s, e, As, h => frzV_ok l h
  | (p, .b2 _ _ _) :: l, s, e, As, h => frzV_ok l h
  | (p, .dat u) :: l, s, e, As, h => by
    simp only [frzV]
    split
    · rename_i v hv
      obtain ⟨e1, A1, g1, g2, g3⟩ := frzL_ok ((svC v).getD []) h.mem h.st
      obtain ⟨k1, k2, e2, A2, g4, g5⟩ := frzV_ok l (s := ⟨s.fl, frzL s.m ((svC v).getD []), s.ds, s.rg⟩) ⟨h.fr, h.fl.mono g1.le, g2, g3, h.dI.mono g1.le, h.rI⟩
      exact ⟨k1, k2, e2, A2, g1.trans g4, g5⟩
    · exact frzV_ok l h
  | (p, .agg u) :: l, s, e, As, h => by
    simp only [frzV]
    split
    · rename_i v hv
      obtain ⟨e1, A1, g1, g2, g3⟩ := frzL_ok ((svC v).getD []) h.mem h.st
      obtain ⟨k1, k2, e2, A2, g4, g5⟩ := frzV_ok l (s := ⟨s.fl, frzL s.m ((svC v).getD []), s.ds, s.rg⟩) ⟨h.fr, h.fl.mono g1.le, g2, g3, h.dI.mono g1.le, h.rI⟩
      exact ⟨k1, k2, e2, A2, g1.trans g4, g5⟩
    · exact frzV_ok l h
theorem outL_inl {α : Type} {o : Option α} {y : α} (h : (outL o : Option (α ⊕ ρ)) = some (.inl y)) : o = some y := by
  unfold outL at h; split at h
  · cases h; rfl
  · cases h
theorem outL_inr {α : Type} {o : Option α} {y : ρ} (h : (outL o : Option (α ⊕ ρ)) = some (.inr y)) : False := by
  unfold outL at h; split at h <;> cases h
theorem outR_inr {α : Type} {o : Option ρ} {y : ρ} (h : (outR o : Option (α ⊕ ρ)) = some (.inr y)) : o = some y := by
  unfold outR at h; split at h
  · cases h; rfl
  · cases h
theorem outR_inl {α : Type} {o : Option ρ} {y : α} (h : (outR o : Option (α ⊕ ρ)) = some (.inl y)) : False := by
  unfold outR at h; split at h <;> cases h
variable {C : FuncId → Option Con} {SP : FuncId → Sp} {lf : Nat}
def ExecOk (P : Program) (C : FuncId → Option Con) (SP : FuncId → Sp) (lf : Nat) (Cl : List Atom → Prop) (n : Nat) : Prop := ∀ {L0 : List Atom}, Cl L0 → ∀ {ρ : Type} {top : Bool} {g : FuncId} {N : Nat} {c : Code} {s : KS} {k : KX → KS → Option ρ} {r : ρ}, exec P C SP lf n top g N c s k = some r →
  ∀ {dv : List Deferred} {e : KE} {As : List Atom} {flv : FL} {a : Act} {w : World} {Q : Exit → Act → World → Prop} {ro : Option Nat}, (top = true → ro = none) → KR N L0 e As flv dv s a w →
    (∀ x s' e' As' flv' dv' a' w' X, k x s' = some r → FX s.fl flv s'.fl flv' → DX dv dv' → Go1 e As s.m e' As' s'.m → KR N L0 e' As' flv' dv' s' a' w' → XIs e' x X → Q X a' w') → c.cw ro P Q a w
noncomputable def rdF (P : Program) (C : FuncId → Option Con) (SP : FuncId → Sp) (lf n : Nat) (ρ : Type) : RunD ρ := fun f caps v m k => match P.funcs[f]? with
      | some fn => match recBody fn with
        | some (d, rest) => let N' := caps.length + (fn.ntmps - caps.length)
          bif Nat.blt d N' && callOK P f then exec P C SP lf n true f N' rest ⟨(d, v) :: argS caps, m, [], false⟩ (fun x s' => match x with
            | .ext _ => none
            | .pan _ => none
            | _ => match s'.ds, s'.rg with
              | [], false => k s'.m
              | _, _ => none) else none
        | none => none
      | none => none
noncomputable def callF (P : Program) (C : FuncId → Option Con) (SP : FuncId → Sp) (lf n : Nat) (ρ : Type) : CallF ρ := fun f args m k => match C f with
      | some con => con.run args m k
      | none => match P.funcs[f]? with
        | some fn => match fn.body with
          | some body => exec P C SP lf n true f (args.length + (fn.ntmps - args.length)) body ⟨argS args, m, [], false⟩ (endK P fn (rdF P C SP lf n ρ) k)
          | none => none
        | none => none
theorem cl_app {Cl : List Atom → Prop} (hup : ∀ A L, Cl L → Cl (A :: L)) (h : Cl L0) : ∀ l : List Atom, Cl (l ++ L0)
  | [] => h
  | A :: l => hup A _ (cl_app hup h l)
theorem cl_marks {Cl : List Atom → Prop} (hup : ∀ A L, Cl L → Cl (A :: L)) (h : Cl L0) (ms : List Deferred) : Cl (mkA ms ++ L0) := cl_app hup h _
theorem rd_ok {Cl : List Atom → Prop} {n : Nat} (ih : ExecOk P C SP lf Cl n) (hcl : Cl L0) {ρ : Type} : RunDOk P L0 (rdF P C SP lf n ρ) := by
  intro f caps sv m k r h
  simp only [rdF] at h
  split at h
  · rename_i fn hfn
    split at h
    · rename_i d rest hb
      cases hc : (Nat.blt d (caps.length + (fn.ntmps - caps.length)) && callOK P f) with
      | false => rw [hc] at h; cases h
      | true =>
        rw [hc] at h
        simp only [cond_true] at h
        simp only [Bool.and_eq_true] at hc
        refine ⟨hc.2, fun {e As w cs v u u'} h1 h2 hl hv hrec => ?_⟩
        obtain ⟨id, o, b1, b2, b3, b4, ts, b5⟩ := recBody_eq hb
        have hlen := hl.len
        have hrun : ∀ a : Act, (execOp a.eval o).run P w = .ok .recover w := fun a => by simp [execOp, b5, resolve, invoke, builtin]
        refine CallsDIn.mono (callsD_recover (R' := fun en w' => en = .returned (.tuple #[]) ∧ ∃ m' e' As', k m' = some r ∧ Go1 e As m e' As' m' ∧ Mem e' m'.σ As' ∧ St e'.z (As' ++ L0) w') (N := caps.length + (fn.ntmps - caps.length)) hfn b1 (by simp [hlen]) b2 hc.1 b3 hrun hrec fun a hf => ?_) fun en u2 w' h => h
        have hkr : KR (caps.length + (fn.ntmps - caps.length)) L0 e As ((d, v) :: argFL cs.toArray) [] ⟨(d, sv) :: argS caps, m, [], false⟩ a w := ⟨hf, ⟨rfl, hv, argS_is 0 hl⟩, h1, h2, trivial, fun _ => rfl⟩
        refine ih hcl h (fun _ => rfl) hkr fun x s' e' As' flv' dv' a' w' X q1 q2 q3 q4 q5 q6 => ?_
        have fin : (match s'.ds, s'.rg with | [], false => k s'.m | _, _ => none) = some r → a'.defers = [] ∧ ∃ x, (results fn a'.tmps).run P w' = .ok x w' ∧ (Ending.returned x = .returned (.tuple #[]) ∧ ∃ m' e' As', k m' = some r ∧ Go1 e As m e' As' m' ∧ Mem e' m'.σ As' ∧ St e'.z (As' ++ L0) w') := fun hh => by
          have hd := q5.dI
          split at hh
          · rename_i hds hrg
            rw [hds] at hd
            cases hdv : noMk dv' with
            | nil =>
              have hdv' := noMk_nil hdv (q5.rI hrg)
              subst hdv'
              refine ⟨q5.fr.defers, .tuple #[], ?_, rfl, s'.m, e', As', hh, q4, q5.mem, q5.st⟩
              simp [results, b4]
            | cons => rw [hdv] at hd; exact hd.elim
          · cases hh
        cases x with
        | ext i => cases q1
        | pan s => cases q1
        | nrm => have hX : X = .normal := q6; subst hX; exact fin q1
        | ret => have hX : X = .ret := q6; subst hX; exact fin q1
    · cases h
  · cases h
theorem call_ok {Cl : List Atom → Prop} (hup : ∀ A L, Cl L → Cl (A :: L)) {n : Nat} (hC : ∀ L, Cl L → ∀ g con, C g = some con → ConOk P L con g) (ih : ExecOk P C SP lf Cl n) (hcl : Cl L0) {ρ : Type} : CallOk P L0 (callF P C SP lf n ρ) := by
  intro g args vs m e As w k r h h1 h2 hl
  simp only [callF] at h
  split at h
  · rename_i con hcon
    exact (hC L0 hcl g con hcon) h h1 h2 hl
  · split at h
    · rename_i fn hfn
      split at h
      · rename_i body hb
        have hlen := hl.len
        refine calls_intro (N := args.length + (fn.ntmps - args.length)) hfn (by simp [hb, hlen]) fun a hf => ?_
        have hbody : bodyOf fn = body := by simp [bodyOf, hb]
        rw [hbody]
        have hkr : KR (args.length + (fn.ntmps - args.length)) L0 e As (argFL vs.toArray) [] ⟨argS args, m, [], false⟩ a w := ⟨hf, argS_is 0 hl, h1, h2, trivial, fun _ => rfl⟩
        exact ih hcl h (fun _ => rfl) hkr fun x s' e' As' flv' dv' a' w' X q1 q2 q3 q4 q5 q6 => endK_ok (fun ms => rd_ok ih (cl_marks hup hcl ms)) q1 q5 q6 q4 fun _ _ h => h
      · cases h
    · cases h
theorem fr_kill {kill : List Nat} {e1 : KE} {fl fl' : SFL} {flv flv' : FL} {dv : List Deferred} (hf : Fr a N flv' dv) (h0 : FLIs e fl flv) (h1 : FLIs e1 fl' flv') (hx : FX fl flv fl' flv') (hk : ∀ t ∈ kill, Nat.blt t N = true)
    (hc : ∀ p ∈ fl'.take (fl'.length - fl.length), (!(keysS fl).contains p.1 || kill.contains p.1) = true) : Fr a N (kill.map (fun t => (t, a.tmps.getD t undef)) ++ flv) dv := by
  obtain ⟨d, dv', e1', e2, e3⟩ := hx
  have htake : fl'.take (fl'.length - fl.length) = d := by rw [e1']; simp
  rw [htake] at hc
  rw [e1', e2] at h1
  obtain ⟨kd, _⟩ := fl_keys h1 e3
  refine ⟨hf.size, hf.defers, fun t v hl => ?_⟩
  have key : ∀ k : List Nat, (∀ t ∈ k, Nat.blt t N = true) → Sx.look (k.map (fun t => (t, a.tmps.getD t undef)) ++ flv) t = some v → a.tmps[t]? = some v ∨ (t ∉ k ∧ Sx.look flv t = some v) := by
    intro k
    induction k with
    | nil => intro _ hh; exact .inr ⟨by simp, hh⟩
    | cons q k ih =>
      intro hb hh
      simp only [List.map_cons, List.cons_append, Sx.look] at hh
      cases hbq : Nat.beq q t with
      | true =>
        rw [hbq] at hh
        have := Nat.eq_of_beq_eq_true hbq
        subst this
        simp only [cond_true, Option.some.injEq] at hh
        have hlt : q < a.tmps.size := by rw [hf.size]; simpa [Nat.blt_eq] using hb q (by simp)
        refine .inl ?_
        rw [← hh, Array.getD_eq_getD_getElem?, Array.getElem?_eq_getElem hlt]; rfl
      | false =>
        rw [hbq] at hh
        rcases ih (fun t ht => hb t (List.mem_cons_of_mem _ ht)) hh with h5 | ⟨h5, h6⟩
        · exact .inl h5
        · refine .inr ⟨fun hm => ?_, h6⟩
          rcases List.mem_cons.1 hm with e5 | e5
          · subst e5; simp at hbq
          · exact h5 e5
  rcases key kill hk hl with h5 | ⟨h5, h6⟩
  · exact h5
  · have hks := look_keys h0 h6
    have hnd : t ∉ dv'.map (·.1) := fun hm => by
      rw [kd] at hm
      obtain ⟨p, hp1, hp2⟩ := List.mem_map.1 hm
      have := hc p hp1
      simp only [Bool.or_eq_true, Bool.not_eq_true', List.contains_iff_mem] at this
      rw [hp2] at this
      rcases this with h7 | h7
      · have := List.contains_iff_mem.2 hks; rw [this] at h7; cases h7
      · exact h5 h7
    refine hf.look t v ?_
    rw [e2, look_app hnd]; exact h6
theorem any_is {kill : List Nat} {fl : SFL} {flv : FL} (h : FLIs e fl flv) (g : Nat → Value) : FLIs e (T0fl kill fl) (kill.map (fun t => (t, g t)) ++ flv) := by
  unfold T0fl
  induction kill with
  | nil => exact h
  | cons t k ih => exact ⟨rfl, .any _, ih⟩
end Go.K
namespace Go.K
open Go.Sl Go.Sx
variable {e e' e0 : KE} {σ σ' : List Blk} {As As0 L0 L A' : List Atom} {P : Program} {w : World} {N : Nat} {fl : SFL} {flv flv' : FL} {ρ : Type} {h : Zone} {a : Act} {ds : List Deferred} {z : Zone}
variable {C : FuncId → Option Con} {SP : FuncId → Sp} {lf : Nat}
theorem st_take {id : Nat} {A : Atom} (hs : St z (As ++ L0) w) (hA : at' As id = some A) : St z (setAt As id emp ++ (A :: L0)) w := by
  have h1 := hs.split (i := As.length - 1 - id) (A := A) (B := A) (C := emp) (Mem.atom hA) fun z hz => ⟨z, Hp.nil, hz, rfl, Hp.apart_nil _, (Hp.add_nil z).symm⟩
  rw [setAt_app (at_lt hA)] at h1
  exact h1.perm List.perm_middle.symm
theorem st_back {id : Nat} {A : Atom} (hs : St z (As ++ (A :: L0)) w) (hid : id < As.length) : St z (setAt As id A ++ L0) w := by
  have hj : As.length - 1 - id < As.length := by omega
  have e1 : As = As.take (As.length - 1 - id) ++ As[As.length - 1 - id] :: As.drop (As.length - 1 - id + 1) := by
    rw [← List.drop_eq_getElem_cons hj, List.take_append_drop]
  have e2 : setAt As id A = As.take (As.length - 1 - id) ++ A :: As.drop (As.length - 1 - id + 1) := by
    unfold setAt; rw [List.set_eq_take_append_cons_drop, if_pos hj]
  rw [e1] at hs
  rw [e2]
  generalize As.take (As.length - 1 - id) = X at *
  generalize As.drop (As.length - 1 - id + 1) = Y at *
  generalize As[As.length - 1 - id] = B at *
  have p : ((X ++ B :: Y) ++ (A :: L0)).Perm (B :: ((X ++ A :: Y) ++ L0)) := by
    have p1 : ((X ++ B :: Y) ++ (A :: L0)).Perm (B :: ((X ++ Y) ++ (A :: L0))) := List.Perm.append_right (A :: L0) (List.perm_middle (l₁ := X) (l₂ := Y) (a := B))
    have p2 : ((X ++ Y) ++ (A :: L0)).Perm ((X ++ A :: Y) ++ L0) := by
      have q1 : ((X ++ Y) ++ (A :: L0)).Perm (A :: ((X ++ Y) ++ L0)) := List.perm_middle
      have q2 : ((X ++ A :: Y) ++ L0).Perm (A :: ((X ++ Y) ++ L0)) := List.Perm.append_right L0 (List.perm_middle (l₁ := X) (l₂ := Y) (a := A))
      exact q1.trans q2.symm
    exact p1.trans (p2.cons B)
  exact (hs.perm p).tail
theorem ExtM.rest {m m2 : KM} {id : Nat} {B : Blk} (hB : at' m.σ id = some B) (hne : ∀ T cs, B ≠ .cells T cs) (h : ExtM ⟨setAt m.σ id .gone, m.lg⟩ m2) : ExtM m ⟨setAt m2.σ id B, m2.lg⟩ := by
  obtain ⟨d, h⟩ := h
  have hid := at_lt hB
  have hlen : m.σ.length ≤ m2.σ.length := by have := h.len; rwa [len_setAt] at this
  refine ⟨d, h.lg, by rw [len_setAt]; exact hlen, fun {j T cs} hj => ?_, fun {j B'} hj hne' hn => ?_⟩
  · have hij : id ≠ j := fun e => by subst e; rw [hB] at hj; exact hne _ _ (Option.some.inj hj)
    obtain ⟨cs', h1, h2, h3⟩ := h.cells (id := j) (T := T) (cs := cs) (by rw [at_set_ne hid hij]; exact hj)
    exact ⟨cs', by show at' (setAt m2.σ id B) j = _; rw [at_set_ne (by omega) hij]; exact h1, h2, h3⟩
  · by_cases hij : id = j
    · subst hij
      rw [hB] at hj; cases hj
      exact at_set (by omega)
    · show at' (setAt m2.σ id B) j = _
      rw [at_set_ne (by omega) hij]
      exact h.other (by rw [at_set_ne hid hij]; exact hj) hne' hn
theorem ExtM.rest' {m m2 : KM} {id : Nat} {B B' : Blk} (hB : at' m.σ id = some B) (hne : ∀ T cs, B ≠ .cells T cs) (h : ExtM ⟨setAt m.σ id .gone, m.lg⟩ m2) : ExtM m ⟨setAt m2.σ id B', (id, 0) :: m2.lg⟩ := by
  obtain ⟨d, h⟩ := h
  have hid := at_lt hB
  have hlen : m.σ.length ≤ m2.σ.length := by have := h.len; rwa [len_setAt] at this
  refine ⟨(id, 0) :: d, by simp [h.lg], by rw [len_setAt]; exact hlen, fun {j T cs} hj => ?_, fun {j B'} hj hne' hn => ?_⟩
  · have hij : id ≠ j := fun e => by subst e; rw [hB] at hj; exact hne _ _ (Option.some.inj hj)
    obtain ⟨cs', h1, h2, h3⟩ := h.cells (id := j) (T := T) (cs := cs) (by rw [at_set_ne hid hij]; exact hj)
    exact ⟨cs', by show at' (setAt m2.σ id _) j = _; rw [at_set_ne (by omega) hij]; exact h1, h2, fun off ho => h3 off fun hm => ho (List.mem_cons_of_mem _ hm)⟩
  · by_cases hij : id = j
    · subst hij
      exact absurd (List.mem_cons_self ..) hn
    · show at' (setAt m2.σ id _) j = _
      rw [at_set_ne (by omega) hij]
      exact h.other (by rw [at_set_ne hid hij]; exact hj) hne' fun hm => hn (List.mem_cons_of_mem _ hm)
theorem setAt_app' {α : Type} {l X : List α} {id : Nat} {x : α} (h : id < X.length) : setAt (l ++ X) id x = l ++ setAt X id x := by
  unfold setAt
  rw [List.length_append, show l.length + X.length - 1 - id = l.length + (X.length - 1 - id) by omega, List.set_append_right _ _ (by omega)]
  congr 2
  omega
theorem setAt_setAt {α : Type} {X : List α} {id : Nat} {x y : α} (h : at' X id = some y) : setAt (setAt X id x) id y = X := by
  have := at_pos h
  unfold setAt
  rw [List.length_set, List.set_set]
  exact list_set_same this
noncomputable def yrF (P : Program) (C : FuncId → Option Con) (SP : FuncId → Sp) (lf n : Nat) (ρ : Type) : RunY ρ := fun id args m k => match at' m.σ id with
      | some (.loop g' N' fl ps A B .ready) => bif Nat.beq args.length ps.size && ps.toList.all (fun t => Nat.blt t N') then
          exec P C SP lf n false g' N' A ⟨yFLS ps.toList args fl, ⟨setAt m.σ id .gone, m.lg⟩, [], false⟩ (fun x s1 => match x with
            | .nrm => exec P C SP lf n false g' N' B s1 (fun x s2 => match x with
              | .nrm => k true ⟨setAt s2.m.σ id (.loop g' N' fl ps A B .ready), s2.m.lg⟩
              | .ret => k false ⟨setAt s2.m.σ id (.loop g' N' fl ps A B (.done none)), (id, 0) :: s2.m.lg⟩
              | .ext i => k false ⟨setAt s2.m.σ id (.loop g' N' fl ps A B (.done (some i))), (id, 0) :: s2.m.lg⟩
              | .pan _ => none)
            | _ => none)
        else none
      | _ => none
theorem ptrsF_is : ∀ {fl : SFL} {flv : FL}, FLIs e fl flv → ∃ vs, IsL e (ptrsF fl) vs
  | [], [], _ => ⟨[], .nil⟩
  | (k, s) :: fl, (k', v) :: flv, ⟨_, h2, h3⟩ => by
    obtain ⟨vs, hv⟩ := ptrsF_is h3
    unfold ptrsF at hv ⊢
    rw [List.map_cons, List.filter_cons]
    split
    · exact ⟨v :: vs, .cons h2 hv⟩
    · exact ⟨vs, hv⟩
  | [], _ :: _, h => h.elim
  | _ :: _, [], h => h.elim
theorem runO_program {α : Type} (g : Program → Sem α) (os : List Value) : runO P (program >>= g) os = runO P (g P) os := rfl
theorem invoke_runY {f : FuncId} {cs : List Value} {l : Nat} (h : callOK P f = true) : runO P (invoke (.fn (.func f) cs.toArray) #[.func (.yield l) #[] #[]]) [] = some (.enter f (#[.func (.yield l) #[] #[]] ++ cs.toArray), [], []) := by
  unfold callOK at h
  split at h
  · rename_i fn hfn
    simp only [Bool.and_eq_true, Bool.not_eq_true'] at h
    have hn : ¬ fn.name = "runtime.NumGoroutine" := by simpa using h.1
    have hnb : ¬ fn.body = none := fun e => by simp [e] at h
    simp [invoke, callFunc, runO_program, hfn, hn, hnb, runO]
    rfl
  · cases h
theorem yFLS_is : ∀ {ps : List Tmp} {l : List SV} {vs : List Value} {fl : SFL} {flv : FL}, IsL e l vs → FLIs e fl flv → FLIs e (yFLS ps l fl) ((ps.zip vs).foldl (fun t p => (p.1, p.2) :: t) flv)
  | [], l, vs, fl, flv, hl, hf => by simpa [yFLS] using hf
  | p :: ps, _, _, fl, flv, .nil, hf => by simpa [yFLS] using hf
  | p :: ps, _, _, fl, flv, .cons h t, hf => by
    have := yFLS_is (ps := ps) t (fl := (p, _) :: fl) (flv := (p, _) :: flv) ⟨rfl, h, hf⟩
    simpa [yFLS] using this
theorem yr_ok {Cl : List Atom → Prop} (hup : ∀ A L, Cl L → Cl (A :: L)) {n : Nat} (ih : ExecOk P C SP lf Cl n) (hcl : Cl L0) {id : Nat} {args : List SV} {vs : List Value} {m : KM} {k : Bool → KM → Option ρ} {r : ρ}
    (h : yrF P C SP lf n ρ id args m k = some r) (h1 : Mem e m.σ As) (h2 : St e.z (As ++ L0) w) (hl : IsL e args vs) {bi : BI} (hi : at' e.bs id = some bi)
    {R : Array Oper} {i : Nat} {d : Option Nat} {K : Act → World → Prop} {ro : Option Nat} {Q : Exit → Act → World → Prop} (hf : Fr a N flv ds) (ho : yieldAt R N i flv = some (d, bi.b, vs.toArray))
    (hk : ∀ b m' e' As' w' a', k b m' = some r → Go1 e As m e' As' m' → Mem e' m'.σ As' → St e'.z (As' ++ L0) w' → Fr a' N (putF flv d (.bool b)) ds → K a' w') : wpOpIn (WF ro) 0 P R Q i K a w := by
  unfold yrF at h
  split at h
  · rename_i g' N' fl ps A B hB
    cases hc : (Nat.beq args.length ps.size && ps.toList.all (fun t => Nat.blt t N')) with
    | false => rw [hc] at h; cases h
    | true =>
      rw [hc] at h
      simp only [cond_true] at h
      simp only [Bool.and_eq_true] at hc
      obtain ⟨i', A0, m1, m2, m3⟩ := h1.get hB
      rw [hi] at m1; cases m1
      have hne : ∀ T cs, (Blk.loop g' N' fl ps A B .ready) ≠ .cells T cs := fun _ _ e => by cases e
      cases m3 with
      | loop hfl =>
        rename_i flv0 D
        have hlen := hl.len
        have hst1 := st_take h2 m2
        have hidA := at_lt m2
        have hps : (Nat.beq vs.toArray.size ps.size && (ps.zip vs.toArray).toList.all fun p => Nat.blt p.1 N') = true := by
          rw [Bool.and_eq_true]
          refine ⟨by simpa [hlen] using hc.1, List.all_eq_true.2 fun p hp => ?_⟩
          have hp' : p ∈ ps.toList.zip vs := by simpa using hp
          exact List.all_eq_true.1 hc.2 p.1 (List.of_mem_zip hp').1
        refine p_yield (N0 := N') (fl0 := flv0) (ps := ps) (A := A) (B := B) (D := D) hf ho hst1 (j := (setAt As id emp).length) (by simp [LS.st, LS.pe]) hps fun a1 hf1 => ?_
        have hyf : FLIs e (yFLS ps.toList args fl) (yFL ps vs.toArray flv0) := by
          have := yFLS_is (ps := ps.toList) hl hfl
          unfold yFL
          rw [← Array.foldl_toList]
          simpa using this
        refine ih (hup _ _ hcl) h (fun hh => by cases hh) ⟨hf1, hyf, h1.set hi .gone, hst1, trivial, fun _ => rfl⟩ fun x s1 e1 A1 flv1 dv1 a2 w1 X q1 q2 q3 q4 q5 q6 => ?_
        cases x with
        | nrm =>
          have hX : X = .normal := q6
          subst hX
          show beginG P bi.b B (roundPost P bi.b (yR K N flv ds d)) a2 w1
          have hst5 := q5.st
          refine p_begin (j := A1.length + (mkA dv1).length) hst5 (by simp [LS.st, LS.pe]; rfl) fun w2 hst6 => ?_
          have e6 : (A1 ++ (mkA dv1 ++ (loopA bi.b N' flv0 ps A B D LS.ready.st LS.ready.pe :: L0))).set (A1.length + (mkA dv1).length) (loopA bi.b N' flv0 ps A B D .busy none) = A1 ++ (mkA dv1 ++ (loopA bi.b N' flv0 ps A B D .busy none :: L0)) := by
            rw [List.set_append_right _ _ (by omega), List.set_append_right _ _ (by omega)]
            simp
          rw [e6] at hst6
          refine ih (L0 := loopA bi.b N' flv0 ps A B D .busy none :: L0) (hup _ _ hcl) q1 (fun hh => by cases hh) ⟨q5.fr, q5.fl, q5.mem, hst6, q5.dI, q5.rI⟩ fun x s2 e2 A2 flv2 dv2 a3 w3 X r1 r2 r3 r4 r5 r6 => ?_
          have hgo := q4.trans r4
          have hi2 : at' e2.bs id = some bi := hgo.le.at hi
          have hidA2 : id < A2.length := by
            rw [← r5.mem.la, r5.mem.lb]; exact at_lt hi2
          have hj : (A2 ++ (mkA dv2 ++ (loopA bi.b N' flv0 ps A B D .busy none :: L0)))[A2.length + (mkA dv2).length]? = some (loopA bi.b N' flv0 ps A B D .busy none) := by
            rw [List.getElem?_append_right (by omega), List.getElem?_append_right (by omega)]
            simp
          have hset : ∀ X : Atom, (A2 ++ (mkA dv2 ++ (loopA bi.b N' flv0 ps A B D .busy none :: L0))).set (A2.length + (mkA dv2).length) X = A2 ++ (mkA dv2 ++ (X :: L0)) := fun X => by
            rw [List.set_append_right _ _ (by omega), List.set_append_right _ _ (by omega)]
            simp
          have hout : ∀ {X : Atom} {w' : World}, St e2.z (A2 ++ (mkA dv2 ++ (X :: L0))) w' → St e2.z (setAt A2 id X ++ L0) w' := fun {X w'} hs => by
            have hs2 : St e2.z (A2 ++ (mkA dv2 ++ [X]) ++ L0) w' := by simpa using hs
            have hs3 : St e2.z (A2 ++ (X :: L0)) w' := by simpa using St.cut hs2
            exact st_back hs3 hidA2
          have hfl2 := hfl.mono hgo.le
          cases x with
          | nrm =>
            have hX : X = .normal := r6
            subst hX
            refine p_roundN r5.st hj fun w' a' hst7 hf7 => ?_
            rw [hset] at hst7
            refine hk true _ e2 (setAt A2 id (loopA bi.b N' flv0 ps A B D .ready none)) w' a' r1 ⟨hgo.le, hgo.ext.rest hB hne, fun hlg => ?_⟩ (r5.mem.set hi2 (.loop (st := .ready) hfl2)) (hout hst7) hf7
            obtain ⟨l, hl2⟩ := hgo.az hlg
            refine ⟨l, ?_⟩
            rw [hl2, setAt_app' (by rw [len_setAt]; exact hidA)]
            congr 1
            exact setAt_setAt (y := loopA bi.b N' flv0 ps A B D .ready none) m2
          | ret =>
            have hX : X = .ret := r6
            subst hX
            refine p_roundR r5.st hj fun w' a' hst7 hf7 => ?_
            rw [hset] at hst7
            refine hk false _ e2 _ w' a' r1 ⟨hgo.le, hgo.ext.rest' hB hne, fun hlg => ?_⟩ (r5.mem.set hi2 (.loop (st := .done none) hfl2)) (hout hst7) hf7
            have := hgo.ext.lgle
            simp at hlg this
            omega
          | ext q =>
            have hX : X = .exit q := r6
            subst hX
            refine p_roundX r5.st hj fun w' a' hst7 hf7 => ?_
            rw [hset] at hst7
            refine hk false _ e2 _ w' a' r1 ⟨hgo.le, hgo.ext.rest' hB hne, fun hlg => ?_⟩ (r5.mem.set hi2 (.loop (st := .done (some q)) hfl2)) (hout hst7) hf7
            have := hgo.ext.lgle
            simp at hlg this
            omega
          | pan sv => cases r1
        | ret => cases q1
        | ext q => cases q1
        | pan sv => cases q1
  · cases h
theorem stepY_ok {Cl : List Atom → Prop} (hup : ∀ A L, Cl L → Cl (A :: L)) {n : Nat} (ih : ExecOk P C SP lf Cl n) (hcl : Cl L0) {R : Array Oper} {i : Nat} {m : KM} {k : SFL → KM → Option ρ} {r : ρ}
    (h : stepY (yrF P C SP lf n ρ) R N i fl m k = some r) (hf : Fr a N flv ds) (hl : FLIs e fl flv) (h1 : Mem e m.σ As) (h2 : St e.z (As ++ L0) w) {K : Act → World → Prop} {ro : Option Nat} {Q : Exit → Act → World → Prop}
    (hk : ∀ fl' flv' m' e' As' a' w', k fl' m' = some r → FX fl flv fl' flv' → Go1 e As m e' As' m' → Fr a' N flv' ds → FLIs e' fl' flv' → Mem e' m'.σ As' → St e'.z (As' ++ L0) w' → K a' w') : wpOpIn (WF ro) 0 P R Q i K a w := by
  unfold stepY at h
  split at h
  · cases h
  · rename_i o hR
    cases hd : dstOk N o with
    | false => rw [hd] at h; cases h
    | true =>
      rw [hd] at h
      simp only [cond_true] at h
      obtain ⟨fl1, flv1, fx, hf1, hl1, hor⟩ := grd_ok hf hl h
      rcases hor with ⟨hw, hrun⟩ | ⟨hw, hrun⟩
      · cases ho : opsOk fl1 o with
        | false => rw [ho] at hrun; cases hrun
        | true =>
          rw [ho] at hrun
          simp only [cond_true] at hrun
          split at hrun
          · rename_i id l hy
            unfold yldOf at hy
            split at hy
            · rename_i f args aT hop
              split at hy
              · rename_i id' fr l' hfv hlv
                cases hy
                obtain ⟨u0, _⟩ := evS_is h1 hl1 hfv
                have hargs := evL_is h1 hl1 hlv
                generalize hgv : ev flv1 f = gv at u0
                cases u0 with
                | yld hi hfr =>
                  rename_i bi vs'
                  have hat : yieldAt R N i flv1 = some (o.dst, bi.b, (args.toList.map (ev flv1)).toArray) := by
                    have hkn := opsOk_is hl1 ho
                    unfold yieldAt
                    rw [hR]
                    simp only [hw, hkn, Bool.true_and]
                    unfold dstOk at hd
                    cases hds : o.dst with
                    | none =>
                      simp only [cond_true, hop, hgv]
                      simp
                      apply Array.toList_inj.1
                      simp
                    | some d9 =>
                      rw [hds] at hd
                      simp only at hd
                      simp only [hd, cond_true, hop, hgv]
                      simp
                      apply Array.toList_inj.1
                      simp
                  exact yr_ok hup ih hcl hrun h1 h2 hargs hi hf1 hat fun b m' e' As' w' a' g1 g2 g3 g4 g5 => hk _ _ m' e' As' a' w' g1 (fx.trans (FX.put o.dst (.bool b) (.bool b))) g2 g5 ((hl1.mono g2.le).put (.bool b) o.dst) g3 g4
              · cases hy
            · cases hy
          · cases hrun
      · unfold wpOpIn
        rw [hR]
        simp only [wantedF_sound hf1 hw]
        rw [if_neg (by simp)]
        refine ⟨fun _ _ => trivial, ?_⟩
        exact hk _ _ m e As _ w hrun (fx.trans (FX.put o.dst (.raw undef) undef)) .refl (hf1.put hd undef) (hl1.put (.raw undef) o.dst) h1 h2
end Go.K
namespace Go.K
open Go.Sl Go.Sx
variable {e e' e0 : KE} {σ σ' : List Blk} {As As0 L0 L A' : List Atom} {P : Program} {w : World} {N : Nat} {fl : SFL} {flv flv' : FL} {ρ : Type} {h : Zone} {a : Act} {ds : List Deferred}
variable {C : FuncId → Option Con} {SP : FuncId → Sp} {lf : Nat}
variable {ro : Option Nat} {c : Code} {Q : Exit → Act → World → Prop}
theorem w_regP {ε : Px} (hc : (isReg false c && noDefer (cops c)) = true) (hP : ∀ ch a' w', ε ch a' w' → Q (.panic ch) a' w')
    (k : wpPlan ε P (cops c) [] (fun _ => True) (fun a w => Q .normal a w) (planSeq c) a w) : c.cw ro P Q a w := by
  simp only [Bool.and_eq_true] at hc
  obtain ⟨hc, hd⟩ := hc
  cases c <;> simp [isReg] at hc
  subst hc
  exact wpIn_region (wpOpsIn_of_plan (ε := ε) hd hP _ _ _ k fun _ _ h => h)
theorem w_regDP {ε : Px} (hm : P.follows .mixedOrders = true) (pl : PT) (m : List Nat) (S : World → Prop) (hε : PxOK (cops c) ε) (hP : ∀ ch a' w', ε ch a' w' → Q (.panic ch) a' w') (hB : drawT c pl m = true) (hS0 : S w.drew)
    (k : wpPlanS ε P (cops c) m (fun a w => Q .normal a w) pl true S a w.drew) : c.cw ro P Q a w := by
  simp only [drawT, Bool.and_eq_true] at hB
  obtain ⟨⟨hc, hd⟩, hs, hn⟩ := hB
  cases c <;> simp [isReg] at hc
  rename_i id ops b
  subst hc
  have k1 := wpAnyK_planS (ε := ε) hs hε _ pl true S _ a w.drew (Closed.none _) (by simp) (fun _ => hS0) (fun _ => rfl) hn k
  have k2 := wpAnyIn_of_K (ε := ε) (ro := ro) (Q := Q) hd (fun _ _ h => h) (fun c a w h => hP c a w h) _ _ _ _ k1
  exact wpIn_region_any hm k2
def PanR (L0 : List Atom) (N : Nat) (kill : List Nat) (s : KS) (flv : FL) (dv : List Deferred) (e : KE) (As : List Atom) (kp : SV → KM → Option ρ) (r : ρ) : Px := fun ch a w =>
  ∃ v sv m' e' As', ch = pch v ∧ kp sv m' = some r ∧ Go1 e As s.m e' As' m' ∧ Is e' sv v ∧ Mem e' m'.σ As' ∧ St e'.z (As' ++ L0) w ∧ ∃ g : Nat → Value, Fr a N (kill.map (fun t => (t, g t)) ++ flv) dv
theorem map_keys (kill : List Nat) (g : Nat → Value) : (kill.map (fun t => (t, g t))).map (·.1) = kill := by
  induction kill with
  | nil => rfl
  | cons t k ih => simp only [List.map_cons, ih]
theorem panR_ok {kill : List Nat} {s : KS} {dv : List Deferred} {kp : SV → KM → Option ρ} {r : ρ} {id : Nat} {ops : Array Oper} (hkl : kill = killOf (.region id ops true) s) (hk : ∀ t ∈ kill, Nat.blt t N = true) (h0 : FLIs e s.fl flv) : PxOK ops (PanR (mkA dv ++ L0) N kill s flv dv e As kp r) := by
  rintro i o u ch a w ho ⟨v, sv, m', e', As', h1, h2, h3, h4, h5, h6, g, hf⟩
  refine ⟨v, sv, m', e', As', h1, h2, h3, h4, h5, h6, fun t => a.tmps.getD t undef, ?_⟩
  have hsz : a.tmps.size = N := by
    have := hf.size
    cases hd : o.dst <;> simpa [hd, Act.put] using this
  refine ⟨hsz, by have := hf.defers; cases hd : o.dst <;> simpa [hd, Act.put] using this, fun t x hl => ?_⟩
  by_cases ht : t ∈ kill
  · have key : ∀ k : List Nat, t ∈ k → Sx.look (k.map (fun t => (t, a.tmps.getD t undef)) ++ flv) t = some (a.tmps.getD t undef) := by
      intro k
      induction k with
      | nil => intro h; cases h
      | cons q k ih =>
        intro h
        simp only [List.map_cons, List.cons_append, Sx.look]
        cases hb : Nat.beq q t with
        | true => have := Nat.eq_of_beq_eq_true hb; subst this; rfl
        | false =>
          refine ih ((List.mem_cons.1 h).resolve_left fun e => ?_)
          subst e; simp at hb
    rw [key kill ht] at hl
    cases hl
    have hlt : t < a.tmps.size := by rw [hsz]; simpa [Nat.blt_eq] using hk t ht
    rw [Array.getD_eq_getD_getElem?, Array.getElem?_eq_getElem hlt]; rfl
  · have hn1 : t ∉ (kill.map (fun t => (t, a.tmps.getD t undef))).map (·.1) := by rw [map_keys]; exact ht
    have hn2 : t ∉ (kill.map (fun t => (t, g t))).map (·.1) := by rw [map_keys]; exact ht
    rw [look_app hn1] at hl
    have h7 := hf.look t x (by rw [look_app hn2]; exact hl)
    cases hd : o.dst with
    | none => simpa [hd, Act.put] using h7
    | some d =>
      rw [hd] at h7
      simp only [Act.put] at h7
      have hne : d ≠ t := fun e => by
        subst e
        refine ht ?_
        rw [hkl]
        simp only [killOf, List.mem_filter, List.contains_iff_mem]
        refine ⟨?_, look_keys h0 hl⟩
        simp only [dstsOf, List.mem_filterMap]
        exact ⟨o, by have := Array.mem_of_getElem? ho; simpa using this, hd⟩
      rwa [Array.getElem?_setIfInBounds_ne hne] at h7
theorem lastDef_eq {ops : Array Oper} {o : Oper} (h : lastDef ops = some o) : ops[ops.size - 1]? = some o ∧ o.guard = none ∧ o.dst = none ∧ ∃ f ts, o.op = .defer { callee := .value f, args := #[], argTypes := ts } := by
  unfold lastDef at h
  split at h
  · rename_i o' ho
    split at h
    · rename_i f ts h1 h2 h3
      cases h
      exact ⟨ho, h2, h3, f, ts, h1⟩
    · cases h
  · cases h
theorem w_lastD {dd : Deferred} {dv : List Deferred} {ops : Array Oper} {o : Oper} {id : Nat} (hl : lastDef ops = some o)
    (k : wpPlan noP P ops [] (fun _ => True) (fun a w => ∃ (flv : FL) (dd : Deferred), Fr a N flv dv ∧ known flv o = true ∧ (execOp (ev flv) o).run P w = .ok (.defer dd) w ∧ ∀ a', Fr a' N flv (dd :: dv) → Q .normal a' w) ((List.range (ops.size - 1)).map fun i => (i, false)) a w) : (Code.region id ops false).cw none P Q a w := by
  obtain ⟨h1, h2, h3, f, ts, h4⟩ := lastDef_eq hl
  refine wpIn_region ?_
  have hsz : ops.size = (ops.size - 1) + 1 := by have := (Array.getElem?_eq_some_iff.1 h1).1; omega
  rw [hsz, List.range_succ]
  refine wpOpsIn_app0 _ _ _ _ k fun a w hk => ?_
  obtain ⟨flv, dd, hf, hkn, hrun, hq⟩ := hk
  rw [wpOpsIn_cons]
  show wpOpIn (WF none) 0 P ops Q (ops.size - 1) (fun a w => Q .normal a w) a w
  unfold wpOpIn
  have hw : Region.wanted o (yielded ops a.tmps) = true := by simp [Region.wanted, h2]
  simp only [h1, hw, if_true]
  refine ⟨fun _ _ => trivial, ?_⟩
  show o.uponIn (WF none) 0 P a _ Q ((execOp a.eval o).run P w)
  rw [hf.exec hkn, hrun]
  show Q .normal ({ a with defers := dd :: a.defers }.put o.dst undef) w
  rw [h3]
  exact hq _ ⟨hf.size, by show dd :: a.defers = dd :: dv; rw [hf.defers], hf.look⟩
theorem exec_ok {Cl : List Atom → Prop} (hup : ∀ A L, Cl L → Cl (A :: L)) (hP : P.follows .mixedOrders = true) (hC : ∀ L, Cl L → ∀ g con, C g = some con → ConOk P L con g) : ∀ n, ExecOk P C SP lf Cl n := by
  intro n
  induction n with
  | zero => intro L0 hcl ρ top g N c s k r h; simp [exec] at h
  | succ n ih =>
    intro L0 hcl ρ top g N c s k r h dv e As flv a w Q ro hro hr hk
    have hcm : Cl (mkA dv ++ L0) := cl_marks hup hcl dv
    cases c with
    | skip => simp only [exec] at h; exact w_skip (by rfl) (hk .nrm s e As flv dv a w _ h .refl .refl .refl hr rfl)
    | label l => simp only [exec] at h; exact w_skip (by rfl) (hk .nrm s e As flv dv a w _ h .refl .refl .refl hr rfl)
    | ret => simp only [exec] at h; exact w_ret (by rfl) (hk .ret s e As flv dv a w _ h .refl .refl .refl hr rfl)
    | exit id => simp only [exec] at h; exact w_exit (id := id) (by rfl) (hk (.ext id) s e As flv dv a w _ h .refl .refl .refl hr rfl)
    | scope c =>
      simp only [exec] at h
      refine w_scope (by rfl) (ih hcl h hro hr fun x s' e' As' flv' dv' a' w' X q1 q2 q3 q4 q5 q6 => ?_)
      have := hk x s' e' As' flv' dv' a' w' X q1 q2 q3 q4 q5 q6
      cases x with
      | nrm => have hX : X = .normal := q6; subst hX; exact this
      | ret => have hX : X = .ret := q6; subst hX; exact this
      | ext i => have hX : X = .exit i := q6; subst hX; exact this
      | pan sv => obtain ⟨v, rfl, _⟩ := q6; exact this
    | block id c =>
      simp only [exec] at h
      refine w_block (id := id) (by rfl) (ih hcl h hro hr fun x s' e' As' flv' dv' a' w' X q1 q2 q3 q4 q5 q6 => ?_)
      cases x with
      | nrm => have hX : X = .normal := q6; subst hX; exact hk .nrm s' e' As' flv' dv' a' w' _ q1 q2 q3 q4 q5 rfl
      | ret => have hX : X = .ret := q6; subst hX; exact hk .ret s' e' As' flv' dv' a' w' _ q1 q2 q3 q4 q5 rfl
      | pan sv => have q7 := q6; obtain ⟨v, rfl, _⟩ := q6; exact hk (.pan sv) s' e' As' flv' dv' a' w' _ q1 q2 q3 q4 q5 q7
      | ext i =>
        have hX : X = .exit i := q6
        subst hX
        simp only at q1
        cases hb : Nat.beq i id with
        | true =>
          rw [hb] at q1
          have := Nat.eq_of_beq_eq_true hb
          subst this
          exact x_block (hk .nrm s' e' As' flv' dv' a' w' _ q1 q2 q3 q4 q5 rfl)
        | false =>
          rw [hb] at q1
          exact x_pass hb (hk (.ext i) s' e' As' flv' dv' a' w' _ q1 q2 q3 q4 q5 rfl)
    | cond x c1 c2 =>
      cases x with
      | tmp t =>
        simp only [exec] at h
        split at h
        · rename_i b hl
          obtain ⟨v, h1, h2⟩ := hr.fl.look hl
          cases h2
          refine w_if hr.fr (b := b) (by simp [condV, condX, h1]) (fun hb => ?_) (fun hb => ?_)
          · subst hb; exact ih hcl h hro hr hk
          · subst hb; exact ih hcl h hro hr hk
        · cases h
      | _ => simp [exec] at h
    | seq c1 c2 =>
      simp only [exec] at h
      split at h
      · refine w_seq (by rfl) (ih hcl h hro hr fun x s' e' As' flv' dv' a' w' X q1 q2 q3 q4 q5 q6 => ?_)
        cases x with
        | nrm =>
          have hX : X = .normal := q6
          subst hX
          exact ih hcl q1 hro q5 fun x2 s2 e2 A2 f2 d2 a2 w2 X2 r1 r2 r3 r4 r5 r6 => hk x2 s2 e2 A2 f2 d2 a2 w2 X2 r1 (q2.trans r2) (q3.trans r3) (q4.trans r4) r5 r6
        | ext i => have hX : X = .exit i := q6; subst hX; exact hk (.ext i) s' e' As' flv' dv' a' w' _ q1 q2 q3 q4 q5 rfl
        | ret => have hX : X = .ret := q6; subst hX; exact hk .ret s' e' As' flv' dv' a' w' _ q1 q2 q3 q4 q5 rfl
        | pan sv => have q7 := q6; obtain ⟨v, rfl, _⟩ := q6; exact hk (.pan sv) s' e' As' flv' dv' a' w' _ q1 q2 q3 q4 q5 q7
      · rename_i l hl
        have hr0 : KR N L0 e As flv dv ⟨s.fl, s.m, s.ds, s.rg || hasRng c1⟩ a w := ⟨hr.fr, hr.fl, hr.mem, hr.st, hr.dI, fun hh => hr.rI (by
          have hh' : (s.rg || hasRng c1) = false := hh
          simp only [Bool.or_eq_false_iff] at hh'
          exact hh'.1)⟩
        have efl : (⟨s.fl, s.m, s.ds, s.rg || hasRng c1⟩ : KS).fl = s.fl := rfl
        have em : (⟨s.fl, s.m, s.ds, s.rg || hasRng c1⟩ : KS).m = s.m := rfl
        revert h hr0 efl em
        generalize (⟨s.fl, s.m, s.ds, s.rg || hasRng c1⟩ : KS) = s0
        intro h hr0 efl em
        rw [← efl, ← em] at hk
        cases hb : chk0 N (killL l s0 (killOf c1 s0)) l s0 with
        | false => rw [hb] at h; cases h
        | true =>
          rw [hb] at h
          simp only [cond_true] at h
          unfold jn at h
          split at h
          · rename_i y hy
            refine w_seq (by rfl) (ih hcl hy hro hr0 fun x s' e' As' flv' dv' a' w' X q1 q2 q3 q4 q5 q6 => ?_)
            cases x with
            | nrm =>
              have hX : X = .normal := q6
              subst hX
              have hle := outL_inl q1
              obtain ⟨f1, f2, e1, A1, g1, g2⟩ := frzV_ok (fl0 := s.fl) l q5
              obtain ⟨c', Ac, flvc, m1, m2, m3⟩ := meet hr0 g2 q3 (by rw [f1]; exact q2) (q4.trans g1) hb hle
              exact ih hcl h hro m1 fun x2 s2 e2 A2 f2 d2 a2 w2 X2 r1 r2 r3 r4 r5 r6 => hk x2 s2 e2 A2 f2 d2 a2 w2 X2 r1 (m2.trans r2) (q3.trans r3) (m3.trans r4) r5 r6
            | ext i => exact (outR_inl q1).elim
            | ret => exact (outR_inl q1).elim
            | pan sv => exact (outR_inl q1).elim
          · rename_i r' hy
            cases h
            refine w_seq (by rfl) (ih hcl hy hro hr0 fun x s' e' As' flv' dv' a' w' X q1 q2 q3 q4 q5 q6 => ?_)
            cases x with
            | nrm => exact (outL_inr q1).elim
            | ext i => have hX : X = .exit i := q6; subst hX; exact hk (.ext i) s' e' As' flv' dv' a' w' _ (outR_inr q1) q2 q3 q4 q5 rfl
            | ret => have hX : X = .ret := q6; subst hX; exact hk .ret s' e' As' flv' dv' a' w' _ (outR_inr q1) q2 q3 q4 q5 rfl
            | pan sv => have q7 := q6; obtain ⟨v, rfl, _⟩ := q6; exact hk (.pan sv) s' e' As' flv' dv' a' w' _ (outR_inr q1) q2 q3 q4 q5 q7
          · cases h
    | loop c =>
      simp only [exec] at h
      split at h
      · cases h
      · rename_i l hl
        have hr0 : KR N L0 e As flv dv ⟨s.fl, s.m, s.ds, s.rg || hasRng c⟩ a w := ⟨hr.fr, hr.fl, hr.mem, hr.st, hr.dI, fun hh => hr.rI (by
          have hh' : (s.rg || hasRng c) = false := hh
          simp only [Bool.or_eq_false_iff] at hh'
          exact hh'.1)⟩
        obtain ⟨f1, f2, e1, A1, g1, g2⟩ := frzV_ok (fl0 := s.fl) l hr0
        revert h f1 f2 g1 g2
        generalize frzV s.fl l ⟨s.fl, s.m, s.ds, s.rg || hasRng c⟩ = s1
        intro h f1 f2 g1 g2
        cases hb : chk0 N (killL l s1 (killOf c s1)) l s1 with
        | false => rw [hb] at h; cases h
        | true =>
          rw [hb] at h
          simp only [cond_true] at h
          split at h
          · rename_i y0 hy0
            obtain ⟨c0, Ac, flvc, m1, m2, m3⟩ := meet g2 g2 .refl .refl .refl hb hy0
            refine w_loop (by rfl) (fun j a w => ∃ (y : vty l) (e2 : KE) (A2 : List Atom) (f2 : FL) (d2 : List Deferred), DX dv d2 ∧ iter j (fun y => exec P C SP lf n top g N c (tmpl (killL l s1 (killOf c s1)) l s1 y) (fun x s' => match x with
              | .nrm => outL (leaf (killL l s1 (killOf c s1)) l s1 (frzV s1.fl l s'))
              | x => outR (k x s'))) y = some r ∧ FX s1.fl flv (tmpl (killL l s1 (killOf c s1)) l s1 y).fl f2 ∧ Go1 e1 A1 s1.m e2 A2 (tmpl (killL l s1 (killOf c s1)) l s1 y).m ∧ KR N L0 e2 A2 f2 d2 (tmpl (killL l s1 (killOf c s1)) l s1 y) a w) lf ⟨y0, c0, Ac, flvc, dv, .refl, h, m2, m3, m1⟩ ?_
            rintro j a2 w2 ⟨y, e2, A2, f2', d2, hdv, hit, hx, hg, hkr⟩
            cases j with
            | zero => cases hit
            | succ j =>
              simp only [iter] at hit
              split at hit
              · rename_i y' hy'
                refine ih hcl hy' hro hkr fun x s' e' As' flv' dv' a' w' X q1 q2 q3 q4 q5 q6 => ?_
                cases x with
                | nrm =>
                  have hX : X = .normal := q6
                  subst hX
                  have hle := outL_inl q1
                  obtain ⟨f3, f4, e3, A3, g3, g4⟩ := frzV_ok (fl0 := s1.fl) l q5
                  obtain ⟨c', Ac', flvc', n1, n2, n3⟩ := meet g2 g4 (hdv.trans q3) (by rw [f3]; exact hx.trans q2) (hg.trans (q4.trans g3)) hb hle
                  exact ⟨j, Nat.lt_succ_self j, y', c', Ac', flvc', dv', hdv.trans q3, hit, n2, n3, n1⟩
                | ext i => exact (outR_inl q1).elim
                | ret => exact (outR_inl q1).elim
                | pan sv => exact (outR_inl q1).elim
              · rename_i r' hy'
                cases hit
                refine ih hcl hy' hro hkr fun x s' e' As' flv' dv' a' w' X q1 q2 q3 q4 q5 q6 => ?_
                have hxx : FX s.fl flv s'.fl flv' := by rw [← f1]; exact hx.trans q2
                cases x with
                | nrm => exact (outL_inr q1).elim
                | ext i => have hX : X = .exit i := q6; subst hX; exact hk (.ext i) s' e' As' flv' dv' a' w' _ (outR_inr q1) hxx (hdv.trans q3) (g1.trans (hg.trans q4)) q5 rfl
                | ret => have hX : X = .ret := q6; subst hX; exact hk .ret s' e' As' flv' dv' a' w' _ (outR_inr q1) hxx (hdv.trans q3) (g1.trans (hg.trans q4)) q5 rfl
                | pan sv => have q7 := q6; obtain ⟨v, rfl, _⟩ := q6; exact hk (.pan sv) s' e' As' flv' dv' a' w' _ (outR_inr q1) hxx (hdv.trans q3) (g1.trans (hg.trans q4)) q5 q7
              · cases hit
          · cases h
    | region id ops d =>
      cases d with
      | false =>
        simp only [exec] at h
        obtain ⟨fl1, flv1, fx, hf1, hl1, h⟩ := nzS_ok hr.mem _ h hr.fr hr.fl
        have hr1 : KR N L0 e As flv1 dv ⟨fl1, s.m, s.ds, s.rg⟩ a w := ⟨hf1, hl1, hr.mem, hr.st, hr.dI, hr.rI⟩
        have hk1 : ∀ x s' e' As' flv' dv' a' w' X, k x s' = some r → FX (⟨fl1, s.m, s.ds, s.rg⟩ : KS).fl flv1 s'.fl flv' → DX dv dv' → Go1 e As (⟨fl1, s.m, s.ds, s.rg⟩ : KS).m e' As' s'.m → KR N L0 e' As' flv' dv' s' a' w' → XIs e' x X → Q X a' w' := fun x s' e' As' flv' dv' a' w' X q1 q2 q3 q4 q5 q6 => hk x s' e' As' flv' dv' a' w' X q1 (fx.trans q2) q3 q4 q5 q6
        obtain ⟨s1, hs1⟩ : ∃ s1 : KS, s1 = ⟨fl1, s.m, s.ds, s.rg⟩ := ⟨_, rfl⟩
        have ea : fl1 = s1.fl := by rw [hs1]
        have eb : s.m = s1.m := by rw [hs1]
        have ec : s.ds = s1.ds := by rw [hs1]
        have ed : s.rg = s1.rg := by rw [hs1]
        rw [← hs1] at hr1 hk1
        rw [ea, eb, ec, ed] at h
        clear hk hr ea eb ec ed hs1 hf1 hl1 fx
        revert h hr1 hk1
        revert s1 flv1
        intro flv s h hk hr
        cases hb : noDefer ops with
        | false =>
          rw [hb] at h
          simp only [cond_false] at h
          split at h
          · rename_i o hlo
            cases top with
            | false => cases h
            | true =>
              simp only [cond_true] at h
              cases hro rfl
              refine w_lastD (N := N) (dv := dv) (dd := default) hlo ?_
              refine seqX_ok (ε := noP) (R := ops) (call_ok hup hC ih hcm) (List.range (ops.size - 1)) h hr.fr hr.fl hr.mem hr.st (fun fl' flv' m' e' As' a' w' q1 q2 q3 q4 q5 q6 q7 => ?_) (fun s v fl' flv' m' e' As' a' w' q1 => by cases q1)
              cases hoo : opsOk fl' o with
              | false => rw [hoo] at q1; cases q1
              | true =>
                rw [hoo] at q1
                simp only [cond_true] at q1
                split at q1
                · rename_i d hd
                  obtain ⟨_, _, _, f, ts, hop⟩ := lastDef_eq hlo
                  simp only [defOf, hop] at hd
                  split at hd
                  · rename_i gg cc hfv
                    cases hd
                    obtain ⟨u0, _⟩ := evS_is q6 q5 hfv
                    generalize hgv : ev flv' f = gv at u0
                    cases u0 with
                    | fn hx hc =>
                      rename_i vs us
                      cases hx
                      refine ⟨flv', { target := .fn (.func gg) us.toArray, args := #[] }, q4, opsOk_is q5 hoo, ?_, fun a2 hf2 => ?_⟩
                      · simp [execOp, hop, resolve, hgv, Deferred.ofValue]
                      · exact hk .nrm ⟨fl', m', (gg, cc) :: s.ds, s.rg⟩ e' As' flv' _ a2 w' _ q1 q2 ⟨[_], rfl⟩ q3 ⟨hf2, q5, q6, q7, ⟨⟨us, rfl, hc⟩, hr.dI.mono q3.le⟩, hr.rI⟩ rfl
                  · cases hd
                · cases q1
          · cases h
        | true =>
          rw [hb] at h
          simp only [cond_true] at h
          split at h
          · rename_i i hy
            have hlt : i < ops.size := by
              cases hany : s.fl.any (fun p => isY p.2) with
              | false => rw [hany] at hy; cases hy
              | true =>
                rw [hany] at hy
                have := List.mem_of_find?_eq_some (show (List.range ops.size).find? _ = some i from hy)
                exact List.mem_range.1 this
            refine w_regY (ro := ro) i (by show (true && (noDefer ops && Nat.blt i ops.size)) = true; rw [hb]; simpa [Nat.blt_eq] using hlt) ?_
            refine seqX_ok (ε := noP) (R := ops) (call_ok hup hC ih hcm) (List.range i) h hr.fr hr.fl hr.mem hr.st (fun fl1 flv1 m1 e1 As1 a1 w1 q1 q2 q3 q4 q5 q6 q7 => ?_) (fun s v fl' flv' m' e' As' a' w' q1 => by cases q1)
            refine stepY_ok hup ih hcm q1 q4 q5 q6 q7 fun fl2 flv2 m2 e2 As2 a2 w2 r1 r2 r3 r4 r5 r6 r7 => ?_
            refine seqX_ok (ε := noP) (R := ops) (call_ok hup hC ih hcm) (List.range' (i + 1) (ops.size - (i + 1))) r1 r4 r5 r6 r7 (fun fl3 flv3 m3 e3 As3 a3 w3 u1 u2 u3 u4 u5 u6 u7 => ?_) (fun s v fl' flv' m' e' As' a' w' q1 => by cases q1)
            exact hk .nrm ⟨fl3, m3, s.ds, s.rg⟩ e3 As3 flv3 dv a3 w3 _ u1 (q2.trans (r2.trans u2)) .refl (q3.trans (r3.trans u3)) ⟨u4, u5, u6, u7, hr.dI.mono (q3.trans (r3.trans u3)).le, hr.rI⟩ rfl
          refine w_regP (ε := fun ch a w => Q (.panic ch) a w) (by show (true && noDefer ops) = true; rw [hb]; rfl) (fun _ _ _ h => h) ?_
          exact seqX_ok (R := ops) (call_ok hup hC ih hcm) (List.range ops.size) h hr.fr hr.fl hr.mem hr.st (fun fl' flv' m' e' As' a' w' q1 q2 q3 q4 q5 q6 q7 => hk .nrm ⟨fl', m', s.ds, s.rg⟩ e' As' flv' dv a' w' _ q1 q2 .refl q3 ⟨q4, q5, q6, q7, hr.dI.mono q3.le, hr.rI⟩ rfl)
            (fun sv v fl' flv' m' e' As' a' w' q1 q2 q3 q4 q5 q6 q7 q8 => hk (.pan sv) ⟨fl', m', s.ds, s.rg⟩ e' As' flv' dv a' w' _ q1 q2 .refl q3 ⟨q4, q5, q7, q8, hr.dI.mono q3.le, hr.rI⟩ ⟨v, rfl, q6⟩)
      | true =>
        simp only [exec] at h
        obtain ⟨f1, f2, e1, A1, g1, g2⟩ := frzV_ok (fl0 := s.fl) ((findN (SP g).fz id).getD []) hr
        generalize frzV s.fl ((findN (SP g).fz id).getD []) s = s1 at h f1 f2 g1 g2
        have hk1 : ∀ x s' e' As' flv' dv' a' w' X, k x s' = some r → FX s1.fl flv s'.fl flv' → DX dv dv' → Go1 e1 A1 s1.m e' As' s'.m → KR N L0 e' As' flv' dv' s' a' w' → XIs e' x X → Q X a' w' := fun x s' e' As' flv' dv' a' w' X q1 q2 q3 q4 q5 q6 => hk x s' e' As' flv' dv' a' w' X q1 (by rw [← f1]; exact q2) q3 (g1.trans q4) q5 q6
        clear hk hr f1 f2 g1
        revert h g2 hk1
        revert s1 e1 A1
        intro e As s h hr hk
        cases hsf : findN (SP g).soft id with
        | some nf =>
          rw [hsf] at h
          simp only at h
          generalize (findN (SP g).pl id).getD (planS ops nf ops.size (Array.replicate ops.size false)) = pl at h
          cases hb : drawT (.region id ops true) pl [] with
          | false => rw [hb] at h; cases h
          | true =>
            rw [hb] at h
            simp only [cond_true] at h
            have hst : St e.z (As ++ (mkA dv ++ L0)) w.drew := hr.st.drew
            obtain ⟨hkp, hga⟩ := Kp.start hr.mem
            refine w_regDP (ε := noP) hP pl [] (WM e (wkA s.m.σ As) (mkA dv ++ L0)) (fun _ _ _ _ _ _ _ hh => hh.elim) (fun _ _ _ hh => hh.elim) hb (hkp.wm (Zone.le_refl _) hst) ?_
            exact drwS_ok (ε := noP) hga hr.mem.weak pl h (fun _ => rfl) hkp .rfl hr.fr hr.fl hr.mem hst (fun fl' flv' m' e' As' a' w' q1 q2 q3 q4 q5 q6 q7 => hk .nrm ⟨fl', m', s.ds, s.rg⟩ e' As' flv' dv a' w' _ q1 q2 .refl q3 ⟨q4, q5, q6, q7, hr.dI.mono q3.le, hr.rI⟩ rfl)
        | none =>
        rw [hsf] at h
        simp only at h
        generalize lateOf ((SP g).wr.contains id) (SP g).pu ops = mL at h
        split at h
        · rename_i i hy
          generalize (planY ops mL i).1 = pl at h
          generalize (planY ops mL i).2 = pl2 at h
          cases hb : drawYS (.region id ops true) i pl pl2 mL with
          | false => rw [hb] at h; cases h
          | true =>
            rw [hb] at h
            simp only [cond_true] at h
            have hst : St e.z (As ++ (mkA dv ++ L0)) w.drew := hr.st.drew
            refine w_regDYS (ro := ro) hP i pl pl2 mL (WM e As (mkA dv ++ L0)) hb ⟨e.z, Zone.le_refl _, hst⟩ ?_
            refine drwX_ok (ε := noP) (R := ops) (call_ok hup hC ih hcm) pl h (fun _ => rfl) (fun _ => rfl) hr.fr hr.fl hr.mem hst (fun fl1 flv1 m1 e1 As1 a1 w1 q1 q2 q3 q4 q5 q6 q7 => ?_) (fun s v fl' flv' m' e' As' a' w' q1 => by cases q1)
            refine stepY_ok hup ih hcm q1 q4 q5 q6 q7 fun fl2 flv2 m2 e2 As2 a2 w2 r1 r2 r3 r4 r5 r6 r7 => ?_
            refine drwX_ok (ε := noP) (R := ops) (call_ok hup hC ih hcm) pl2 r1 (fun hh => by cases hh) (fun hh => by cases hh) r4 r5 r6 r7 (fun fl3 flv3 m3 e3 As3 a3 w3 u1 u2 u3 u4 u5 u6 u7 => ?_) (fun s v fl' flv' m' e' As' a' w' q1 => by cases q1)
            exact hk .nrm ⟨fl3, m3, s.ds, s.rg⟩ e3 As3 flv3 dv a3 w3 _ u1 (q2.trans (r2.trans u2)) .refl (q3.trans (r3.trans u3)) ⟨u4, u5, u6, u7, hr.dI.mono (q3.trans (r3.trans u3)).le, hr.rI⟩ rfl
        generalize hkl : killOf (.region id ops true) s = kill at h
        generalize (findN (SP g).pl id).getD (planG ops mL ops.size (Array.replicate ops.size false)) = pl at h
        cases hb : (drawT (.region id ops true) pl mL && kill.all (fun t => Nat.blt t N)) with
        | false => rw [hb] at h; cases h
        | true =>
          rw [hb] at h
          simp only [cond_true] at h
          simp only [Bool.and_eq_true, List.all_eq_true] at hb
          have hst : St e.z (As ++ (mkA dv ++ L0)) w.drew := hr.st.drew
          refine w_regDP (ε := PanR (mkA dv ++ L0) N kill s flv dv e As (fun sv m => k (.pan sv) ⟨T0fl kill s.fl, m, s.ds, s.rg⟩) r) hP pl mL (WM e As (mkA dv ++ L0)) (panR_ok hkl.symm hb.2 hr.fl) ?_ hb.1 ⟨e.z, Zone.le_refl _, hst⟩ ?_
          · rintro ch a' w' ⟨v, sv, m', e', As', rfl, k2, k3, k4, k5, k6, g', k7⟩
            exact hk (.pan sv) ⟨T0fl kill s.fl, m', s.ds, s.rg⟩ e' As' _ dv a' w' _ k2 ⟨kill.map (fun t => (t, SV.any)), kill.map (fun t => (t, g' t)), rfl, rfl, by simp⟩ .refl k3 ⟨k7, any_is (hr.fl.mono k3.le) g', k5, k6, hr.dI.mono k3.le, hr.rI⟩ ⟨v, rfl, k4⟩
          · refine drwX_ok (R := ops) (call_ok hup hC ih hcm) pl h (fun _ => rfl) (fun _ => rfl) hr.fr hr.fl hr.mem hst (fun fl' flv' m' e' As' a' w' q1 q2 q3 q4 q5 q6 q7 => hk .nrm ⟨fl', m', s.ds, s.rg⟩ e' As' flv' dv a' w' _ q1 q2 .refl q3 ⟨q4, q5, q6, q7, hr.dI.mono q3.le, hr.rI⟩ rfl) ?_
            intro sv v fl' flv' m' e' As' a' w' q1 q2 q3 q4 q5 q6 q7 q8
            unfold kpD at q1
            cases hbb : ((fl'.take (fl'.length - s.fl.length)).all (fun p => !(keysS s.fl).contains p.1 || kill.contains p.1) && kill.all (fun t => (keysS s.fl).contains t)) with
            | false => rw [hbb] at q1; cases q1
            | true =>
              rw [hbb] at q1
              simp only [cond_true] at q1
              simp only [Bool.and_eq_true, List.all_eq_true] at hbb
              exact ⟨v, sv, m', e', As', rfl, q1, q3, q6, q7, q8, _, fr_kill q4 hr.fl q5 q2 hb.2 hbb.1⟩
    | rangeFunc x ps A B =>
      cases x with
      | tmp t =>
        simp only [exec] at h
        cases top with
        | false => cases h
        | true =>
          simp only [cond_true] at h
          cases hro rfl
          split at h
          · rename_i gf caps hlk
            cases hok : callOK P gf with
            | false => rw [hok] at h; cases h
            | true =>
              rw [hok] at h
              simp only [cond_true] at h
              obtain ⟨v, hv, hvi⟩ := hr.fl.look hlk
              cases hvi with
              | fn hx hcaps =>
                rename_i vs us
                cases hx
                refine w_range (c := .rangeFunc (.tmp t) ps A B) (g := t) (gf := gf) (lb := us.toArray) rfl hr.fr hr.st hv (fun l => ?_) fun ps' A' B' e1 e2 e3 l D w' hst => ?_
                · have := invoke_runY (P := P) (cs := us) (l := l) hok
                  exact this
                · subst e1 e2 e3
                  have hn := hr.mem.lb
                  have hm2 : Mem ((e.push ⟨D, none, 0, 0⟩).push ⟨l, none, 0, 0⟩) (.loop g N s.fl ps' A' B' .ready :: .defm :: s.m.σ) (loopA l N flv ps' A' B' D .ready none :: defA D :: As) :=
                    (hr.mem.push (i := ⟨D, none, 0, 0⟩) (B := .defm) .defm).push (i := ⟨l, none, 0, 0⟩) (B := .loop g N s.fl ps' A' B' .ready) (.loop (st := .ready) ((hr.fl.mono (e.le_push _)).mono (KE.le_push _ _)))
                  have hle2 : e.le ((e.push ⟨D, none, 0, 0⟩).push ⟨l, none, 0, 0⟩) := (e.le_push _).trans (KE.le_push _ _)
                  have hatL : at' ((e.push ⟨D, none, 0, 0⟩).push ⟨l, none, 0, 0⟩).bs (s.m.σ.length + 1) = some ⟨l, none, 0, 0⟩ := by
                    rw [hn]; exact at_new (l := (⟨D, none, 0, 0⟩ :: e.bs))
                  have hatD : at' ((e.push ⟨D, none, 0, 0⟩).push ⟨l, none, 0, 0⟩).bs s.m.σ.length = some ⟨D, none, 0, 0⟩ := by
                    rw [hn]; exact at_cons at_new
                  obtain ⟨pv, hpv⟩ := ptrsF_is (hr.fl.mono hle2)
                  have hargs : IsL ((e.push ⟨D, none, 0, 0⟩).push ⟨l, none, 0, 0⟩) (.yld (s.m.σ.length + 1) (ptrsF s.fl) :: caps) (.func (.yield l) #[] #[] :: us) := .cons (.yld (i := ⟨l, none, 0, 0⟩) hatL hpv) (hcaps.mono hle2)
                  have hst2 : St ((e.push ⟨D, none, 0, 0⟩).push ⟨l, none, 0, 0⟩).z ((loopA l N flv ps' A' B' D .ready none :: defA D :: As) ++ (mkA dv ++ L0)) w' := hst
                  have hcall := call_ok hup hC ih hcm h hm2 hst2 hargs
                  have harr : (#[Value.func (.yield l) #[] #[]] ++ us.toArray) = (Value.func (.yield l) #[] #[] :: us).toArray := by simp
                  rw [harr]
                  refine Calls.mono hcall ?_
                  rintro en w2 ⟨c, m', e', As', k1, k2, k3, k4, k5⟩
                  cases c with
                  | pan sv => cases k1
                  | val sv =>
                    obtain ⟨rv, rfl, _⟩ := k2
                    refine ⟨rv, rfl, fun a' hfa => ?_⟩
                    simp only at k1
                    split at k1
                    · rename_i g1 N1 fl1 ps1 A1 B1 st hB1 hB2
                      obtain ⟨i1, X1, p1, p2, p3⟩ := k4.get hB1
                      obtain ⟨i2, X2, o1, o2, o3⟩ := k4.get hB2
                      have := k3.le.at hatL
                      rw [p1] at this; cases this
                      have := k3.le.at hatD
                      rw [o1] at this; cases this
                      cases p3 with
                      | loop hfl1 =>
                        cases o3 with
                        | defm =>
                          rename_i flv1 D1
                          have hle := hle2.trans k3.le
                          have hidL := at_lt p2
                          have hidD := at_lt o2
                          -- the record goes, then the mark's block is set aside
                          have hfin : ∀ {w4 : World}, St e'.z (setAt As' (s.m.σ.length + 1) emp ++ (mkA dv ++ L0)) w4 → St e'.z (setAt (setAt As' (s.m.σ.length + 1) emp) s.m.σ.length emp ++ (mkA (Sx.mark D :: dv) ++ L0)) w4 := fun {w4} hs => by
                            have o2' : at' (setAt As' (s.m.σ.length + 1) emp) s.m.σ.length = some (defA D) := by rw [at_set_ne hidL (by omega)]; exact o2
                            exact st_take hs o2'
                          have hext : ExtM s.m ⟨setAt (setAt m'.σ (s.m.σ.length + 1) .gone) s.m.σ.length .gone, (s.m.σ.length, 0) :: (s.m.σ.length + 1, 0) :: m'.lg⟩ := by
                            have x1 : ExtM s.m ⟨.loop g N s.fl ps' A' B' .ready :: .defm :: s.m.σ, s.m.lg⟩ := (ExtM.push s.m .defm).trans (ExtM.push _ _)
                            have x2 : ExtM m' ⟨setAt m'.σ (s.m.σ.length + 1) .gone, (s.m.σ.length + 1, 0) :: m'.lg⟩ := ExtM.set hB1 fun _ _ e => by cases e
                            have x3 : ExtM ⟨setAt m'.σ (s.m.σ.length + 1) .gone, (s.m.σ.length + 1, 0) :: m'.lg⟩ ⟨setAt (setAt m'.σ (s.m.σ.length + 1) .gone) s.m.σ.length .gone, (s.m.σ.length, 0) :: (s.m.σ.length + 1, 0) :: m'.lg⟩ := ExtM.set (B := .defm) (by
                              show at' (setAt m'.σ _ _) _ = _
                              rw [at_set_ne (at_lt hB1) (by omega)]; exact hB2) fun _ _ e => by cases e
                            exact x1.trans (k3.ext.trans (x2.trans x3))
                          have hgo : Go1 e As s.m e' (setAt (setAt As' (s.m.σ.length + 1) emp) s.m.σ.length emp) ⟨setAt (setAt m'.σ (s.m.σ.length + 1) .gone) s.m.σ.length .gone, (s.m.σ.length, 0) :: (s.m.σ.length + 1, 0) :: m'.lg⟩ := ⟨hle, hext, fun hh => by
                            have := k3.ext.lgle
                            simp at hh this
                            omega⟩
                          have hmem : Mem e' (setAt (setAt m'.σ (s.m.σ.length + 1) .gone) s.m.σ.length .gone) (setAt (setAt As' (s.m.σ.length + 1) emp) s.m.σ.length emp) := (k4.set p1 .gone).set o1 .gone
                          have hj : (As' ++ (mkA dv ++ L0))[As'.length - 1 - (s.m.σ.length + 1)]? = some (loopA l N1 flv1 ps1 A1 B1 D1 st.st st.pe) := Mem.atom p2
                          have hfr : Fr a' N flv (Sx.mark D :: dv) := hfa
                          have hdI : DsIs e' s.ds (noMk (Sx.mark D :: dv)) := by
                            have : noMk (Sx.mark D :: dv) = noMk dv := by simp [noMk, mkD]
                            rw [this]; exact hr.dI.mono hle
                          have hkr : ∀ {w4 : World}, St e'.z (setAt As' (s.m.σ.length + 1) emp ++ (mkA dv ++ L0)) w4 → KR N L0 e' (setAt (setAt As' (s.m.σ.length + 1) emp) s.m.σ.length emp) flv (Sx.mark D :: dv) ⟨s.fl, ⟨setAt (setAt m'.σ (s.m.σ.length + 1) .gone) s.m.σ.length .gone, (s.m.σ.length, 0) :: (s.m.σ.length + 1, 0) :: m'.lg⟩, s.ds, true⟩ a' w4 := fun {w4} hs =>
                            ⟨hfr, hr.fl.mono hle, hmem, hfin hs, hdI, fun hh => by cases hh⟩
                          cases st with
                          | ready =>
                            refine p_jump0 k5 hj (by simp [LS.st]) fun w4 hs => ?_
                            rw [setAt_app hidL] at hs
                            exact hk .nrm _ e' _ flv _ a' w4 _ k1 .refl ⟨[_], rfl⟩ hgo (hkr hs) rfl
                          | busy => cases k1
                          | done j =>
                            cases j with
                            | none =>
                              refine p_jumpR k5 hj (by simp [LS.st]) fun w4 hs => ?_
                              rw [setAt_app hidL] at hs
                              exact hk .ret _ e' _ flv _ a' w4 _ k1 .refl ⟨[_], rfl⟩ hgo (hkr hs) rfl
                            | some q =>
                              refine p_jumpX k5 hj (by simp [LS.st]) fun w4 hs => ?_
                              rw [setAt_app hidL] at hs
                              exact hk (.ext q) _ e' _ flv _ a' w4 _ k1 .refl ⟨[_], rfl⟩ hgo (hkr hs) rfl
                    · cases k1
          · cases h
      | _ => simp [exec] at h
    | _ => simp [exec] at h
end Go.K
namespace Go.K
open Go.Sl Go.Sx
variable {e e' e0 : KE} {σ σ' : List Blk} {As L0 L : List Atom} {P : Program} {w : World} {h h' z : Zone}
theorem own_slice {α : Type} {T : Ty α} {E : TypeId} {o : Option Addr} {cap : Nat} {xs : List α} {x : Hp} (hx : OwnP T E o cap xs h' x) (hxb : x.le h'.blk) : SliceR T h' o cap xs := by
  rcases hx with ⟨rfl, rfl, rfl, rfl⟩ | ⟨g, cur, rfl, rfl, h1, h2, h3, h4⟩
  · exact SliceR.nil' T h'
  · refine ⟨h1, h2, fun e => (by cases e), fun a e i y hy => ?_⟩
    cases e
    obtain ⟨c, hc, hg⟩ := h4.get hy
    refine ⟨c, hc, fun k v hk => ?_⟩
    have hblk : h'.blk g = some (.cells cur E (0, 0)) := Hp.one_le.1 hxb
    have := hg k v hk
    rw [List.getElem?_take] at this
    split at this
    · rw [add_add]
      have hadd : (⟨g, 0, none⟩ : Addr).add (i * T.size + k) = ⟨g, i * T.size + k, none⟩ := by unfold Addr.add; split <;> simp_all
      rw [hadd]
      simpa [Zone.cell?, hblk] using this
    · cases this
theorem lendAll (s : St h L w) : ∃ h1, h.le h1 ∧ St h1 [] w ∧ (∀ {i : Nat} {A : Atom}, L[i]? = some A → ∃ x, A.P h1 x ∧ x.le h1.blk) ∧
    ∀ {h2 : Zone} {w' : World}, h1.le h2 → St h2 [] w' → ∃ h3, h.le h3 ∧ St h3 L w' := by
  obtain ⟨z, hz, hd, hb, hzw⟩ := s.sep
  let h1 : Zone := ⟨h.blk.add z, h.os, h.tape, h.output⟩
  have hle : h.le h1 := ⟨Hp.le_add_left _ _, rfl, rfl, rfl⟩
  refine ⟨h1, hle, ⟨⟨Hp.nil, rfl, Hp.apart_nil _, Hp.add_le hb hzw, Hp.nil_le _⟩, s.os, s.tape, s.output⟩, fun {i A} hi => ?_, fun {h2 w'} hle2 s2 => ?_⟩
  · obtain ⟨x, y, hx, dxy, e, _⟩ := hz.focus hi
    refine ⟨x, A.mono _ _ _ hle hx, ?_⟩
    subst e
    exact Hp.le_trans (Hp.le_add_left _ _) (Hp.le_add_right hd)
  · obtain ⟨z2, _, _, hb2, _⟩ := s2.sep
    let h3 : Zone := ⟨fun b => if (z b).isSome then none else h2.blk b, h2.os, h2.tape, h2.output⟩
    have hle3 : h.le h3 := by
      refine ⟨fun b o ho => ?_, hle2.os.trans hle.os, hle2.tape.trans hle.tape, hle2.output.trans hle.output⟩
      have hzb : z b = none := by
        rcases hd b with h' | h'
        · rw [ho] at h'; cases h'
        · exact h'
      show (if (z b).isSome then none else h2.blk b) = some o
      rw [hzb]
      exact hle2.blk _ _ (hle.blk _ _ ho)
    refine ⟨h3, hle3, ⟨⟨z, hz.mono hle3, fun b => ?_, fun b o ho => ?_, fun b o ho => ?_⟩, s2.os, s2.tape, s2.output⟩⟩
    · cases hzb : z b with
      | none => exact .inr rfl
      | some o =>
        refine .inl ?_
        show (if (z b).isSome then none else h2.blk b) = none
        simp [hzb]
    · have ho' : (if (z b).isSome then none else h2.blk b) = some o := ho
      split at ho'
      · cases ho'
      · exact hb2 _ _ ho'
    · exact hb2 _ _ (hle2.blk _ _ (Hp.le_add_right hd _ _ ho))
def lndC (σ : List Blk) : SV → SV
  | .own id => match at' σ id with
    | some (.own t _ xs) => .sl t xs
    | some (.fz t xs) => .sl t xs
    | _ => .own id
  | .mp id => match at' σ id with
    | some (.map es) => .mpc es
    | some (.fzm es) => .mpc es
    | _ => .mp id
  | s => s
def lndS (σ : List Blk) : SV → SV
  | .agg cs => .agg (cs.map (lndC σ))
  | s => lndC σ s
theorem lndC_is {h1 : Zone} (m : Mem e σ As) (hle : e.z.le h1) (hA : ∀ {i : Nat} {A : Atom}, (As ++ L0)[i]? = some A → ∃ x, A.P h1 x ∧ x.le h1.blk) {s : SV} {v : Value} (k : Is e s v) : Is ⟨h1, e.bs⟩ (lndC σ s) v := by
  have hke : e.le ⟨h1, e.bs⟩ := ⟨hle, [], rfl⟩
  unfold lndC
  split
  · rename_i id
    split
    · rename_i t E xs hB
      obtain ⟨i, m1, m2, m3⟩ := m.len hB
      cases k with
      | own hi =>
        rw [hi] at m1; cases m1
        obtain ⟨x, hx, hxb⟩ := hA (Mem.atom (L0 := L0) m3)
        rw [← m2]
        exact .sl (own_slice hx hxb)
    · rename_i t xs hB
      obtain ⟨i, A, m1, m2, m3⟩ := m.get hB
      cases k with
      | own hi =>
        rw [hi] at m1; cases m1
        cases m3 with
        | fz hn hs => rw [← hn]; exact .sl (hs.mono hle)
    · exact k.mono hke
  · rename_i id
    split
    · rename_i es hB
      obtain ⟨i, A, m1, m2, m3⟩ := m.get hB
      cases k with
      | mp hi =>
        rw [hi] at m1; cases m1
        cases m3 with
        | map =>
          obtain ⟨x, hx, hxb⟩ := hA (Mem.atom (L0 := L0) m2)
          have hx' : x = Hp.one i.b (cobj es) := hx
          subst hx'
          exact .mpc (Hp.one_le.1 hxb)
    · rename_i es hB
      obtain ⟨i, A, m1, m2, m3⟩ := m.get hB
      cases k with
      | mp hi =>
        rw [hi] at m1; cases m1
        cases m3 with
        | fzm hb => exact .mpc (hle.blk _ _ hb)
    · exact k.mono hke
  · exact k.mono hke
theorem lndCs_is {h1 : Zone} (m : Mem e σ As) (hle : e.z.le h1) (hA : ∀ {i : Nat} {A : Atom}, (As ++ L0)[i]? = some A → ∃ x, A.P h1 x ∧ x.le h1.blk) : ∀ {l : List SV} {vs : List Value}, IsL e l vs → IsL ⟨h1, e.bs⟩ (l.map (lndC σ)) vs
  | _, _, .nil => .nil
  | _, _, .cons a b => .cons (lndC_is m hle hA a) (lndCs_is m hle hA b)
theorem lndS_is {h1 : Zone} (m : Mem e σ As) (hle : e.z.le h1) (hA : ∀ {i : Nat} {A : Atom}, (As ++ L0)[i]? = some A → ∃ x, A.P h1 x ∧ x.le h1.blk) {s : SV} {v : Value} (k : Is e s v) : Is ⟨h1, e.bs⟩ (lndS σ s) v := by
  unfold lndS
  split
  · cases k with
    | agg hl => exact .agg (lndCs_is m hle hA hl)
  · exact lndC_is m hle hA k
theorem lndL_is {h1 : Zone} (m : Mem e σ As) (hle : e.z.le h1) (hA : ∀ {i : Nat} {A : Atom}, (As ++ L0)[i]? = some A → ∃ x, A.P h1 x ∧ x.le h1.blk) : ∀ {l : List SV} {vs : List Value}, IsL e l vs → IsL ⟨h1, e.bs⟩ (l.map (lndS σ)) vs
  | _, _, .nil => .nil
  | _, _, .cons a b => .cons (lndS_is m hle hA a) (lndL_is m hle hA b)
theorem flat_any {z z2 : Zone} : ∀ {t : TC} {x : t.den} {cs : List Value}, t.flat = true → t.ty.rep z cs x → t.ty.rep z2 cs x
  | .int _, _, _, _, k => k
  | .bool, _, _, _, k => k
  | .str, _, _, _, k => k
  | .unit, _, _, _, k => k
  | .pair a b, x, cs, hf, ⟨c, d, e1, hc, hd⟩ => by
    simp only [TC.flat, Bool.and_eq_true] at hf
    exact ⟨c, d, e1, flat_any hf.1 hc, flat_any hf.2 hd⟩
end Go.K
namespace Go.K
open Go.Sl Go.Sx
variable {e e' e0 : KE} {σ σ' : List Blk} {As As0 L0 L A' : List Atom} {P : Program} {w : World} {N : Nat} {ρ : Type} {z : Zone}
abbrev AT := Bool × TC
abbrev tt : List AT → Type
  | [] => Unit
  | [u] => u.2.den
  | u :: v :: l => u.2.den × tt (v :: l)
def fromA (u : AT) (x : u.2.den) : SV := bif u.1 then .agg (u.2.exp x) else (u.2.exp x).headD .any
def toA (u : AT) (s : SV) : Option u.2.den := match (bif u.1 then (match s with | .agg cs => some cs | _ => none) else some [s]) with
  | some l => match u.2.ofL l with
    | some (x, []) => some x
    | _ => none
  | none => none
def repA (z : Zone) (u : AT) (v : Value) (x : u.2.den) : Prop := (u.1 = true ∧ ∃ cs, v = .agg cs.toArray ∧ u.2.ty.rep z cs x) ∨ (u.1 = false ∧ u.2.ty.rep z [v] x)
theorem fromA_is {u : AT} {v : Value} {x : u.2.den} (h : repA e.z u v x) : Is e (fromA u x) v := by
  unfold fromA
  rcases h with ⟨h1, cs, rfl, h2⟩ | ⟨h1, h2⟩
  · rw [h1]; exact .agg (exp_is u.2 h2)
  · rw [h1]
    have := exp_is (e := e) u.2 h2
    revert this
    generalize u.2.exp x = l
    intro this
    cases this with
    | cons a b => exact a
theorem toA_rep {u : AT} {v : Value} {s : SV} {x : u.2.den} (h : toA u s = some x) (k : Is e s v) : repA e.z u v x := by
  obtain ⟨g, u⟩ := u
  unfold toA at h
  cases g with
  | true =>
    simp only [cond_true] at h
    cases k with
    | agg hl =>
      simp only at h
      split at h
      · rename_i y hy
        cases h
        obtain ⟨v1, v2, q1, q2, q3⟩ := ofL_is u hy hl
        cases q3
        rw [List.append_nil] at q1
        subst q1
        exact .inl ⟨rfl, _, rfl, q2⟩
      · cases h
    | _ => cases h
  | false =>
    simp only [cond_false] at h
    split at h
    · rename_i y hy
      cases h
      obtain ⟨v1, v2, q1, q2, q3⟩ := ofL_is u hy (.cons k .nil)
      cases q3
      rw [List.append_nil] at q1
      subst q1
      exact .inr ⟨rfl, q2⟩
    · cases h
def fromAs : (l : List AT) → tt l → List SV
  | [], _ => []
  | [u], x => [fromA u x]
  | u :: v :: l, x => fromA u x.1 :: fromAs (v :: l) x.2
def toAs : (l : List AT) → List SV → Option (tt l)
  | [], [] => some ()
  | [u], [s] => toA u s
  | u :: v :: l, s :: r => match toA u s, toAs (v :: l) r with
    | some x, some y => some (x, y)
    | _, _ => none
  | _, _ => none
def repAs (z : Zone) : (l : List AT) → List Value → tt l → Prop
  | [], vs, _ => vs = []
  | [u], vs, x => ∃ v, vs = [v] ∧ repA z u v x
  | u :: v :: l, vs, x => ∃ a r, vs = a :: r ∧ repA z u a x.1 ∧ repAs z (v :: l) r x.2
theorem fromAs_is : ∀ {l : List AT} {vs : List Value} {x : tt l}, repAs e.z l vs x → IsL e (fromAs l x) vs
  | [], vs, x, h => by cases h; exact .nil
  | [u], vs, x, ⟨v, h1, h2⟩ => by subst h1; exact .cons (fromA_is h2) .nil
  | u :: v :: l, vs, x, ⟨a, r, h1, h2, h3⟩ => by subst h1; exact .cons (fromA_is h2) (fromAs_is (l := v :: l) h3)
theorem toAs_rep : ∀ {l : List AT} {s : List SV} {vs : List Value} {x : tt l}, toAs l s = some x → IsL e s vs → repAs e.z l vs x
  | [], [], vs, x, h, k => by cases k; rfl
  | [u], [s], vs, x, h, k => by
    cases k with
    | cons a b => cases b; exact ⟨_, rfl, toA_rep h a⟩
  | u :: v :: l, s :: r, vs, x, h, k => by
    simp only [toAs] at h
    split at h
    · rename_i y1 y2 h1 h2
      cases h
      cases k with
      | cons a b => exact ⟨_, _, rfl, toA_rep h1 a, toAs_rep (l := v :: l) h2 b⟩
    · cases h
  | [], _ :: _, _, _, h, _ => by cases h
  | [u], [], _, _, h, _ => by cases h
  | [u], _ :: _ :: _, _, _, h, _ => by cases h
  | u :: v :: l, [], _, _, h, _ => by cases h
def fromR (l : List AT) (x : tt l) : SV := resT (fromAs l x)
def toR (l : List AT) (s : SV) : Option (tt l) := match l, s with
  | [u], s => toA u s
  | l, .tup r => toAs l r
  | _, _ => none
def repR (z : Zone) (l : List AT) (v : Value) (x : tt l) : Prop := ∃ vs, v = resV vs ∧ repAs z l vs x
theorem fromR_is {l : List AT} {v : Value} {x : tt l} (h : repR e.z l v x) : Is e (fromR l x) v := by
  obtain ⟨vs, rfl, h⟩ := h
  exact resT_is (fromAs_is h)
theorem toAs_nil (u : AT) (l : List AT) : toAs (u :: l) [] = none := by cases l <;> rfl
theorem toR_rep : ∀ {l : List AT} {s : SV} {v : Value} {x : tt l}, toR l s = some x → Is e s v → repR e.z l v x
  | [u], s, v, x, h, k => ⟨[v], rfl, v, rfl, toA_rep h k⟩
  | [], s, v, x, h, k => by
    cases k with
    | tup hl =>
      cases hl with
      | nil => exact ⟨[], rfl, rfl⟩
      | cons => cases h
    | _ => cases h
  | u :: u' :: l, s, v, x, h, k => by
    cases k with
    | tup hl =>
      rename_i r vs
      refine ⟨vs, ?_, toAs_rep (l := u :: u' :: l) h hl⟩
      cases hl with
      | nil => cases h
      | cons a b =>
        cases b with
        | nil =>
          simp only [toR, toAs, toAs_nil] at h
          split at h
          · rename_i h2; cases h2
          · cases h
        | cons c d => rfl
    | _ => cases h
def cellsL (l : List SV) : List SV := l.flatMap fun s => (svC s).getD []
def cellsT : SV → List SV
  | .tup l => cellsL l
  | s => cellsL [s]
structure Env where
  P : Zone → Prop
  mono : ∀ {z z' : Zone}, z.le z' → P z → P z'
def envA (E : Env) : Atom := ⟨fun z x => E.P z ∧ x = Hp.nil, fun _ _ _ k h => ⟨E.mono k h.1, h.2⟩⟩
theorem envA_in {E : Env} (h : E.P z) (s : St z L w) : St z (envA E :: L) w := by
  obtain ⟨x, hx, hd, hb, hw⟩ := s.sep
  exact ⟨⟨x, ⟨Hp.nil, x, ⟨h, rfl⟩, hx, Hp.apart_comm (Hp.apart_nil _), rfl⟩, hd, hb, hw⟩, s.os, s.tape, s.output⟩
theorem envA_mem {E : Env} (s : St z L w) (h : envA E ∈ L) : E.P z := by
  obtain ⟨i, hi⟩ := List.getElem?_of_mem h
  obtain ⟨x, hx, _⟩ := s.focus hi
  exact hx.1
def Valid (E : Env) (P : Program) (g : FuncId) (az rs : List AT) (F : tt az → Option (tt rs)) : Prop := ∀ {x : tt az} {y : tt rs}, F x = some y → ∀ {z : Zone} {L : List Atom} {w : World} {vs : List Value}, E.P z → repAs z az vs x → St z L w →
  Calls P g vs.toArray w fun en w' => ∃ v z', en = .returned v ∧ z.le z' ∧ repR z' rs v y ∧ St z' L w'
def flatR (rs : List AT) : Bool := rs.all fun u => u.2.flat
theorem flat_repA {z z2 : Zone} {u : AT} {v : Value} {x : u.2.den} (hf : u.2.flat = true) (h : repA z u v x) : repA z2 u v x := by
  rcases h with ⟨h1, cs, rfl, h2⟩ | ⟨h1, h2⟩
  · exact .inl ⟨h1, cs, rfl, flat_any hf h2⟩
  · exact .inr ⟨h1, flat_any hf h2⟩
theorem flat_repAs {z z2 : Zone} : ∀ {l : List AT} {vs : List Value} {x : tt l}, flatR l = true → repAs z l vs x → repAs z2 l vs x
  | [], _, _, _, h => h
  | [u], _, _, hf, ⟨v, h1, h2⟩ => ⟨v, h1, flat_repA (by simpa [flatR] using hf) h2⟩
  | u :: u' :: l, _, _, hf, ⟨a, r, h1, h2, h3⟩ => by
    simp only [flatR, List.all_cons, Bool.and_eq_true] at hf
    exact ⟨a, r, h1, flat_repA hf.1 h2, flat_repAs (l := u' :: l) (by simpa [flatR] using hf.2) h3⟩
theorem flat_repR {z z2 : Zone} {l : List AT} {v : Value} {x : tt l} (hf : flatR l = true) (h : repR z l v x) : repR z2 l v x := by
  obtain ⟨vs, rfl, h⟩ := h
  exact ⟨vs, rfl, flat_repAs hf h⟩
def dataCon (az rs : List AT) (F : tt az → Option (tt rs)) : Con where
  run := fun args m k => bif flatR rs then (match toAs az (args.map (lndS m.σ)) with
    | some x => (F x).bind fun y => k (.val (fromR rs y)) m
    | none => none) else
    let m1 := frzL m (cellsL args)
    match toAs az (args.map (res m1.σ)) with
    | some x => (F x).bind fun y => k (.val (fromR rs y)) m1
    | none => none
theorem resAll_is (m : Mem e σ As) : ∀ {l : List SV} {vs : List Value}, IsL e l vs → IsL e (l.map (res σ)) vs
  | _, _, .nil => .nil
  | _, _, .cons h t => .cons (res_is m h) (resAll_is m t)
variable {E : Env}
theorem dataCon_ok {g : FuncId} {az rs : List AT} {F : tt az → Option (tt rs)} (h : Valid E P g az rs F) {L0 : List Atom} (hE : envA E ∈ L0) : ConOk P L0 (dataCon az rs F) g := by
  intro ρ args vs m e As w k r hr h1 h2 hl
  simp only [dataCon] at hr
  cases hfr : flatR rs with
  | true =>
    rw [hfr] at hr
    simp only [cond_true] at hr
    split at hr
    · rename_i x hx
      obtain ⟨y, hy, hk⟩ := bind_some hr
      obtain ⟨z1, hle, hs1, hA, hback⟩ := lendAll h2
      have hrep := toAs_rep hx (lndL_is h1 hle hA hl)
      refine Calls.mono (h hy (E.mono hle (envA_mem h2 (List.mem_append_right _ hE))) hrep hs1) ?_
      rintro en w' ⟨v, z', rfl, hz, hr, hs⟩
      obtain ⟨z3, hle3, hs3⟩ := hback hz hs
      have hke : e.le ⟨z3, e.bs⟩ := ⟨hle3, [], rfl⟩
      exact ⟨_, _, ⟨z3, e.bs⟩, As, hk, ⟨v, rfl, fromR_is (flat_repR hfr hr)⟩, ⟨hke, .refl _, fun _ => ⟨[], rfl⟩⟩, h1.mono hke rfl, hs3⟩
    · cases hr
  | false =>
  rw [hfr] at hr
  simp only [cond_false] at hr
  split at hr
  · rename_i x hx
    obtain ⟨y, hy, hk⟩ := bind_some hr
    obtain ⟨e1, A1, g1, g2, g3⟩ := frzL_ok (cellsL args) h1 h2
    have hrep := toAs_rep hx (resAll_is g2 (hl.mono g1.le))
    refine Calls.mono (h hy (envA_mem g3 (List.mem_append_right _ hE)) hrep g3) ?_
    rintro en w' ⟨v, z', rfl, hz, hr, hs⟩
    have hle : e1.le ⟨z', e1.bs⟩ := ⟨hz, [], rfl⟩
    exact ⟨_, _, ⟨z', e1.bs⟩, A1, hk, ⟨v, rfl, fromR_is hr⟩, g1.trans ⟨hle, .refl _, fun _ => ⟨[], rfl⟩⟩, g2.mono hle rfl, hs⟩
  · cases hr
def resTup (σ : List Blk) : SV → SV
  | .tup l => .tup (l.map (res σ))
  | s => res σ s
theorem resTup_is (m : Mem e σ As) {s : SV} {v : Value} (k : Is e s v) : Is e (resTup σ s) v := by
  unfold resTup
  split
  · cases k with
    | tup hl => exact .tup (resAll_is m hl)
  · exact res_is m k
def kD (rs : List AT) (c : CR) (m : KM) : Option (tt rs) := match c with
  | .val s => let m1 := frzL m (cellsT s); toR rs (resTup m1.σ s)
  | .pan _ => none
theorem kD_ok {rs : List AT} {c : CR} {m : KM} {y : tt rs} {en : Ending} (h : kD rs c m = some y) (hc : CallEnd e c en) (hm : Mem e m.σ As) (hs : St e.z (As ++ L) w) : ∃ v z', en = .returned v ∧ e.z.le z' ∧ repR z' rs v y ∧ St z' L w := by
  cases c with
  | pan s => cases h
  | val s =>
    obtain ⟨v, rfl, hv⟩ := hc
    obtain ⟨e3, A3, g1, g2, g3⟩ := frzL_ok (cellsT s) hm hs
    exact ⟨v, e3.z, rfl, g1.le.z, toR_rep h (resTup_is g2 (hv.mono g1.le)), by
      have := St.drop A3.length g3
      rwa [List.drop_left] at this⟩
noncomputable def fnX {ρ : Type} (P : Program) (C : FuncId → Option Con) (SP : FuncId → Sp) (lf : Nat) (g : FuncId) (args : List SV) (m : KM) (k : CR → KM → Option ρ) : Option ρ := match P.funcs[g]? with
  | some fn => match fn.body with
    | some body => exec P C SP lf 1000 true g (args.length + (fn.ntmps - args.length)) body ⟨argS args, m, [], false⟩ (endK P fn (rdF P C SP lf 999 ρ) k)
    | none => none
  | none => none
theorem fnX_ok {Cl : List Atom → Prop} (hup : ∀ A L, Cl L → Cl (A :: L)) {C : FuncId → Option Con} {SP : FuncId → Sp} {lf : Nat} (hP : P.follows .mixedOrders = true) (hC : ∀ L, Cl L → ∀ g con, C g = some con → ConOk P L con g) (hcl : Cl L0) {g : FuncId} {args : List SV} {m : KM} {k : CR → KM → Option ρ} {r : ρ} (h : fnX P C SP lf g args m k = some r)
    {vs : List Value} (h1 : Mem e m.σ As) (h2 : St e.z (As ++ L0) w) (hl : IsL e args vs) : Calls P g vs.toArray w (CallR L0 e As m k r) := by
  unfold fnX at h
  split at h
  · rename_i fn hfn
    split at h
    · rename_i body hb
      have hlen := hl.len
      refine calls_intro (N := args.length + (fn.ntmps - args.length)) hfn (by simp [hb, hlen]) fun a hf => ?_
      have hbody : bodyOf fn = body := by simp [bodyOf, hb]
      rw [hbody]
      have hkr : KR (args.length + (fn.ntmps - args.length)) L0 e As (argFL vs.toArray) [] ⟨argS args, m, [], false⟩ a w := ⟨hf, argS_is 0 hl, h1, h2, trivial, fun _ => rfl⟩
      exact exec_ok hup hP hC 1000 hcl h (fun _ => rfl) hkr fun x s' e' As' flv' dv' a' w' X q1 q2 q3 q4 q5 q6 => endK_ok (fun ms => rd_ok (exec_ok hup hP hC 999) (cl_marks hup hcl ms)) q1 q5 q6 q4 fun _ _ h => h
    · cases h
  · cases h
noncomputable def fnF (P : Program) (C : FuncId → Option Con) (SP : FuncId → Sp) (g : FuncId) (az rs : List AT) (lf : Nat) (x : tt az) : Option (tt rs) := fnX P C SP lf g (fromAs az x) ⟨[], []⟩ (kD rs)
theorem env_up {E : Env} (A : Atom) (L : List Atom) (h : envA E ∈ L) : envA E ∈ A :: L := List.mem_cons_of_mem _ h
theorem fnF_valid {C : FuncId → Option Con} {SP : FuncId → Sp} (hP : P.follows .mixedOrders = true) (hC : ∀ L, envA E ∈ L → ∀ g con, C g = some con → ConOk P L con g) (g : FuncId) (az rs : List AT) (lf : Nat) : Valid E P g az rs (fnF P C SP g az rs lf) := by
  intro x y hx z L w vs hz hrep hs
  refine Calls.mono (fnX_ok (Cl := fun L => envA E ∈ L) env_up (e := ⟨z, []⟩) (As := []) (L0 := envA E :: L) hP hC (List.mem_cons_self ..) hx ⟨rfl, rfl, fun h => by cases h⟩ (envA_in hz hs) (fromAs_is hrep)) ?_
  rintro en w' ⟨c, m', e', As', k1, k2, k3, k4, k5⟩
  obtain ⟨v, z', h1, h2, h3, h4⟩ := kD_ok k1 k2 k4 k5
  exact ⟨v, z', h1, Zone.le_trans k3.le.z h2, h3, h4.tail⟩
def extC (C : FuncId → Option Con) (g : FuncId) (c : Con) : FuncId → Option Con := fun f => bif Nat.beq f g then some c else C f
theorem extC_ok {C : FuncId → Option Con} {g : FuncId} {c : Con} (hC : ∀ g con, C g = some con → ConOk P L0 con g) (hc : ConOk P L0 c g) : ∀ f con, extC C g c f = some con → ConOk P L0 con f := by
  intro f con h
  unfold extC at h
  cases hb : Nat.beq f g with
  | true =>
    rw [hb] at h
    have := Nat.eq_of_beq_eq_true hb
    subst this
    cases h; exact @hc
  | false => rw [hb] at h; exact hC f con h
end Go.K
namespace Go.K
open Go.Sl Go.Sx
variable {e e' e0 : KE} {σ σ' : List Blk} {As As0 L0 L A' : List Atom} {P : Program} {w : World} {N : Nat} {ρ : Type} {z : Zone} {E : Env}
def bts (l : List Nat) : ByteArray := ⟨(l.map UInt8.ofNat).toArray⟩
def sm {α β ρ : Type} (y : α ⊕ β) (f : α → Option ρ) (g : β → Option ρ) : Option ρ := match y with
  | .inl a => f a
  | .inr b => g b
def endP (z : Zone) (rs : List AT) (T : TypeId) (u : AT) : tt rs ⊕ u.2.den → Ending → Prop
  | .inl y, en => ∃ v, en = .returned v ∧ repR z rs v y
  | .inr p, en => ∃ v, en = .panicked (pch (.iface T v)) ∧ repA z u v p
def ValidP (E : Env) (P : Program) (g : FuncId) (az rs : List AT) (T : TypeId) (u : AT) (F : tt az → Option (tt rs ⊕ u.2.den)) : Prop := ∀ {x : tt az} {y : tt rs ⊕ u.2.den}, F x = some y → ∀ {z : Zone} {L : List Atom} {w : World} {vs : List Value}, E.P z → repAs z az vs x → St z L w →
  Calls P g vs.toArray w fun en w' => ∃ z', z.le z' ∧ endP z' rs T u y en ∧ St z' L w'
def panCon (az rs : List AT) (T : TypeId) (u : AT) (F : tt az → Option (tt rs ⊕ u.2.den)) : Con where
  run := fun args m k => bif flatR rs && u.2.flat then (match toAs az (args.map (lndS m.σ)) with
    | some x => (F x).bind fun y => sm y (fun v => k (.val (fromR rs v)) m) (fun p => k (.pan (.ifc T (fromA u p))) m)
    | none => none) else
    let m1 := frzL m (cellsL args)
    match toAs az (args.map (res m1.σ)) with
    | some x => (F x).bind fun y => sm y (fun v => k (.val (fromR rs v)) m1) (fun p => k (.pan (.ifc T (fromA u p))) m1)
    | none => none
theorem panCon_ok {g : FuncId} {az rs : List AT} {T : TypeId} {u : AT} {F : tt az → Option (tt rs ⊕ u.2.den)} (h : ValidP E P g az rs T u F) {L0 : List Atom} (hE : envA E ∈ L0) : ConOk P L0 (panCon az rs T u F) g := by
  intro ρ args vs m e As w k r hr h1 h2 hl
  simp only [panCon] at hr
  cases hfr : (flatR rs && u.2.flat) with
  | true =>
    rw [hfr] at hr
    simp only [cond_true] at hr
    simp only [Bool.and_eq_true] at hfr
    split at hr
    · rename_i x hx
      obtain ⟨y, hy, hk⟩ := bind_some hr
      obtain ⟨z1, hle, hs1, hA, hback⟩ := lendAll h2
      have hrep := toAs_rep hx (lndL_is h1 hle hA hl)
      refine Calls.mono (h hy (E.mono hle (envA_mem h2 (List.mem_append_right _ hE))) hrep hs1) ?_
      rintro en w' ⟨z', hz, hr, hs⟩
      obtain ⟨z3, hle3, hs3⟩ := hback hz hs
      have hke : e.le ⟨z3, e.bs⟩ := ⟨hle3, [], rfl⟩
      cases y with
      | inl y =>
        obtain ⟨v, rfl, hr⟩ := hr
        exact ⟨_, _, ⟨z3, e.bs⟩, As, hk, ⟨v, rfl, fromR_is (flat_repR hfr.1 hr)⟩, ⟨hke, .refl _, fun _ => ⟨[], rfl⟩⟩, h1.mono hke rfl, hs3⟩
      | inr p =>
        obtain ⟨v, rfl, hr⟩ := hr
        exact ⟨_, _, ⟨z3, e.bs⟩, As, hk, ⟨_, rfl, .ifc (fromA_is (e := ⟨z3, e.bs⟩) (flat_repA hfr.2 hr))⟩, ⟨hke, .refl _, fun _ => ⟨[], rfl⟩⟩, h1.mono hke rfl, hs3⟩
    · cases hr
  | false =>
  rw [hfr] at hr
  simp only [cond_false] at hr
  split at hr
  · rename_i x hx
    obtain ⟨y, hy, hk⟩ := bind_some hr
    obtain ⟨e1, A1, g1, g2, g3⟩ := frzL_ok (cellsL args) h1 h2
    have hrep := toAs_rep hx (resAll_is g2 (hl.mono g1.le))
    refine Calls.mono (h hy (envA_mem g3 (List.mem_append_right _ hE)) hrep g3) ?_
    rintro en w' ⟨z', hz, hr, hs⟩
    have hle : e1.le ⟨z', e1.bs⟩ := ⟨hz, [], rfl⟩
    have hgo := g1.trans (⟨hle, .refl _, fun _ => ⟨[], rfl⟩⟩ : Go1 e1 A1 (frzL m (cellsL args)) ⟨z', e1.bs⟩ A1 (frzL m (cellsL args)))
    cases y with
    | inl y =>
      obtain ⟨v, rfl, hr⟩ := hr
      exact ⟨_, _, ⟨z', e1.bs⟩, A1, hk, ⟨v, rfl, fromR_is hr⟩, hgo, g2.mono hle rfl, hs⟩
    | inr p =>
      obtain ⟨v, rfl, hr⟩ := hr
      exact ⟨_, _, ⟨z', e1.bs⟩, A1, hk, ⟨_, rfl, .ifc (fromA_is (e := ⟨z', e1.bs⟩) hr)⟩, hgo, g2.mono hle rfl, hs⟩
  · cases hr
def kDP (rs : List AT) (T : TypeId) (u : AT) (c : CR) (m : KM) : Option (tt rs ⊕ u.2.den) := match c with
  | .val s => let m1 := frzL m (cellsT s); match toR rs (resTup m1.σ s) with
    | some y => some (.inl y)
    | none => none
  | .pan (.ifc T' s) => bif Nat.beq T' T then (let m1 := frzL m (cellsL [s]); match toA u (res m1.σ s) with
    | some p => some (.inr p)
    | none => none) else none
  | .pan _ => none
theorem kDP_ok {rs : List AT} {T : TypeId} {u : AT} {c : CR} {m : KM} {y : tt rs ⊕ u.2.den} {en : Ending} (h : kDP rs T u c m = some y) (hc : CallEnd e c en) (hm : Mem e m.σ As) (hs : St e.z (As ++ L) w) : ∃ z', e.z.le z' ∧ endP z' rs T u y en ∧ St z' L w := by
  unfold kDP at h
  split at h
  · rename_i s
    obtain ⟨v, rfl, hv⟩ := hc
    obtain ⟨e3, A3, g1, g2, g3⟩ := frzL_ok (cellsT s) hm hs
    simp only at h
    split at h
    · rename_i y' hy
      cases h
      exact ⟨e3.z, g1.le.z, ⟨v, rfl, toR_rep hy (resTup_is g2 (hv.mono g1.le))⟩, by
        have := St.drop A3.length g3
        rwa [List.drop_left] at this⟩
    · cases h
  · rename_i T' s
    cases hb : Nat.beq T' T with
    | false => rw [hb] at h; cases h
    | true =>
      rw [hb] at h
      simp only [cond_true] at h
      have := Nat.eq_of_beq_eq_true hb
      subst this
      obtain ⟨v, rfl, hv⟩ := hc
      cases hv with
      | ifc hv =>
        obtain ⟨e3, A3, g1, g2, g3⟩ := frzL_ok (cellsL [s]) hm hs
        split at h
        · rename_i p hp
          cases h
          exact ⟨e3.z, g1.le.z, ⟨_, rfl, toA_rep hp (res_is g2 (hv.mono g1.le))⟩, by
            have := St.drop A3.length g3
            rwa [List.drop_left] at this⟩
        · cases h
  · cases h
noncomputable def fnP (P : Program) (C : FuncId → Option Con) (SP : FuncId → Sp) (g : FuncId) (az rs : List AT) (T : TypeId) (u : AT) (lf : Nat) (x : tt az) : Option (tt rs ⊕ u.2.den) := fnX P C SP lf g (fromAs az x) ⟨[], []⟩ (kDP rs T u)
theorem fnP_valid {C : FuncId → Option Con} {SP : FuncId → Sp} (hP : P.follows .mixedOrders = true) (hC : ∀ L, envA E ∈ L → ∀ g con, C g = some con → ConOk P L con g) (g : FuncId) (az rs : List AT) (T : TypeId) (u : AT) (lf : Nat) : ValidP E P g az rs T u (fnP P C SP g az rs T u lf) := by
  intro x y hx z L w vs hz hrep hs
  refine Calls.mono (fnX_ok (Cl := fun L => envA E ∈ L) env_up (e := ⟨z, []⟩) (As := []) (L0 := envA E :: L) hP hC (List.mem_cons_self ..) hx ⟨rfl, rfl, fun h => by cases h⟩ (envA_in hz hs) (fromAs_is hrep)) ?_
  rintro en w' ⟨c, m', e', As', k1, k2, k3, k4, k5⟩
  obtain ⟨z', h2, h3, h4⟩ := kDP_ok k1 k2 k4 k5
  exact ⟨z', Zone.le_trans k3.le.z h2, h3, h4.tail⟩
theorem rec_valid {C : FuncId → Option Con} {SP : FuncId → Sp} {g : FuncId} {az rs : List AT} {lf : Nat} (hP : P.follows .mixedOrders = true) (hC : ∀ L, envA E ∈ L → ∀ g con, C g = some con → ConOk P L con g) {F : Nat → tt az → Option (tt rs)}
    (h0 : ∀ x, F 0 x = none) (hs : ∀ n x, F (n + 1) x = fnF P (extC C g (dataCon az rs (F n))) SP g az rs lf x) : ∀ n, Valid E P g az rs (F n)
  | 0 => by
    intro hx
    rw [h0] at hx; cases hx
  | n + 1 => by
    intro hx
    rw [hs] at hx
    exact fnF_valid hP (fun L hL => extC_ok (hC L hL) (dataCon_ok (rec_valid hP hC h0 hs n) hL)) g az rs lf hx
end Go.K
namespace Go.Sx
open Go.Sl Go.Shelf Go.Proofs Go.RowKit
variable {P : Program} {ρ : Ren} {h h' : Zone} {L M : List Atom} {w w' W0 : World}
theorem _root_.Go.Sl.St.of_below (hS : St h L w) (b : Below w.heap.size w w') : St h L w' := by
  obtain ⟨z, hz, hd, hb, hzw⟩ := hS.sep
  have up : ∀ {u : Hp}, u.le (fun b => w.heap[b]?) → u.le (fun b => w'.heap[b]?) := fun {u} hu k o e => by
    have h1 := hu k o e
    have hlt : k < w.heap.size := (Array.getElem?_eq_some_iff.1 h1).1
    exact (b.block k hlt).trans h1
  exact ⟨⟨z, hz, hd, up hb, up hzw⟩, b.os.trans hS.os, b.tape.trans hS.tape, b.output.trans hS.output⟩
theorem _root_.Go.Sl.St.of_below_new (hS : St h L w) (b : Below w.heap.size w w') {k : Nat} {o : Obj} (hk : w.heap.size ≤ k) (ho : w'.heap[k]? = some o) (A : Atom) (hA : A.P h (Hp.one k o)) : St h (A :: L) w' := by
  obtain ⟨z, hz, hd, hb, hzw⟩ := hS.sep
  have up : ∀ {u : Hp}, u.le (fun b => w.heap[b]?) → u.le (fun b => w'.heap[b]?) := fun {u} hu k o e => by
    have h1 := hu k o e
    have hlt : k < w.heap.size := (Array.getElem?_eq_some_iff.1 h1).1
    exact (b.block k hlt).trans h1
  have away : ∀ {u : Hp}, u.le (fun b => w.heap[b]?) → u k = none := fun {u} hu => by
    cases e : u k with
    | none => rfl
    | some o' => have h1 := (Array.getElem?_eq_some_iff.1 (hu k o' e)).1; omega
  have d1 : (Hp.one k o).apart z := Hp.one_apart.2 (away hzw)
  have d2 : (Hp.one k o).apart h.blk := Hp.one_apart.2 (away hb)
  exact ⟨⟨(Hp.one k o).add z, ⟨_, z, hA, hz, d1, rfl⟩, Hp.apart_add.2 ⟨Hp.apart_comm d2, hd⟩, up hb, Hp.add_le (Hp.one_le.2 ho) (up hzw)⟩, b.os.trans hS.os, b.tape.trans hS.tape, b.output.trans hS.output⟩
theorem _root_.Go.Sl.St.whole (hS : St h L w) : h.le (Zone.all w) := by
  obtain ⟨z, hz, hd, hb, hzw⟩ := hS.sep
  exact ⟨hb, hS.os, hS.tape, hS.output⟩
theorem _root_.Go.Sl.St.weak (hS : St h L w) : St h [] w := by
  have := St.drop L.length hS
  simpa using this
theorem _root_.Go.Sl.St.under (hS : St h' L w) (k : h.le h') : St h [] w := by
  obtain ⟨z, hz, hd, hb, hzw⟩ := hS.sep
  exact ⟨⟨Hp.nil, rfl, Hp.apart_nil _, Hp.le_trans k.blk hb, Hp.nil_le _⟩, hS.os.trans k.os, hS.tape.trans k.tape, hS.output.trans k.output⟩
def Env (P : Program) (g : Nat) (h : Zone) : Prop :=
  (∀ L w, St h L w → Lib.TabIs P w "internal/strconv.uint64pow10" .u64 Lib.pow10Tab) ∧ ∃ m, h.cell? ⟨g, 0, none⟩ = some (.int .i64 m)
theorem Env.mono {g : Nat} (k : h.le h') (e : Env P g h) : Env P g h' := ⟨fun L w hS => e.1 [] w (hS.under k), let ⟨m, hm⟩ := e.2; ⟨m, k.cell hm⟩⟩
def itoaC (n : Int) : Option ByteArray := if -9223372036854775808 ≤ n ∧ n ≤ 9223372036854775807 then some ⟨(Lib.itoa n).toArray⟩ else none
theorem itoa_ok (Ly : LaysM.n171 P ρ) {g : Nat} (hE : Env P g h) {n : Int} {s : ByteArray} (hn : itoaC n = some s) (hS : St h L w) :
    Calls P (ρ.f 171) #[.int .i64 n] w fun e w' => ∃ v, e = .returned v ∧ (v = .string s ∧ St h L w') := by
  unfold itoaC at hn
  split at hn
  · rename_i hc
    simp only [Option.some.injEq] at hn
    subst hn
    refine (Any.strconv_Itoa Ly n hc.1 hc.2 w (hE.1 L w hS)).mono ?_
    rintro e w' ⟨rfl, k, os, rfl⟩
    refine ⟨_, rfl, rfl, hS.of_below ⟨rfl, rfl, rfl, ?_, fun b hb => ?_⟩⟩
    · simp [Sort.grow, World.drewN]
    · simp only [Sort.grow, World.drewN]
      rw [Array.getElem?_append_left hb]
  · cases hn
def atoiC (s : ByteArray) : Option Int := if s.size ≤ 9223372036854775806 then match Lib.atoiAll s.data.toList with | .ok v => some v | _ => none else none
theorem atoi_ok (Ly : LaysC.n172 P ρ) {n : Int} {s : ByteArray} (hn : atoiC s = some n) (hS : St h L w) :
    Calls P (ρ.f 172) #[.string s] w fun e w' => ∃ v, e = .returned v ∧ (v = .tuple #[.int .i64 n, .nilIface] ∧ St h L w') := by
  unfold atoiC at hn
  split at hn
  · rename_i hc
    split at hn
    · rename_i v hv
      simp only [Option.some.injEq] at hn
      subst hn
      refine (Any.strconv_Atoi_ok Ly s hc v hv w).mono ?_
      rintro e w' ⟨rfl, hw⟩
      refine ⟨_, rfl, rfl, hS.of_below ?_⟩
      rcases hw with rfl | ⟨t, rfl⟩
      · exact Below.refl _ _
      · unfold Lib.bytesWorld
        exact Lib.below_freeze (((Below.refl _ _).drew).alloc (Nat.le_refl _) _) (Nat.le_refl _) _
    · cases hn
  · cases hn
def trimC (s c : ByteArray) : Option ByteArray := if s.size ≤ 9223372036854775807 ∧ c.size < 4294967281 ∧ c.data.toList.all (fun b => decide (b.toNat < 128)) = true then some ⟨(Lib.trimS s.data.toList c.data.toList).toArray⟩ else none
theorem trim_ok (Ly : Lays.n160 P ρ) (h116 : (P.info? (ρ.t 116)).map (fun i => (i.zero, i.size)) = some (some (.agg (Array.replicate 256 (.bool false))), 256)) {s c r : ByteArray} (hn : trimC s c = some r) (hS : St h L w) :
    Calls P (ρ.f 160) #[.string s, .string c] w fun e w' => ∃ v, e = .returned v ∧ (v = .string r ∧ St h L w') := by
  unfold trimC at hn
  split at hn
  · rename_i hc
    simp only [Option.some.injEq] at hn
    subst hn
    refine (Any.strings_Trim_laid Ly h116 s c w hc.1 hc.2.1 (ascii_of_all hc.2.2)).mono ?_
    rintro e w' ⟨rfl, hb⟩
    exact ⟨_, rfl, rfl, hS.of_below hb⟩
  · cases hn
theorem rows_str : ∀ {xs : List ByteArray} {h : Zone}, Rows Ty.str h (xs.map Value.string) xs
  | [], _ => rfl
  | x :: xs, _ => ⟨[.string x], xs.map Value.string, rfl, rfl, rows_str⟩
def splitC (s p : ByteArray) : Option (List ByteArray) := if s.size < 4294967281 ∧ 1 ≤ p.size then some (Lib.splitB p 0 (Lib.countB s p) s) else none
theorem split_ok (Ly : Lays.n146 P ρ) (hi9 : (P.info? (ρ.t 9)).map (fun i => (i.zero, i.size, i.bytes)) = some (some (.string ByteArray.empty), 1, 16)) (hE : Env P (ρ.g 1) h) {s p : ByteArray} {r : List ByteArray} (hn : splitC s p = some r) (hS : St h L w) :
    Calls P (ρ.f 146) #[.string s, .string p] w fun e w' => ∃ v, e = .returned v ∧ (∃ h', ∃ o : Option Addr, ∃ c : Nat, Zone.le h h' ∧ v = .slice o r.length c ∧ St h' L w' ∧ SliceR Ty.str h' o c r) := by
  unfold splitC at hn
  split at hn
  · rename_i hc
    simp only [Option.some.injEq] at hn
    subst hn
    obtain ⟨m, hm⟩ := hE.2
    refine (Any.strings_Split Ly hi9 s p m w hc.1 (hS.cell hm) hc.2).mono ?_
    rintro e w' ⟨rfl, rfl⟩
    have hlen := Lib.splitB_all p hc.2 0 _ s rfl
    have hcnt := Lib.countB_le p hc.2 s.size s (Nat.le_refl _)
    have hN : St h (ownS Ty.str (ρ.t 9) (some ⟨w.heap.size, 0, none⟩) (Lib.countB s p + 1) (Lib.splitB p 0 (Lib.countB s p) s) :: L) (w.alloc (.cells ((Lib.splitB p 0 (Lib.countB s p) s).map Value.string).toArray (ρ.t 9))) := by
      refine hS.new _ _ (.inr ⟨w.heap.size, _, rfl, rfl, by omega, by simp only [maxLen]; omega, ?_, ?_⟩)
      · simp [hlen, Ty.str]
      · have e1 : (((Lib.splitB p 0 (Lib.countB s p) s).map Value.string).toArray.toList.take ((Lib.splitB p 0 (Lib.countB s p) s).length * Ty.str.size)) = (Lib.splitB p 0 (Lib.countB s p) s).map Value.string := by
          simp [Ty.str, List.take_of_length_le]
        rw [e1]
        exact rows_str
    obtain ⟨h', k, hS', hx⟩ := hN.share (j := 0) rfl
    exact ⟨_, rfl, h', _, _, k, by rw [hlen], St.drop 1 hS', hx⟩
  · cases hn
def fieldsC (p : Nat → Bool) (s : ByteArray) : Option (List ByteArray) := if s.size ≤ 4294967296 then some (Lib.goFieldsP p s) else none
theorem fields_ok (Ly : Lays.n229 P ρ) (g : Nat) (eg : ∀ args w, (callFunc g args).run P w = .ok (.enter g args) w) (p : Nat → Bool)
    (hp : ∀ (W : World) (x : Nat), FnGives P g #[] #[encR x] (.bool (p x)) W)
    (hi154 : (P.info? (ρ.t 154)).map (fun i => (i.zero, i.size, i.bytes)) = some (some (.agg #[.int .i64 0, .int .i64 0]), 2, 16))
    (hi9 : (P.info? (ρ.t 9)).map (fun i => (i.zero, i.size, i.bytes)) = some (some (.string ⟨#[]⟩), 1, 16)) {s : ByteArray} {r : List ByteArray} (hn : fieldsC p s = some r) (hS : St h L w) :
    Calls P (ρ.f 229) #[.string s, .func (.func g) #[] #[]] w fun e w' => ∃ v, e = .returned v ∧ (∃ h', ∃ o : Option Addr, ∃ c : Nat, Zone.le h h' ∧ v = .slice o r.length c ∧ St h' L w' ∧ SliceR Ty.str h' o c r) := by
  unfold fieldsC at hn
  split at hn
  · rename_i hc
    simp only [Option.some.injEq] at hn
    subst hn
    refine (Any.strings_FieldsFunc Ly g #[] eg p s w hc (fun W x _ => hp W x) hi154 hi9).mono ?_
    rintro e w' ⟨A, rfl, hA, hown, hb⟩
    rcases hown.2 with ⟨hv, _⟩ | ⟨k, cap, cur, hv, hkb, hk, hnc, hcm, hsz, htk⟩
    · cases hv
    · have hkA : k = A := by cases hv; rfl
      have hcap : cap = (Lib.goFieldsP p s).length := by cases hv; rfl
      subst hkA
      have hN := hS.of_below_new hb hA hk (ownS Ty.str (ρ.t 9) (some ⟨k, 0, none⟩) cap (Lib.goFieldsP p s)) (.inr ⟨k, cur, rfl, rfl, hnc, hcm, by simpa [Ty.str] using hsz, by
        have e1 : cur.toList.take ((Lib.goFieldsP p s).length * Ty.str.size) = (Lib.goFieldsP p s).map Value.string := by simpa [Ty.str] using htk
        rw [e1]
        exact rows_str⟩)
      obtain ⟨h', kk, hS', hx⟩ := hN.share (j := 0) rfl
      rw [hcap] at hx
      exact ⟨_, rfl, h', _, _, kk, rfl, St.drop 1 hS', hx⟩
  · cases hn
def BldP (T e : TypeId) (B b : Nat) (s : ByteArray) (z : Hp) : Prop :=
  ∃ p v, (p = .pointer none ∨ p = .pointer (some ⟨b, 0, none⟩)) ∧ B ≤ b ∧
    ((v = .slice none 0 0 ∧ s.size = 0 ∧ z = Hp.one b (.cells #[p, v] T (0, 0))) ∨
     ∃ g cap cur fz, v = .slice (some ⟨g, 0, none⟩) s.size cap ∧ B ≤ g ∧ g ≠ b ∧ fz.2 ≤ s.size ∧ s.size ≤ cap ∧ cap ≤ maxLen ∧ cur.size = cap ∧ cur.toList.take s.size = Lib.strCells s ∧
       z = (Hp.one b (.cells #[p, v] T (0, 0))).add (Hp.one g (.cells cur e fz)))
def NB (e : TypeId) (B : Nat) (z : Hp) : Prop := ∀ k o, z k = some o → k < B ∨ ∀ c fz, o ≠ .cells c e fz
theorem NB.nil {e : TypeId} {B : Nat} : NB e B Hp.nil := fun _ _ h => by cases h
theorem NB.all (e : TypeId) : NB e W0.heap.size (Zone.all W0).blk := fun k o hk => .inl (Array.getElem?_eq_some_iff.1 hk).1
theorem BldP.is {T e : TypeId} {B b : Nat} {s : ByteArray} {z : Hp} (hb : BldP T e B b s z) (hz : z.le (fun b => w.heap[b]?)) : Lib.IsBuilderF T e B b (Lib.strCells s) w := by
  obtain ⟨p, v, hp, hB, hv⟩ := hb
  have key : Lib.BuilderAtF T e B b p (Lib.strCells s) w := by
    refine ⟨hB, v, ?_⟩
    rcases hv with ⟨rfl, h0, rfl⟩ | ⟨g, cap, cur, fz, rfl, h1, h2, h3, h4, h5, h6, h7, rfl⟩
    · refine ⟨Hp.one_le.1 hz, ⟨by simp, .inl ⟨rfl, by rw [Lib.strCells_length, h0]⟩⟩, by simp [Value.ownBlock]⟩
    · have d : (Hp.one b (.cells #[p, .slice (some ⟨g, 0, none⟩) s.size cap] T (0, 0))).apart (Hp.one g (.cells cur e fz)) := Hp.one_apart.2 (by simp [Hp.one, Ne.symm h2])
      have e1 := Hp.one_le.1 (Hp.le_trans (Hp.le_add_left _ _) hz)
      have e2 := Hp.one_le.1 (Hp.le_trans (Hp.le_add_right d) hz)
      refine ⟨e1, ⟨by simp, .inr ⟨g, cap, cur, fz, by rw [Lib.strCells_length], h1, e2, by rw [Lib.strCells_length]; omega, by rw [Lib.strCells_length]; omega, h5, by omega, ?_⟩⟩, by simp [Value.ownBlock, h2]⟩
      rw [Lib.strCells_length, Nat.mul_one]
      exact h7
  rcases hp with rfl | rfl
  · exact .inl key
  · exact .inr key
end Go.Sx
namespace Go.K
open Go.Sl Go.Sx Go.Shelf Go.Proofs
variable {e : KE} {As L0 L : List Atom} {P : Program} {w : World} {ρ' : Ren} {z : Zone} {E : Env}
abbrev aI : AT := (false, .i)
abbrev aS : AT := (false, .str)
abbrev aB : AT := (false, .bool)
abbrev aSs : AT := (false, .sl .str)
theorem rep1 {u : TC} {v : Value} {x : u.den} (h : repA z (false, u) v x) : u.ty.rep z [v] x := by
  rcases h with ⟨h, _⟩ | ⟨_, h⟩
  · cases h
  · exact h
theorem rep_int {v : Value} {x : Int} (h : repA z aI v x) : v = .int .i64 x := by
  have h' : [v] = [.int .i64 x] := rep1 h
  simpa using h'
theorem rep_str {v : Value} {x : ByteArray} (h : repA z aS v x) : v = .string x := by
  have h' : [v] = [.string x] := rep1 h
  simpa using h'
def envT (P : Program) (g : Nat) : Env := ⟨fun z => Sx.Env P g z, fun h k => Sx.Env.mono h k⟩
theorem itoa_valid {g : Nat} (Ly : LaysM.n171 P ρ') : Valid (envT P g) P (ρ'.f 171) [aI] [aS] itoaC := by
  intro x y hx z L w vs hz hrep hs
  obtain ⟨v, rfl, hv⟩ := hrep
  have := rep_int hv
  subst this
  refine Calls.mono (itoa_ok Ly hz hx hs) ?_
  rintro en w' ⟨v, rfl, rfl, hS⟩
  exact ⟨_, z, rfl, Zone.le_refl _, ⟨[.string y], rfl, _, rfl, .inr ⟨rfl, rfl⟩⟩, hS⟩
theorem trim_valid (Ly : Lays.n160 P ρ') (h116 : (P.info? (ρ'.t 116)).map (fun i => (i.zero, i.size)) = some (some (.agg (Array.replicate 256 (.bool false))), 256)) : Valid E P (ρ'.f 160) [aS, aS] [aS] fun x => trimC x.1 x.2 := by
  intro x y hx z L w vs hz hrep hs
  obtain ⟨v, r, rfl, hv, u, rfl, hu⟩ := hrep
  have h1 := rep_str hv
  have h2 := rep_str hu
  subst h1 h2
  refine Calls.mono (trim_ok Ly h116 hx hs) ?_
  rintro en w' ⟨v, rfl, rfl, hS⟩
  exact ⟨_, z, rfl, Zone.le_refl _, ⟨[.string y], rfl, _, rfl, .inr ⟨rfl, rfl⟩⟩, hS⟩
theorem split_valid (Ly : Lays.n146 P ρ') (hi9 : (P.info? (ρ'.t 9)).map (fun i => (i.zero, i.size, i.bytes)) = some (some (.string ByteArray.empty), 1, 16)) : Valid (envT P (ρ'.g 1)) P (ρ'.f 146) [aS, aS] [aSs] fun x => splitC x.1 x.2 := by
  intro x y hx z L w vs hz hrep hs
  obtain ⟨v, r, rfl, hv, u, rfl, hu⟩ := hrep
  have h1 := rep_str hv
  have h2 := rep_str hu
  subst h1 h2
  refine Calls.mono (split_ok Ly hi9 hz hx hs) ?_
  rintro en w' ⟨v, rfl, z', o, c, hle, rfl, hS, hsl⟩
  exact ⟨_, z', rfl, hle, ⟨[_], rfl, _, rfl, .inr ⟨rfl, o, c, rfl, hsl⟩⟩, hS⟩
def atoiCon : Con where
  run := fun args m k => match args with
    | [.str s] => (atoiC s).bind fun n => k (.val (.tup [.int .i64 n, .raw .nilIface])) m
    | _ => none
theorem atoiCon_ok (Ly : LaysC.n172 P ρ') : ConOk P L0 atoiCon (ρ'.f 172) := by
  intro ρ args vs m e As w k r hr h1 h2 hl
  unfold atoiCon at hr
  simp only at hr
  split at hr
  · rename_i s
    obtain ⟨n, hn, hk⟩ := bind_some hr
    cases hl with
    | cons a b =>
      cases b
      cases a
      refine Calls.mono (atoi_ok Ly hn h2) ?_
      rintro en w' ⟨v, rfl, rfl, hS⟩
      exact ⟨_, m, e, As, hk, ⟨_, rfl, .tup (.cons (.int _ _) (.cons (.raw _) .nil))⟩, .refl, h1, hS⟩
  · cases hr
def fieldsCon (f : FuncId) (p : Nat → Bool) : Con where
  run := fun args m k => match args with
    | [.str s, .fn g [] []] => bif Nat.beq g f then (fieldsC p s).bind fun l => k (.val (.sl .str l)) m else none
    | _ => none
theorem fieldsCon_ok (Ly : Lays.n229 P ρ') {g : Nat} (eg : ∀ args w, (callFunc g args).run P w = .ok (.enter g args) w) {p : Nat → Bool}
    (hp : ∀ (W : World) (x : Nat), FnGives P g #[] #[encR x] (.bool (p x)) W)
    (hi154 : (P.info? (ρ'.t 154)).map (fun i => (i.zero, i.size, i.bytes)) = some (some (.agg #[.int .i64 0, .int .i64 0]), 2, 16))
    (hi9 : (P.info? (ρ'.t 9)).map (fun i => (i.zero, i.size, i.bytes)) = some (some (.string ⟨#[]⟩), 1, 16)) : ConOk P L0 (fieldsCon g p) (ρ'.f 229) := by
  intro ρ args vs m e As w k r hr h1 h2 hl
  unfold fieldsCon at hr
  simp only at hr
  split at hr
  · rename_i s g'
    cases hb : Nat.beq g' g with
    | false => rw [hb] at hr; cases hr
    | true =>
      rw [hb] at hr
      have := Nat.eq_of_beq_eq_true hb
      subst this
      obtain ⟨l, hn, hk⟩ := bind_some hr
      cases hl with
      | cons a b =>
        cases b with
        | cons b c =>
          cases c
          cases a
          cases b with
          | fn hx hy =>
            cases hx
            cases hy
            refine Calls.mono (fields_ok Ly g' eg p hp hi154 hi9 hn h2) ?_
            rintro en w' ⟨v, rfl, z', o, c, hle, rfl, hS, hsl⟩
            have hle' : e.le ⟨z', e.bs⟩ := ⟨hle, [], rfl⟩
            exact ⟨_, m, ⟨z', e.bs⟩, As, hk, ⟨_, rfl, .sl hsl⟩, ⟨hle', .refl _, fun _ => ⟨[], rfl⟩⟩, h1.mono hle' rfl, hS⟩
  · cases hr
end Go.K
namespace Go.K
open Go.Sl Go.Sx
variable {e e' e0 : KE} {σ σ' σ1 σ2 : List Blk} {As As0 L0 L A' : List Atom} {P : Program} {w : World} {N : Nat} {ρ : Type} {z z' : Zone} {E : Env}
inductive CK where
  | d (u : TC) | o (u : TC) (E : TypeId)
abbrev ckT : List CK → Type
  | [] => Unit
  | .d u :: r => u.den × ckT r
  | .o u _ :: r => List u.den × ckT r
def CellsR (z : Zone) : (l : List CK) → ckT l → List Value → List Atom → Prop
  | [], _, vs, Os => vs = [] ∧ Os = []
  | .d u :: l, x, vs, Os => ∃ v vs', vs = v :: vs' ∧ u.ty.rep z [v] x.1 ∧ CellsR z l x.2 vs' Os
  | .o u E :: l, x, vs, Os => ∃ o c vs' Os', vs = .slice o x.1.length c :: vs' ∧ Os = ownS u.ty E o c x.1 :: Os' ∧ CellsR z l x.2 vs' Os'
theorem CellsR.mono (h : z.le z') : ∀ {l : List CK} {x : ckT l} {vs : List Value} {Os : List Atom}, CellsR z l x vs Os → CellsR z' l x vs Os
  | [], _, _, _, k => k
  | .d u :: l, x, _, _, ⟨v, vs', h1, h2, h3⟩ => ⟨v, vs', h1, Ty.mono _ h h2, h3.mono h⟩
  | .o u E :: l, x, _, _, ⟨o, c, vs', Os', h1, h2, h3⟩ => ⟨o, c, vs', Os', h1, h2, h3.mono h⟩
theorem CellsR.one : ∀ {l : List CK} {x : ckT l} {vs : List Value} {Os : List Atom}, CellsR z l x vs Os → oneCells vs = true
  | [], _, _, _, ⟨h, _⟩ => by subst h; rfl
  | .d u :: l, x, _, _, ⟨v, vs', h1, h2, h3⟩ => by
    subst h1
    simp only [oneCells, Bool.and_eq_true]
    exact ⟨u.ty.one h2 v (by simp), h3.one⟩
  | .o u E :: l, x, _, _, ⟨o, c, vs', Os', h1, h2, h3⟩ => by
    subst h1
    simp only [oneCells, Bool.and_eq_true]
    exact ⟨rfl, h3.one⟩
theorem CellsR.len : ∀ {l : List CK} {x : ckT l} {vs : List Value} {Os : List Atom}, CellsR z l x vs Os → vs.length = l.length
  | [], _, _, _, ⟨h, _⟩ => by subst h; rfl
  | .d u :: l, x, _, _, ⟨v, vs', h1, h2, h3⟩ => by subst h1; simp [h3.len]
  | .o u E :: l, x, _, _, ⟨o, c, vs', Os', h1, h2, h3⟩ => by subst h1; simp [h3.len]
def takeC (σ : List Blk) : (l : List CK) → List SV → Option (ckT l × List Blk × List Nat)
  | [], [] => some ((), σ, [])
  | .d u :: l, s :: cs => match u.ofL [resC σ s] with
    | some (x, []) => match takeC σ l cs with
      | some (y, r) => some ((x, y), r)
      | none => none
    | _ => none
  | .o u E :: l, .own id :: cs => match at' σ id with
    | some (.own u' E' xs) => bif Nat.beq E' E then (if h : u' = u then (match takeC (setAt σ id .gone) l cs with
        | some (y, σ', ids) => some ((h ▸ xs, y), σ', id :: ids)
        | none => none) else none) else none
    | _ => none
  | .o u E :: l, .raw v :: cs => bif isNil v then (match takeC σ l cs with
      | some (y, r) => some (([], y), r)
      | none => none) else none
  | _, _ => none
theorem takeC_ok : ∀ (l : List CK) {cs : List SV} {vs : List Value} {σ σ1 : List Blk} {As L : List Atom} {w : World} {st : ckT l} {ids : List Nat}, takeC σ l cs = some (st, σ1, ids) → Mem e σ As → IsL e cs vs → St e.z (As ++ L) w →
    ∃ X Os, CellsR e.z l st vs Os ∧ Mem e σ1 X ∧ St e.z (X ++ (Os ++ L)) w ∧ X.length = As.length ∧ σ1.length = σ.length ∧ (∀ j, j ∉ ids → at' σ1 j = at' σ j) ∧ (∀ j ∈ ids, ∃ u E xs, at' σ j = some (.own u E xs) ∧ at' σ1 j = some .gone)
  | [], [], vs, σ, σ1, As, L, w, st, ids, h, hm, hl, hs => by
    simp only [takeC, Option.some.injEq, Prod.mk.injEq] at h
    obtain ⟨_, rfl, rfl⟩ := h
    cases hl
    exact ⟨As, [], ⟨rfl, rfl⟩, hm, by simpa using hs, rfl, rfl, fun _ _ => rfl, by simp⟩
  | .d u :: l, s :: cs, _, σ, σ1, As, L, w, st, ids, h, hm, .cons (v := v) (m := vs) hv hl, hs => by
    simp only [takeC] at h
    split at h
    · rename_i x hx
      split at h
      · rename_i y r hy
        simp only [Option.some.injEq, Prod.mk.injEq] at h
        obtain ⟨rfl, rfl⟩ := h
        obtain ⟨v1, v2, q1, q2, q3⟩ := ofL_is u hx (.cons (resC_is hm hv) .nil)
        cases q3
        rw [List.append_nil] at q1
        subst q1
        obtain ⟨X, Os, k1, k2, k3, k4, k5, k6, k7⟩ := takeC_ok l hy hm hl hs
        exact ⟨X, Os, ⟨v, vs, rfl, q2, k1⟩, k2, k3, k4, k5, k6, k7⟩
      · cases h
    · cases h
  | .o u E :: l, .own id :: cs, _, σ, σ1, As, L, w, st, ids, h, hm, .cons (v := v) (m := vs) hv hl, hs => by
    simp only [takeC] at h
    split at h
    · rename_i u' E' xs hB
      cases hb : Nat.beq E' E with
      | false => rw [hb] at h; cases h
      | true =>
        rw [hb] at h
        have := Nat.eq_of_beq_eq_true hb
        subst this
        simp only [cond_true] at h
        split at h
        · rename_i hu
          subst hu
          split at h
          · rename_i y σ' ids' hy
            simp only [Option.some.injEq, Prod.mk.injEq] at h
            obtain ⟨rfl, rfl, rfl⟩ := h
            obtain ⟨i, m1, m2, m3⟩ := hm.len hB
            cases hv with
            | own hi =>
              rw [m1] at hi; cases hi
              obtain ⟨X, Os, k1, k2, k3, k4, k5, k6, k7⟩ := takeC_ok l hy (hm.set m1 (A := emp) .gone) hl (st_take hs m3)
              rw [len_setAt] at k4 k5
              have hid := at_lt hB
              refine ⟨X, ownS u'.ty E' i.o i.c xs :: Os, ⟨i.o, i.c, vs, Os, by rw [← m2], rfl, k1⟩, k2, ?_, k4, k5, fun j hj => ?_, fun j hj => ?_⟩
              · refine k3.perm ?_
                refine List.Perm.append_left X ?_
                exact List.perm_middle
              · simp only [List.mem_cons, not_or] at hj
                rw [k6 j hj.2, at_set_ne hid (Ne.symm hj.1)]
              · by_cases hji : j = id
                · subst hji
                  refine ⟨u', E', xs, hB, ?_⟩
                  by_cases hm2 : j ∈ ids'
                  · obtain ⟨_, _, _, _, g⟩ := k7 j hm2; exact g
                  · rw [k6 j hm2, at_set hid]
                · have hj' : j ∈ ids' := (List.mem_cons.1 hj).resolve_left hji
                  obtain ⟨u2, E2, xs2, g1, g2⟩ := k7 j hj'
                  rw [at_set_ne hid (Ne.symm hji)] at g1
                  exact ⟨u2, E2, xs2, g1, g2⟩
          · cases h
        · cases h
    · cases h
  | .o u E :: l, .raw r0 :: cs, _, σ, σ1, As, L, w, st, ids, h, hm, .cons (v := v) (m := vs) hv hl, hs => by
    simp only [takeC] at h
    cases hn : isNil r0 with
    | false => rw [hn] at h; cases h
    | true =>
      rw [hn] at h
      simp only [cond_true] at h
      split at h
      · rename_i y r hy
        simp only [Option.some.injEq, Prod.mk.injEq] at h
        obtain ⟨rfl, rfl⟩ := h
        have hv0 := isNil_eq hn
        subst hv0
        cases hv
        have h1 : St e.z (As ++ (ownS u.ty E none 0 [] :: L)) w := (hs.ownNil u.ty E).perm List.perm_middle.symm
        obtain ⟨X, Os, k1, k2, k3, k4, k5, k6, k7⟩ := takeC_ok l hy hm hl h1
        refine ⟨X, ownS u.ty E none 0 [] :: Os, ⟨none, 0, vs, Os, rfl, rfl, k1⟩, k2, ?_, k4, k5, k6, k7⟩
        refine k3.perm ?_
        exact List.Perm.append_left X List.perm_middle
      · cases h
  | [], _ :: _, _, _, _, _, _, _, _, _, h, _, _, _ => by simp [takeC] at h
  | .d _ :: _, [], _, _, _, _, _, _, _, _, h, _, _, _ => by simp [takeC] at h
  | .o _ _ :: _, [], _, _, _, _, _, _, _, _, h, _, _, _ => by simp [takeC] at h
  | .o _ _ :: _, .int .. :: _, _, _, _, _, _, _, _, _, h, _, _, _ => by simp [takeC] at h
  | .o _ _ :: _, .bool .. :: _, _, _, _, _, _, _, _, _, h, _, _, _ => by simp [takeC] at h
  | .o _ _ :: _, .str .. :: _, _, _, _, _, _, _, _, _, h, _, _, _ => by simp [takeC] at h
  | .o _ _ :: _, .ptr .. :: _, _, _, _, _, _, _, _, _, h, _, _, _ => by simp [takeC] at h
  | .o _ _ :: _, .sl .. :: _, _, _, _, _, _, _, _, _, h, _, _, _ => by simp [takeC] at h
  | .o _ _ :: _, .el .. :: _, _, _, _, _, _, _, _, _, h, _, _, _ => by simp [takeC] at h
  | .o _ _ :: _, .oel .. :: _, _, _, _, _, _, _, _, _, h, _, _, _ => by simp [takeC] at h
  | .o _ _ :: _, .agg .. :: _, _, _, _, _, _, _, _, _, h, _, _, _ => by simp [takeC] at h
  | .o _ _ :: _, .tup .. :: _, _, _, _, _, _, _, _, _, h, _, _, _ => by simp [takeC] at h
  | .o _ _ :: _, .fn .. :: _, _, _, _, _, _, _, _, _, h, _, _, _ => by simp [takeC] at h
  | .o _ _ :: _, .ifc .. :: _, _, _, _, _, _, _, _, _, h, _, _, _ => by simp [takeC] at h
  | .o _ _ :: _, .nilp .. :: _, _, _, _, _, _, _, _, _, h, _, _, _ => by simp [takeC] at h
  | .o _ _ :: _, .yld .. :: _, _, _, _, _, _, _, _, _, h, _, _, _ => by simp [takeC] at h
  | .o _ _ :: _, .mp .. :: _, _, _, _, _, _, _, _, _, h, _, _, _ => by simp [takeC] at h
  | .o _ _ :: _, .nsl .. :: _, _, _, _, _, _, _, _, _, h, _, _, _ => by simp [takeC] at h
  | .o _ _ :: _, .mpc .. :: _, _, _, _, _, _, _, _, _, h, _, _, _ => by simp [takeC] at h
  | .o _ _ :: _, .any :: _, _, _, _, _, _, _, _, _, h, _, _, _ => by simp [takeC] at h
def giveC (σ : List Blk) : (l : List CK) → ckT l → List SV × List Blk
  | [], _ => ([], σ)
  | .d u :: l, x => match giveC σ l x.2 with
    | (cs, σ') => ((u.exp x.1).headD .any :: cs, σ')
  | .o u E :: l, x => match giveC (.own u E x.1 :: σ) l x.2 with
    | (cs, σ') => (.own σ.length :: cs, σ')
theorem head_is {u : TC} {v : Value} {x : u.den} (h : u.ty.rep e.z [v] x) : Is e ((u.exp x).headD .any) v := by
  have := exp_is (e := e) u h
  revert this
  generalize u.exp x = l
  intro this
  cases this with
  | cons a b => exact a
theorem giveC_ok : ∀ (l : List CK) {x : ckT l} {vs : List Value} {c : KE} {σ : List Blk} {X Os L : List Atom} {w : World}, CellsR c.z l x vs Os → Mem c σ X → St c.z (X ++ (Os ++ L)) w →
    ∃ c' Y, c.le c' ∧ c'.z = c.z ∧ IsL c' (giveC σ l x).1 vs ∧ Mem c' (giveC σ l x).2 (Y ++ X) ∧ St c.z ((Y ++ X) ++ L) w ∧ ∃ D, (giveC σ l x).2 = D ++ σ
  | [], x, vs, c, σ, X, Os, L, w, ⟨h1, h2⟩, hm, hs => by
    subst h1 h2
    exact ⟨c, [], .rfl, rfl, .nil, by simpa [giveC] using hm, by simpa using hs, [], by simp [giveC]⟩
  | .d u :: l, x, vs, c, σ, X, Os, L, w, ⟨v, vs', h1, h2, h3⟩, hm, hs => by
    subst h1
    obtain ⟨c', Y, k1, k2, k3, k4, k5, D, k6⟩ := giveC_ok l h3 hm hs
    refine ⟨c', Y, k1, k2, ?_, by simpa [giveC] using k4, k5, D, by simpa [giveC] using k6⟩
    simp only [giveC]
    exact .cons ((head_is h2).mono k1) k3
  | .o u E :: l, x, vs, c, σ, X, Os, L, w, ⟨o, cp, vs', Os', h1, h2, h3⟩, hm, hs => by
    subst h1 h2
    have hm2 : Mem (c.push ⟨0, o, x.1.length, cp⟩) (.own u E x.1 :: σ) (ownS u.ty E o cp x.1 :: X) := hm.push (i := ⟨0, o, x.1.length, cp⟩) (.own rfl)
    have hs2 : St c.z ((ownS u.ty E o cp x.1 :: X) ++ (Os' ++ L)) w := hs.perm List.perm_middle
    obtain ⟨c', Y, k1, k2, k3, k4, k5, D, k6⟩ := giveC_ok l (c := c.push ⟨0, o, x.1.length, cp⟩) h3 hm2 hs2
    refine ⟨c', Y ++ [ownS u.ty E o cp x.1], (KE.le_push c _).trans k1, k2, ?_, ?_, ?_, D ++ [.own u E x.1], ?_⟩
    · simp only [giveC]
      refine .cons ?_ k3
      refine Is.own (i := ⟨0, o, x.1.length, cp⟩) (k1.at ?_)
      show at' (_ :: c.bs) σ.length = _
      rw [hm.lb]; exact at_new
    · simpa [giveC] using k4
    · have k5' : St c.z ((Y ++ (ownS u.ty E o cp x.1 :: X)) ++ L) w := k5
      simpa using k5'
    · simp only [giveC]
      rw [k6]; simp
theorem giveC_len : ∀ (l : List CK) (σ : List Blk) (x : ckT l), (giveC σ l x).1.length = l.length
  | [], σ, x => rfl
  | .d u :: l, σ, x => by simp [giveC, giveC_len l]
  | .o u E :: l, σ, x => by simp [giveC, giveC_len l]
def anyL (n : Nat) : List SV := List.replicate n .any
theorem anyL_is : ∀ (vs : List Value), IsL e (anyL vs.length) vs
  | [] => .nil
  | v :: vs => by
    show IsL e (List.replicate (vs.length + 1) SV.any) (v :: vs)
    rw [List.replicate_succ]
    exact .cons (.any v) (anyL_is vs)
def endR (z : Zone) (L : List Atom) (w : World) (b : Nat) (T : TypeId) (n : Nat) (cks : List CK) (rs : List AT) (pT : TypeId) (u : AT) : (ckT cks × tt rs) ⊕ u.2.den → Ending → Prop
  | .inl y, en => ∃ cv Os, CellsR z cks y.1 cv Os ∧ St z (box b cv T :: (Os ++ L)) w ∧ ∃ v, en = .returned v ∧ repR z rs v y.2
  | .inr p, en => ∃ cv, cv.length = n ∧ oneCells cv = true ∧ St z (box b cv T :: L) w ∧ ∃ v, en = .panicked (pch (.iface pT v)) ∧ repA z u v p
def ValidR (E : Env) (P : Program) (g : FuncId) (T : TypeId) (cks : List CK) (az rs : List AT) (pT : TypeId) (u : AT) (F : ckT cks × tt az → Option ((ckT cks × tt rs) ⊕ u.2.den)) : Prop :=
  ∀ {x : ckT cks × tt az} {y : (ckT cks × tt rs) ⊕ u.2.den}, F x = some y → ∀ {z : Zone} {L : List Atom} {w : World} {b : Nat} {cv vs : List Value} {Os : List Atom}, E.P z → CellsR z cks x.1 cv Os → repAs z az vs x.2 → St z (box b cv T :: (Os ++ L)) w →
  Calls P g (.pointer (some ⟨b, 0, none⟩) :: vs).toArray w fun en w' => ∃ z', z.le z' ∧ endR z' L w' b T cks.length cks rs pT u y en
def lgC (id n : Nat) (ids : List Nat) (lg : List (Nat × Nat)) : List (Nat × Nat) := offs id 0 n ++ (ids.map (fun i => (i, 0)) ++ lg)
def refCon (T : TypeId) (cks : List CK) (az rs : List AT) (pT : TypeId) (u : AT) (F : ckT cks × tt az → Option ((ckT cks × tt rs) ⊕ u.2.den)) : Con where
  run := fun args m k => match args with
    | .ptr id 0 :: rest =>
      let m1 := frzL m (cellsL rest)
      match at' m1.σ id with
      | some (.cells T' cs) => bif Nat.beq T' T && Nat.ble 1 cs.length then
          (match takeC (setAt m1.σ id .gone) cks cs, toAs az (rest.map (res m1.σ)) with
          | some (st, σ1, ids), some x => (F (st, x)).bind fun y => sm y
              (fun q => match giveC σ1 cks q.1 with | (cs', σ2) => k (.val (fromR rs q.2)) ⟨setAt σ2 id (.cells T cs'), lgC id cs.length ids m1.lg⟩)
              (fun p => k (.pan (.ifc pT (fromA u p))) ⟨setAt σ1 id (.cells T (anyL cs.length)), lgC id cs.length ids m1.lg⟩)
          | _, _ => none) else none
      | _ => none
    | _ => none
theorem mem_lgC {id n : Nat} {ids : List Nat} {i j : Nat} : (i, j) ∈ offs id 0 n ++ ids.map (fun i => (i, 0)) ↔ (i = id ∧ j < n) ∨ (i ∈ ids ∧ j = 0) := by
  simp only [List.mem_append, offs, List.mem_map, List.mem_range'_1, Prod.mk.injEq]
  constructor
  · rintro (⟨a, h1, h2, h3⟩ | ⟨a, h1, h2, h3⟩)
    · exact .inl ⟨h2.symm, by omega⟩
    · exact .inr ⟨h2 ▸ h1, h3.symm⟩
  · rintro (⟨h1, h2⟩ | ⟨h1, h2⟩)
    · exact .inl ⟨j, by omega, h1.symm, rfl⟩
    · exact .inr ⟨i, h1, rfl, h2.symm⟩
theorem refExt {m1 : KM} {id : Nat} {T : TypeId} {cs cs' : List SV} {ids : List Nat} {D : List Blk} (hB : at' m1.σ id = some (.cells T cs)) (hl : cs'.length = cs.length) (h5 : σ1.length = m1.σ.length)
    (h6 : ∀ j, j ∉ ids → at' σ1 j = at' (setAt m1.σ id .gone) j) (h7 : ∀ j ∈ ids, ∃ u E xs, at' (setAt m1.σ id .gone) j = some (.own u E xs)) : ExtM m1 ⟨setAt (D ++ σ1) id (.cells T cs'), lgC id cs.length ids m1.lg⟩ := by
  have hid := at_lt hB
  have hid' : id < (D ++ σ1).length := by simp; omega
  have hni : id ∉ ids := fun h => by
    obtain ⟨u, E, xs, g⟩ := h7 id h
    rw [at_set hid] at g
    cases g
  refine ⟨offs id 0 cs.length ++ ids.map (fun i => (i, 0)), by simp [lgC], by rw [len_setAt]; simp; omega, fun {j U us} h => ?_, fun {j C} h hC hn => ?_⟩
  · by_cases hj : id = j
    · subst hj
      rw [hB] at h
      cases h
      refine ⟨cs', at_set hid', hl, fun o hno => ?_⟩
      have : ¬ o < cs.length := fun hlt => hno (mem_lgC.2 (.inl ⟨rfl, hlt⟩))
      rw [List.getElem?_eq_none (by omega), List.getElem?_eq_none (by omega)]
    · have hnj : j ∉ ids := fun hm => by
        obtain ⟨u, E, xs, g⟩ := h7 j hm
        rw [at_set_ne hid hj] at g
        rw [h] at g; cases g
      refine ⟨us, ?_, rfl, fun _ _ => rfl⟩
      show at' (setAt _ id _) j = _
      rw [at_set_ne hid' hj]
      refine at_app ?_ D
      rw [h6 j hnj, at_set_ne hid hj]; exact h
  · have hj : id ≠ j := fun e => by subst e; rw [hB] at h; exact hC _ _ (Option.some.inj h).symm
    have hnj : j ∉ ids := fun hm => hn (mem_lgC.2 (.inr ⟨hm, rfl⟩))
    show at' (setAt _ id _) j = _
    rw [at_set_ne hid' hj]
    refine at_app ?_ D
    rw [h6 j hnj, at_set_ne hid hj]; exact h
theorem refCon_ok {g : FuncId} {T : TypeId} {cks : List CK} {az rs : List AT} {pT : TypeId} {u : AT} {F : ckT cks × tt az → Option ((ckT cks × tt rs) ⊕ u.2.den)} (h : ValidR E P g T cks az rs pT u F) {L0 : List Atom} (hE : envA E ∈ L0) : ConOk P L0 (refCon T cks az rs pT u F) g := by
  intro ρ args vs m e As w k r hr h1 h2 hl
  simp only [refCon] at hr
  split at hr
  · rename_i id rest
    split at hr
    · rename_i T' cs hB
      cases hb : (Nat.beq T' T && Nat.ble 1 cs.length) with
      | false => rw [hb] at hr; cases hr
      | true =>
        rw [hb] at hr
        simp only [cond_true] at hr
        simp only [Bool.and_eq_true] at hb
        have := Nat.eq_of_beq_eq_true hb.1
        subst this
        have hpos := Nat.le_of_ble_eq_true hb.2
        split at hr
        · rename_i st σ1 ids x htk hx
          obtain ⟨y, hy, hk⟩ := bind_some hr
          cases hl with
          | cons hp hrest =>
            obtain ⟨e1, A1, g1, g2, g3⟩ := frzL_ok (cellsL rest) h1 h2
            have hrep := toAs_rep hx (resAll_is g2 (hrest.mono g1.le))
            obtain ⟨i, A, m1, m2, m3⟩ := g2.get hB
            cases m3 with
            | cells hc hone =>
              rename_i cv
              cases hp with
              | ptr hi =>
                rename_i i0
                have := g1.le.at hi
                rw [m1] at this; cases this
                have hE1 : E.P e1.z := envA_mem g3 (List.mem_append_right _ hE)
                obtain ⟨X, Os, k1, k2, k3, k4, k5, k6, k7⟩ := takeC_ok cks htk (g2.set m1 (A := emp) .gone) hc (st_take g3 m2)
                rw [len_setAt] at k4 k5
                have hst : St e1.z (box i.b cv T' :: (Os ++ (X ++ L0))) w := by
                  refine k3.perm ?_
                  have p1 : (X ++ (Os ++ (box i.b cv T' :: L0))).Perm (box i.b cv T' :: (X ++ (Os ++ L0))) := by
                    have q1 : (Os ++ (box i.b cv T' :: L0)).Perm (box i.b cv T' :: (Os ++ L0)) := List.perm_middle
                    exact (List.Perm.append_left X q1).trans List.perm_middle
                  have p2 : (X ++ (Os ++ L0)).Perm (Os ++ (X ++ L0)) := by
                    rw [← List.append_assoc, ← List.append_assoc]
                    exact List.Perm.append_right L0 List.perm_append_comm
                  exact p1.trans (p2.cons _)
                have hidlt : id < X.length := by rw [k4]; exact at_lt m2
                refine Calls.mono (h hy hE1 k1 hrep hst) ?_
                rintro en w' ⟨z', hz, hend⟩
                have hle : e1.le ⟨z', e1.bs⟩ := ⟨hz, [], rfl⟩
                have hcl := hc.len
                have h7' : ∀ j ∈ ids, ∃ u E xs, at' (setAt (frzL m (cellsL rest)).σ id .gone) j = some (.own u E xs) := fun j hj => let ⟨u, E, xs, q, _⟩ := k7 j hj; ⟨u, E, xs, q⟩
                have hlg : ∀ {σx : List Blk}, (⟨σx, lgC id cs.length ids (frzL m (cellsL rest)).lg⟩ : KM).lg.length = (frzL m (cellsL rest)).lg.length → False := fun {σx} hh => by
                  simp [lgC, offs] at hh; omega
                cases y with
                | inl q =>
                  obtain ⟨cv', Os', q1, q2, v, rfl, q3⟩ := hend
                  have hs1 : St z' (X ++ (Os' ++ (box i.b cv' T' :: L0))) w' := by
                    refine q2.perm ?_
                    have p1 : (X ++ (Os' ++ (box i.b cv' T' :: L0))).Perm (box i.b cv' T' :: (X ++ (Os' ++ L0))) := by
                      have q1 : (Os' ++ (box i.b cv' T' :: L0)).Perm (box i.b cv' T' :: (Os' ++ L0)) := List.perm_middle
                      exact (List.Perm.append_left X q1).trans List.perm_middle
                    have p2 : (X ++ (Os' ++ L0)).Perm (Os' ++ (X ++ L0)) := by
                      rw [← List.append_assoc, ← List.append_assoc]
                      exact List.Perm.append_right L0 List.perm_append_comm
                    exact (p1.trans (p2.cons _)).symm
                  obtain ⟨c', Y, r1, r2, r3, r4, r5, D, r6⟩ := giveC_ok cks (c := ⟨z', e1.bs⟩) q1 (k2.mono hle rfl) hs1
                  have hcle := hle.trans r1
                  simp only [sm] at hk
                  have hlen2 := giveC_len cks σ1 q.1
                  have hmem := r4.set (id := id) (B := .cells T' (giveC σ1 cks q.1).1) (A := box i.b cv' T') (hcle.at m1) (.cells r3 q1.one)
                  have hst2 : St c'.z (setAt (Y ++ X) id (box i.b cv' T') ++ L0) w' := by
                    rw [r2]; exact st_back r5 (by simp; omega)
                  refine ⟨_, _, c', _, hk, ⟨v, rfl, fromR_is (by rw [r2]; exact q3)⟩, g1.trans ⟨hcle, ?_, fun hh => (hlg hh).elim⟩, hmem, hst2⟩
                  rw [r6]
                  exact refExt hB (by rw [hlen2, ← k1.len, hcl]) k5 k6 h7'
                | inr p =>
                  obtain ⟨cv', q0, q1, q2, v, rfl, q3⟩ := hend
                  simp only [sm] at hk
                  have hn : cv'.length = cs.length := by rw [q0, hcl, k1.len]
                  have hs1 : St z' (X ++ (box i.b cv' T' :: L0)) w' := q2.perm List.perm_middle.symm
                  have hmem := (k2.mono hle rfl).set (id := id) (B := .cells T' (anyL cs.length)) (A := box i.b cv' T') (e := ⟨z', e1.bs⟩) m1 (.cells (by rw [← hn]; exact anyL_is cv') q1)
                  refine ⟨_, _, ⟨z', e1.bs⟩, _, hk, ⟨_, rfl, .ifc (fromA_is (e := ⟨z', e1.bs⟩) q3)⟩, g1.trans ⟨hle, ?_, fun hh => (hlg hh).elim⟩, hmem, st_back hs1 hidlt⟩
                  have := refExt (D := []) (cs' := anyL cs.length) hB (by simp [anyL]) k5 k6 h7'
                  simpa using this
        · cases hr
    · cases hr
  · cases hr
def kR (T : TypeId) (cks : List CK) (rs : List AT) (pT : TypeId) (u : AT) (id : Nat) (c : CR) (m : KM) : Option ((ckT cks × tt rs) ⊕ u.2.den) := match c with
  | .val s =>
    let m1 := frzL m (cellsT s)
    match at' m1.σ id with
    | some (.cells T' cs) => bif Nat.beq T' T then (match takeC (setAt m1.σ id .gone) cks cs, toR rs (resTup m1.σ s) with
        | some (st, _, _), some y => some (.inl (st, y))
        | _, _ => none) else none
    | _ => none
  | .pan (.ifc T0 s) => bif Nat.beq T0 pT then (
      let m1 := frzL m (cellsL [s])
      match at' m1.σ id with
      | some (.cells T' cs) => bif Nat.beq T' T && Nat.beq cs.length cks.length then (match toA u (res m1.σ s) with
          | some p => some (.inr p)
          | none => none) else none
      | _ => none) else none
  | .pan _ => none
noncomputable def fnR (P : Program) (C : FuncId → Option Con) (SP : FuncId → Sp) (g : FuncId) (T : TypeId) (cks : List CK) (az rs : List AT) (pT : TypeId) (u : AT) (lf : Nat) (x : ckT cks × tt az) : Option ((ckT cks × tt rs) ⊕ u.2.den) :=
  fnX P C SP lf g (.ptr (giveC [] cks x.1).2.length 0 :: fromAs az x.2) ⟨.cells T (giveC [] cks x.1).1 :: (giveC [] cks x.1).2, []⟩ (kR T cks rs pT u (giveC [] cks x.1).2.length)
theorem fnR_valid {C : FuncId → Option Con} {SP : FuncId → Sp} (hP : P.follows .mixedOrders = true) (hC : ∀ L, envA E ∈ L → ∀ g con, C g = some con → ConOk P L con g) (g : FuncId) (T : TypeId) (cks : List CK) (az rs : List AT) (pT : TypeId) (u : AT) (lf : Nat) : ValidR E P g T cks az rs pT u (fnR P C SP g T cks az rs pT u lf) := by
  intro x y hx z L w b cv vs Os hz hcr hrep hs
  have hs0 : St z ([] ++ (Os ++ (box b cv T :: (envA E :: L)))) w := by
    have h1 := envA_in hz hs
    refine h1.perm ?_
    have p1 : (Os ++ (box b cv T :: (envA E :: L))).Perm (box b cv T :: (envA E :: (Os ++ L))) := by
      have q1 : (Os ++ (box b cv T :: (envA E :: L))).Perm (box b cv T :: (Os ++ (envA E :: L))) := List.perm_middle
      have q2 : (Os ++ (envA E :: L)).Perm (envA E :: (Os ++ L)) := List.perm_middle
      exact q1.trans (q2.cons _)
    exact (List.Perm.swap _ _ _).trans p1.symm
  have hm0 : Mem ⟨z, []⟩ [] [] := ⟨rfl, rfl, fun h => by cases h⟩
  obtain ⟨c', Y, r1, r2, r3, r4, r5, D, r6⟩ := giveC_ok cks (c := ⟨z, []⟩) hcr hm0 hs0
  rw [List.append_nil] at r4 r5
  have hmb : Mem (c'.push ⟨b, none, 0, 0⟩) (.cells T (giveC [] cks x.1).1 :: (giveC [] cks x.1).2) (box b cv T :: Y) := r4.push (i := ⟨b, none, 0, 0⟩) (.cells (r3.mono (KE.le_push _ _)) hcr.one)
  have hat : at' (c'.push ⟨b, none, 0, 0⟩).bs (giveC [] cks x.1).2.length = some ⟨b, none, 0, 0⟩ := by
    show at' (_ :: c'.bs) _ = _
    rw [r4.lb]; exact at_new
  have hstb : St (c'.push ⟨b, none, 0, 0⟩).z ((box b cv T :: Y) ++ (envA E :: L)) w := by
    show St c'.z _ w
    rw [r2]
    exact r5.perm List.perm_middle
  have hzc : (c'.push ⟨b, none, 0, 0⟩).z = z := r2
  have hargs : IsL (c'.push ⟨b, none, 0, 0⟩) (.ptr (giveC [] cks x.1).2.length 0 :: fromAs az x.2) (.pointer (some ⟨b, 0, none⟩) :: vs) :=
    .cons (.ptr (i := ⟨b, none, 0, 0⟩) hat) (fromAs_is (by rw [hzc]; exact hrep))
  refine Calls.mono (fnX_ok (Cl := fun L => envA E ∈ L) env_up (L0 := envA E :: L) hP hC (List.mem_cons_self ..) hx hmb hstb hargs) ?_
  rintro en w' ⟨c, m', e', As', k1, k2, k3, k4, k5⟩
  have hze : z.le e'.z := by have := k3.le.z; rw [hzc] at this; exact this
  unfold kR at k1
  split at k1
  · rename_i s
    obtain ⟨v, rfl, hv⟩ := k2
    obtain ⟨e3, A3, g1, g2, g3⟩ := frzL_ok (cellsT s) k4 k5
    simp only at k1
    split at k1
    · rename_i T' cs hB
      cases hb : Nat.beq T' T with
      | false => rw [hb] at k1; cases k1
      | true =>
        rw [hb] at k1
        simp only [cond_true] at k1
        have := Nat.eq_of_beq_eq_true hb
        subst this
        split at k1
        · rename_i st σ' ids y' htk hy
          cases k1
          obtain ⟨i, A, m1, m2, m3⟩ := g2.get hB
          have := (k3.le.trans g1.le).at hat
          rw [m1] at this; cases this
          cases m3 with
          | cells hc hone =>
            rename_i cv'
            obtain ⟨X, Os', q1, q2, q3, q4, q5, q6, q7⟩ := takeC_ok cks htk (g2.set m1 (A := emp) .gone) hc (st_take g3 m2)
            have hd := St.drop X.length q3
            rw [List.drop_left] at hd
            refine ⟨e3.z, Zone.le_trans hze g1.le.z, cv', Os', q1, ?_, v, rfl, toR_rep hy (resTup_is g2 (hv.mono g1.le))⟩
            have p1 : (Os' ++ (box b cv' T' :: (envA E :: L))).Perm (envA E :: (box b cv' T' :: (Os' ++ L))) := by
              have q1 : (Os' ++ (box b cv' T' :: (envA E :: L))).Perm (box b cv' T' :: (Os' ++ (envA E :: L))) := List.perm_middle
              have q2 : (Os' ++ (envA E :: L)).Perm (envA E :: (Os' ++ L)) := List.perm_middle
              exact (q1.trans (q2.cons _)).trans (List.Perm.swap _ _ _)
            exact (hd.perm p1).tail
        · cases k1
    · cases k1
  · rename_i T0 s
    obtain ⟨v, rfl, hv⟩ := k2
    cases hb0 : Nat.beq T0 pT with
    | false => rw [hb0] at k1; cases k1
    | true =>
      rw [hb0] at k1
      simp only [cond_true] at k1
      have := Nat.eq_of_beq_eq_true hb0
      subst this
      cases hv with
      | ifc hv =>
        obtain ⟨e3, A3, g1, g2, g3⟩ := frzL_ok (cellsL [s]) k4 k5
        split at k1
        · rename_i T' cs hB
          cases hb : (Nat.beq T' T && Nat.beq cs.length cks.length) with
          | false => rw [hb] at k1; cases k1
          | true =>
            rw [hb] at k1
            simp only [cond_true] at k1
            simp only [Bool.and_eq_true] at hb
            have := Nat.eq_of_beq_eq_true hb.1
            subst this
            split at k1
            · rename_i p hp
              cases k1
              obtain ⟨i, A, m1, m2, m3⟩ := g2.get hB
              have := (k3.le.trans g1.le).at hat
              rw [m1] at this; cases this
              cases m3 with
              | cells hc hone =>
                rename_i cv'
                have hd := St.drop (setAt A3 (giveC [] cks x.1).2.length emp).length (st_take g3 m2)
                rw [List.drop_left] at hd
                refine ⟨e3.z, Zone.le_trans hze g1.le.z, cv', by rw [← hc.len]; exact Nat.eq_of_beq_eq_true hb.2, hone, ?_, _, rfl, toA_rep hp (res_is g2 (hv.mono g1.le))⟩
                exact (hd.perm (List.Perm.swap _ _ _)).tail
            · cases k1
        · cases k1
  · cases k1
theorem recR_valid {C : FuncId → Option Con} {SP : FuncId → Sp} {g : FuncId} {T : TypeId} {cks : List CK} {az rs : List AT} {pT : TypeId} {u : AT} {lf : Nat} (hP : P.follows .mixedOrders = true) (hC : ∀ L, envA E ∈ L → ∀ g con, C g = some con → ConOk P L con g) {F : Nat → ckT cks × tt az → Option ((ckT cks × tt rs) ⊕ u.2.den)}
    (h0 : ∀ x, F 0 x = none) (hs : ∀ n x, F (n + 1) x = fnR P (extC C g (refCon T cks az rs pT u (F n))) SP g T cks az rs pT u lf x) : ∀ n, ValidR E P g T cks az rs pT u (F n)
  | 0 => by
    intro hx
    rw [h0] at hx; cases hx
  | n + 1 => by
    intro hx
    rw [hs] at hx
    exact fnR_valid hP (fun L hL => extC_ok (hC L hL) (refCon_ok (recR_valid hP hC h0 hs n) hL)) g T cks az rs pT u lf hx
end Go.K
namespace Go.K
open Go.Sl Go.Sx
variable {e e' e0 : KE} {σ σ' : List Blk} {As L0 L : List Atom} {P : Program} {w : World} {N : Nat} {ρ : Type} {z : Zone}
def ltC {α : Type} (xs : List α) : Option Unit := if xs.length ≤ 4398046511104 then some () else none
theorem ltC_spec {α : Type} {xs : List α} {u : Unit} (e : ltC xs = some u) : xs.length ≤ 4398046511104 := by
  unfold ltC at e
  split at e
  · assumption
  · cases e
def RowOk (P : Program) (g : FuncId) (u : TC) (f : List u.den → List u.den) : Prop := (∀ xs, (f xs).length = xs.length) ∧ ∀ {z : Zone} {L : List Atom} {w : World} {j : Nat} {E : TypeId} {o : Option Addr} {cap : Nat} {xs : List u.den},
  St z L w → L[j]? = some (ownS u.ty E o cap xs) → xs.length ≤ 4398046511104 → Calls P g #[.slice o xs.length cap] w fun e w' => ∃ v, e = .returned v ∧ v = .tuple #[] ∧ St z (L.set j (ownS u.ty E o cap (f xs))) w'
def rowCon (u : TC) (f : List u.den → List u.den) : Con where
  run := fun args m k => match args with
    | [.own id] => match at' m.σ id with
      | some (.own u' E xs) => if hu : u' = u then (ltC xs).bind fun _ => k (.val (.tup [])) ⟨setAt m.σ id (.own u E (f (hu ▸ xs))), (id, 0) :: m.lg⟩ else none
      | _ => none
    | _ => none
theorem rowCon_ok {g : FuncId} {u : TC} {f : List u.den → List u.den} (h : RowOk P g u f) : ConOk P L0 (rowCon u f) g := by
  intro ρ args vs m e As w k r hr h1 h2 hl
  simp only [rowCon] at hr
  split at hr
  · rename_i id
    split at hr
    · rename_i u' E xs hB
      split at hr
      · rename_i hu
        subst hu
        obtain ⟨_, hx, hk⟩ := bind_some hr
        have hlt := ltC_spec hx
        obtain ⟨i, m1, m2, m3⟩ := h1.len hB
        cases hl with
        | cons a b =>
          cases b
          cases a with
          | own hi =>
            rw [m1] at hi; cases hi
            rw [← m2]
            refine Calls.mono (h.2 h2 (Mem.atom m3) hlt) ?_
            rintro en w' ⟨v, rfl, rfl, hs⟩
            rw [setAt_app (at_lt m3)] at hs
            exact ⟨_, _, e, _, hk, ⟨_, rfl, .tup .nil⟩, ⟨.rfl, ExtM.set hB (fun T cs hh => by cases hh), fun hh => absurd hh (by simp)⟩, h1.set m1 (.own (by rw [h.1]; exact m2)), hs⟩
      · cases hr
    · cases hr
  · cases hr
def CutOk (P : Program) (g : FuncId) (u : TC) (f : List u.den → List u.den) : Prop := ∀ {z : Zone} {L : List Atom} {w : World} {j : Nat} {E : TypeId} {o : Option Addr} {cap : Nat} {xs : List u.den},
  St z L w → L[j]? = some (ownS u.ty E o cap xs) → xs.length ≤ 4398046511104 → Calls P g #[.slice o xs.length cap] w fun e w' => ∃ v, e = .returned v ∧ v = .slice o (f xs).length cap ∧ St z (L.set j (ownS u.ty E o cap (f xs))) w'
def cutCon (u : TC) (f : List u.den → List u.den) : Con where
  run := fun args m k => match args with
    | [.own id] => match at' m.σ id with
      | some (.own u' E xs) => if hu : u' = u then (ltC xs).bind fun _ => k (.val (.own m.σ.length)) ⟨.own u E (f (hu ▸ xs)) :: setAt m.σ id .gone, (id, 0) :: m.lg⟩ else none
      | _ => none
    | _ => none
theorem cutCon_ok {g : FuncId} {u : TC} {f : List u.den → List u.den} (h : CutOk P g u f) : ConOk P L0 (cutCon u f) g := by
  intro ρ args vs m e As w k r hr h1 h2 hl
  simp only [cutCon] at hr
  split at hr
  · rename_i id
    split at hr
    · rename_i u' E xs hB
      split at hr
      · rename_i hu
        subst hu
        obtain ⟨_, hx, hk⟩ := bind_some hr
        have hlt := ltC_spec hx
        obtain ⟨i, m1, m2, m3⟩ := h1.len hB
        cases hl with
        | cons a b =>
          cases b
          cases a with
          | own hi =>
            rw [m1] at hi; cases hi
            rw [← m2]
            refine Calls.mono (h h2 (Mem.atom m3) hlt) ?_
            rintro en w' ⟨v, rfl, rfl, hs⟩
            have hfr := st_front hs (by have := at_lt m3; simp; omega)
            rw [setAt_app (at_lt m3)] at hfr
            have hle := KE.le_push e ⟨0, i.o, (f xs).length, i.c⟩
            refine ⟨_, _, e.push ⟨0, i.o, (f xs).length, i.c⟩, _, hk, ⟨_, rfl, .own (i := ⟨0, i.o, (f xs).length, i.c⟩) ?_⟩, ⟨hle, (ExtM.set hB (fun T cs hh => by cases hh)).trans (ExtM.push _ _), fun hh => absurd hh (by simp)⟩, (h1.set m1 .gone).push (.own rfl), hfr⟩
            show at' (_ :: e.bs) m.σ.length = _
            rw [h1.lb]; exact at_new
      · cases hr
    · cases hr
  · cases hr
end Go.K
namespace Go.Sx
open Go
def insI (x : Int) : List Int → List Int
  | [] => [x]
  | y :: ys => bif decide (x ≤ y) then x :: y :: ys else y :: insI x ys
def sortL : List Int → List Int
  | [] => []
  | x :: xs => insI x (sortL xs)
theorem insI_perm (x : Int) : ∀ ys, (insI x ys).Perm (x :: ys)
  | [] => List.Perm.refl _
  | y :: ys => by
    unfold insI
    cases decide (x ≤ y) with
    | true => exact List.Perm.refl _
    | false => exact ((insI_perm x ys).cons y).trans (List.Perm.swap x y ys)
theorem sortL_perm : ∀ xs, (sortL xs).Perm xs
  | [] => List.Perm.refl _
  | x :: xs => (insI_perm x _).trans ((sortL_perm xs).cons x)
theorem insI_sorted (x : Int) : ∀ {ys : List Int}, ys.Pairwise (· ≤ ·) → (insI x ys).Pairwise (· ≤ ·)
  | [], _ => by simp [insI]
  | y :: ys, h => by
    obtain ⟨h1, h2⟩ := List.pairwise_cons.1 h
    unfold insI
    by_cases hxy : x ≤ y
    · simp only [hxy, decide_true, cond_true]
      refine List.pairwise_cons.2 ⟨fun z hz => ?_, h⟩
      rcases List.mem_cons.1 hz with e | e
      · omega
      · have := h1 z e; omega
    · simp only [hxy, decide_false, cond_false]
      refine List.pairwise_cons.2 ⟨fun z hz => ?_, insI_sorted x h2⟩
      rcases List.mem_cons.1 ((insI_perm x ys).mem_iff.1 hz) with e | e
      · omega
      · exact h1 z e
theorem sortL_sorted : ∀ xs, (sortL xs).Pairwise (· ≤ ·)
  | [] => List.Pairwise.nil
  | x :: xs => insI_sorted x (sortL_sorted xs)
theorem sortL_eq (xs : List Int) : (xs.mergeSort fun x y => decide (x ≤ y)) = sortL xs := by
  have h1 := List.pairwise_mergeSort (le := fun x y : Int => decide (x ≤ y)) (fun a b c h1 h2 => by simp at *; omega) (fun a b => by simp; omega) xs
  refine List.Perm.eq_of_pairwise (le := fun a b : Int => a ≤ b) (fun a b _ _ h1 h2 => by omega) (h1.imp (by simp)) (sortL_sorted xs) ((List.mergeSort_perm _ _).trans (sortL_perm xs).symm)
theorem sortL_len (xs : List Int) : xs.length = (sortL xs).length := (sortL_perm xs).length_eq.symm
def compL (xs : List Int) : List Int := Lib.compact xs
end Go.Sx
namespace Go.K
open Go.Sl Go.Sx Go.Proofs
def isSp (n : Nat) : Bool := Nat.beq n 32
def joinC (sep : ByteArray) (xs : List ByteArray) : Option ByteArray := if xs.foldl (fun n x => n + x.size + (sep.size + 1)) 0 ≤ 1099511627776 then some (match xs with
  | [] => ByteArray.empty
  | x :: xs => xs.foldl (fun r y => r ++ sep ++ y) x) else none
noncomputable def CT (P : Program) (lf : Nat) : FuncId → Option Con :=
  extC (extC (extC (extC (extC (extC (extC (extC (fun _ => none) 139 (dataCon [aI] [aS] itoaC)) 274 (dataCon [aS, aS] [aS] fun x => trimC x.1 x.2)) 182 (rowCon .i sortL)) 183 (cutCon .i compL))
    134 (dataCon [aS, aS] [aSs] fun x => splitC x.1 x.2)) 275 atoiCon) 157 (fieldsCon 158 isSp)) 140 (dataCon [aSs, aS] [aS] fun x => joinC x.2 x.1)
end Go.K
set_option maxRecDepth 100000
set_option maxHeartbeats 0
namespace Go.K
open Go.Sl Go.Sx Go.Proofs
def S91 : FuncId → Sp := fun _ => {}
noncomputable def F91 (P : Program) (lf : Nat) (x : tt [(false, .i), (false, .i), (false, .i)]) : Option (tt [(false, .bool)]) := fnF P (CT P lf) S91 91 [(false, .i), (false, .i), (false, .i)] [(false, .bool)] lf x
noncomputable def C91 (P : Program) (lf : Nat) : FuncId → Option Con := extC (CT P lf) 91 (dataCon [(false, .i), (false, .i), (false, .i)] [(false, .bool)] (F91 P lf))
theorem F91_eq (lf : Nat) (a0 : Int) (a1 : Int) (a2 : Int) : F91 Tryz.prog lf (a0, (a1, a2)) =
  cond (decide (a0 ≥ a1)) (some (decide (a0 ≤ a2))) (some false) := by kernel_rfl
def S223 : FuncId → Sp := fun g => match g with
  | 223 => { loops := [(2, [(.slot 8, .dat .i)])] }
  | _ => {}
noncomputable def F223 (P : Program) (lf : Nat) (x : tt [(false, (.sl .str)), (false, .str)]) : Option (tt [(false, .i)]) := fnF P (C91 P lf) S223 223 [(false, (.sl .str)), (false, .str)] [(false, .i)] lf x
noncomputable def C223 (P : Program) (lf : Nat) : FuncId → Option Con := extC (C91 P lf) 223 (dataCon [(false, (.sl .str)), (false, .str)] [(false, .i)] (F223 P lf))
theorem F223_eq (lf : Nat) (a0 : (List ByteArray)) (a1 : ByteArray) : F223 Tryz.prog lf (a0, a1) =
  iter lf (fun y4 : Int => cond (decide (y4 < (a0.length : Int))) (((getI a0 y4)).bind fun r5 => cond ((ByteArray.toList a1) == (ByteArray.toList r5)) (some (.inr y4)) (some (.inl (w64 (y4 + (1 : Int)))))) (some (.inr (-1 : Int)))) (0 : Int) := by kernel_rfl
def S180 : FuncId → Sp := fun _ => {}
noncomputable def F180 (P : Program) (lf : Nat) (x : tt [(false, (.sl .str)), (false, .str)]) : Option (tt [(false, .bool)]) := fnF P (C223 P lf) S180 180 [(false, (.sl .str)), (false, .str)] [(false, .bool)] lf x
noncomputable def C180 (P : Program) (lf : Nat) : FuncId → Option Con := extC (C223 P lf) 180 (dataCon [(false, (.sl .str)), (false, .str)] [(false, .bool)] (F180 P lf))
theorem F180_eq (lf : Nat) (a0 : (List ByteArray)) (a1 : ByteArray) : F180 Tryz.prog lf (a0, a1) =
  ((F223 Tryz.prog lf (a0, a1))).bind fun r3 => some (decide (r3 ≥ (0 : Int))) := by kernel_rfl
def S165 : FuncId → Sp := fun _ => {}
noncomputable def F165 (P : Program) (lf : Nat) (x : tt [(false, .str)]) : Option (tt [(false, .bool)]) := fnF P (C180 P lf) S165 165 [(false, .str)] [(false, .bool)] lf x
noncomputable def C165 (P : Program) (lf : Nat) : FuncId → Option Con := extC (C180 P lf) 165 (dataCon [(false, .str)] [(false, .bool)] (F165 P lf))
theorem F165_eq (lf : Nat) (a0 : ByteArray) : F165 Tryz.prog lf a0 =
  ((F180 Tryz.prog lf ([(bts [99, 111, 100, 101]), (bts [102, 97, 99, 116]), (bts [114, 117, 108, 101]), (bts [119, 104, 101, 110]), (bts [109, 117, 115, 116]), (bts [117, 110, 108, 101, 115, 115]), (bts [97, 110, 100]), (bts [111, 114]), (bts [110, 111, 116]), (bts [116, 114, 117, 101])], a0))).bind fun r2 => some r2 := by kernel_rfl
def S94 : FuncId → Sp := fun g => match g with
  | 94 => { joins := [(9, [(.slot 48, .dat .bool)]), (8, [(.slot 5, .dat .bool)]), (7, [(.slot 4, .dat .bool)]), (2, [(.slot 13, .dat .bool)])], loops := [(4, [(.slot 16, .dat .i)])] }
  | _ => {}
noncomputable def F94 (P : Program) (lf : Nat) (x : tt [(false, .str)]) : Option (tt [(false, .bool)]) := fnF P (C165 P lf) S94 94 [(false, .str)] [(false, .bool)] lf x
noncomputable def C94 (P : Program) (lf : Nat) : FuncId → Option Con := extC (C165 P lf) 94 (dataCon [(false, .str)] [(false, .bool)] (F94 P lf))
theorem F94_eq (lf : Nat) (a0 : ByteArray) : F94 Tryz.prog lf a0 =
  jn (((F91 Tryz.prog lf ((a0.size : Int), ((1 : Int), (12 : Int))))).bind fun r12 => cond (!r12) (some (.inl true)) (((F165 Tryz.prog lf a0)).bind fun r13 => some (.inl r13))) (fun y14 : Bool => cond y14 (some false) (iter lf (fun y15 : Int => cond (decide (y15 < (a0.size : Int))) (jn (((byteAt a0 y15)).bind fun r16 => cond (decide (r16 ≥ (97 : Int))) (((byteAt a0 y15)).bind fun r17 => some (.inl (decide (r17 ≤ (122 : Int))))) (some (.inl false))) (fun y18 : Bool => jn (((byteAt a0 y15)).bind fun r19 => cond (decide (r19 ≥ (48 : Int))) (((byteAt a0 y15)).bind fun r20 => some (.inl (decide (r20 ≤ (57 : Int))))) (some (.inl false))) (fun y21 : Bool => jn (cond (!y18) (cond (decide (y15 = (0 : Int))) (some (.inl true)) (some (.inl (!y21)))) (some (.inl false))) (fun y22 : Bool => cond y22 (some (.inr false)) (some (.inl (w64 (y15 + (1 : Int))))))))) (some (.inr true))) (0 : Int))) := by kernel_rfl
def S158 : FuncId → Sp := fun _ => {}
noncomputable def F158 (P : Program) (lf : Nat) (x : tt [(false, (.int .i32))]) : Option (tt [(false, .bool)]) := fnF P (C94 P lf) S158 158 [(false, (.int .i32))] [(false, .bool)] lf x
noncomputable def C158 (P : Program) (lf : Nat) : FuncId → Option Con := extC (C94 P lf) 158 (dataCon [(false, (.int .i32))] [(false, .bool)] (F158 P lf))
def S86 : FuncId → Sp := fun _ => {}
noncomputable def F86 (P : Program) (lf : Nat) (x : tt [(false, .str)]) : Option (tt [(false, (.sl .str))]) := fnF P (C158 P lf) S86 86 [(false, .str)] [(false, (.sl .str))] lf x
noncomputable def C86 (P : Program) (lf : Nat) : FuncId → Option Con := extC (C158 P lf) 86 (dataCon [(false, .str)] [(false, (.sl .str))] (F86 P lf))
theorem F86_eq (lf : Nat) (a0 : ByteArray) : F86 Tryz.prog lf a0 =
  ((fieldsC (fun y2 : Nat => (isSp y2)) a0)).bind fun r3 => some r3 := by kernel_rfl
def S244 : FuncId → Sp := fun g => match g with
  | 244 => { joins := [(5, [(.slot 34, .dat .bool)]), (4, [(.slot 6, .dat .str)])] }
  | 291 => { joins := [(2, [(.slot 7, .dat .bool)])] }
  | _ => {}
noncomputable def F244 (P : Program) (lf : Nat) (x : tt [(false, .str), (false, .bool)]) : Option (tt [(false, .i), (false, .bool)]) := fnF P (C86 P lf) S244 244 [(false, .str), (false, .bool)] [(false, .i), (false, .bool)] lf x
noncomputable def C244 (P : Program) (lf : Nat) : FuncId → Option Con := extC (C86 P lf) 244 (dataCon [(false, .str), (false, .bool)] [(false, .i), (false, .bool)] (F244 P lf))
theorem F244_eq (lf : Nat) (a0 : ByteArray) (a1 : Bool) : F244 Tryz.prog lf (a0, a1) =
  jn (cond a1 (jn (cond (decide ((a0.size : Int) ≥ (1 : Int))) (((cutC a0 (0 : Int) (1 : Int))).bind fun r11 => some (.inl ((ByteArray.toList (ByteArray.extract a0 0 1)) == [(UInt8.ofNat 45)]))) (some (.inl false))) (fun y12 : Bool => cond y12 (((cutC a0 (1 : Int) (a0.size : Int))).bind fun r13 => some (.inl (ByteArray.extract a0 1 (Int.toNat (a0.size : Int))))) (some (.inl a0)))) (some (.inl a0))) (fun y14 : ByteArray => jn (cond (decide ((y14.size : Int) = (0 : Int))) (some (.inl true)) (cond (decide ((y14.size : Int) > (13 : Int))) (some (.inl true)) (((byteAt y14 (0 : Int))).bind fun r15 => cond (decide (r15 = (48 : Int))) (cond (!((ByteArray.toList a0) == [(UInt8.ofNat 48)])) (some (.inl true)) (((trimC y14 (bts [48, 49, 50, 51, 52, 53, 54, 55, 56, 57]))).bind fun r16 => some (.inl (!((ByteArray.toList r16) == ([] : List UInt8)))))) (((trimC y14 (bts [48, 49, 50, 51, 52, 53, 54, 55, 56, 57]))).bind fun r17 => some (.inl (!((ByteArray.toList r17) == ([] : List UInt8)))))))) (fun y18 : Bool => cond y18 (some ((0 : Int), false)) (((atoiC a0)).bind fun r19 => some (r19, true)))) := by kernel_rfl
abbrev CK215 : List CK := [.d (.sl .str), .d .i, .o Yp 131]
abbrev U215 : AT := (true, .i)
def S215 : FuncId → Sp := fun _ => {}
noncomputable def F215 (P : Program) (lf : Nat) (x : ckT CK215 × tt [(true, Yp)]) : Option ((ckT CK215 × tt [(false, .i)]) ⊕ U215.2.den) := fnR P (C244 P lf) S215 215 126 CK215 [(true, Yp)] [(false, .i)] 122 U215 lf x
noncomputable def C215 (P : Program) (lf : Nat) : FuncId → Option Con := extC (C244 P lf) 215 (refCon 126 CK215 [(true, Yp)] [(false, .i)] 122 U215 (F215 P lf))
theorem F215_eq (lf : Nat) (a0 : (List ByteArray)) (a1 : Int) (a2 : Yt) (a3 : Int) (a4 : Int) (a5 : Int) (a6 : ByteArray) (a7 : Int) : F215 Tryz.prog lf ((a0, (a1, (a2, ()))), (a3, (a4, (a5, (a6, a7))))) =
  ((appC a2 [(a3, (a4, (a5, (a6, a7))))])).bind fun r9 => some (.inl ((a0, (a1, (r9, ()))), (w64 ((r9.length : Int) - (1 : Int))))) := by kernel_rfl
abbrev CK216 : List CK := [.d (.sl .str), .d .i, .o Yp 131]
abbrev U216 : AT := (true, .i)
def S216 : FuncId → Sp := fun g => match g with
  | 216 => { joins := [(13, [(.slot 69, .dat .bool)]), (9, [(.slot 44, .dat .bool)]), (8, [(.slot 9, .dat .i), (.slot 8, .dat .bool)]), (4, [(.slot 7, .dat .i), (.slot 8, .dat .bool)]), (3, [(.slot 6, .dat .str)])] }
  | _ => {}
noncomputable def F216 (P : Program) (lf : Nat) (x : ckT CK216 × tt [(false, .str)]) : Option ((ckT CK216 × tt [(false, .i)]) ⊕ U216.2.den) := fnR P (C215 P lf) S216 216 126 CK216 [(false, .str)] [(false, .i)] 122 U216 lf x
noncomputable def C216 (P : Program) (lf : Nat) : FuncId → Option Con := extC (C215 P lf) 216 (refCon 126 CK216 [(false, .str)] [(false, .i)] 122 U216 (F216 P lf))
theorem F216_eq (lf : Nat) (a0 : (List ByteArray)) (a1 : Int) (a2 : Yt) (a3 : ByteArray) : F216 Tryz.prog lf ((a0, (a1, (a2, ()))), a3) =
  jn (cond (decide (a1 = (a0.length : Int))) (some (.inl (bts []))) (((getI a0 a1)).bind fun r22 => some (.inl r22))) (fun y23 : ByteArray => jn (cond ((ByteArray.toList y23) == [(UInt8.ofNat 60)]) (some (.inl ((1 : Int), true))) (cond ((ByteArray.toList y23) == [(UInt8.ofNat 62), (UInt8.ofNat 61)]) (some (.inl ((1 : Int), true))) (cond ((ByteArray.toList y23) == [(UInt8.ofNat 60), (UInt8.ofNat 61)]) (some (.inl ((2 : Int), true))) (cond ((ByteArray.toList y23) == [(UInt8.ofNat 62)]) (some (.inl ((2 : Int), true))) (cond ((ByteArray.toList y23) == [(UInt8.ofNat 61)]) (some (.inl ((3 : Int), true))) (cond ((ByteArray.toList y23) == [(UInt8.ofNat 33), (UInt8.ofNat 61)]) (some (.inl ((3 : Int), true))) (some (.inl ((0 : Int), false))))))))) (fun y24 : (Int × Bool) => cond (!y24.2) (some (.inr (w64 (a1 + (1 : Int))))) (jn (cond (decide ((w64 (a1 + (1 : Int))) = (a0.length : Int))) (((F244 Tryz.prog lf ((bts []), true))).bind fun r25 => some (.inl (r25.1, r25.2))) (((getI a0 (w64 (a1 + (1 : Int))))).bind fun r26 => ((F244 Tryz.prog lf (r26, true))).bind fun r27 => some (.inl (r27.1, r27.2)))) (fun y28 : (Int × Bool) => jn (cond (!y28.2) (some (.inl true)) (((F91 Tryz.prog lf (y28.1, ((-1000000000000 : Int), (1000000000000 : Int))))).bind fun r29 => some (.inl (!r29)))) (fun y30 : Bool => cond y30 (some (.inr (w64 ((w64 (a1 + (1 : Int))) + (1 : Int))))) (((F215 Tryz.prog lf ((a0, ((w64 ((w64 (a1 + (1 : Int))) + (1 : Int))), (a2, ()))), (y24.1, ((0 : Int), ((0 : Int), (a3, y28.1))))))).bind fun r31 => sm r31 (fun r32 : (((List ByteArray) × (Int × (Yt × PUnit))) × Int) => jn (cond ((ByteArray.toList y23) == [(UInt8.ofNat 62), (UInt8.ofNat 61)]) (some (.inl true)) (cond ((ByteArray.toList y23) == [(UInt8.ofNat 62)]) (some (.inl true)) (some (.inl ((ByteArray.toList y23) == [(UInt8.ofNat 33), (UInt8.ofNat 61)]))))) (fun y33 : Bool => cond y33 (((F215 Tryz.prog lf ((r32.1.1, (r32.1.2.1, (r32.1.2.2.1, ()))), ((4 : Int), (r32.2, ((0 : Int), ((bts []), (0 : Int)))))))).bind fun r34 => sm r34 (fun r35 : (((List ByteArray) × (Int × (Yt × PUnit))) × Int) => some (.inl ((r35.1.1, (r35.1.2.1, (r35.1.2.2.1, ()))), r35.2))) (fun r36 : Int => some (.inr r36))) (some (.inl ((r32.1.1, (r32.1.2.1, (r32.1.2.2.1, ()))), r32.2))))) (fun r37 : Int => some (.inr r37)))))))) := by kernel_rfl
abbrev CK162 : List CK := [.d (.sl .str), .d .i, .o Yp 131]
abbrev U162 : AT := (true, .i)
def S162 : FuncId → Sp := fun g => match g with
  | 162 => { joins := [(10, [(.slot 42, .dat .bool)]), (9, [(.slot 6, .dat .i), (.cell 0 0, .dat (.sl .str)), (.cell 0 1, .dat .i), (.cell 0 2, .own Yp 131)]), (3, [(.slot 9, .dat .bool)]), (2, [(.slot 5, .dat .str)])] }
  | 159 => { joins := [(5, [(.slot 10, .dat .i), (.cell 0 0, .dat (.sl .str)), (.cell 0 1, .dat .i), (.cell 0 2, .own Yp 131)]), (2, [(.slot 9, .dat .i), (.cell 0 0, .dat (.sl .str)), (.cell 0 1, .dat .i), (.cell 0 2, .own Yp 131)])], loops := [(2, [(.slot 9, .dat .i), (.cell 0 0, .dat (.sl .str)), (.cell 0 1, .dat .i), (.cell 0 2, .own Yp 131)])] }
  | _ => {}
noncomputable def F162 (P : Program) (lf : Nat) : Nat → ckT CK162 × tt [(false, .i)] → Option ((ckT CK162 × tt [(false, .i)]) ⊕ U162.2.den)
  | 0, _ => none
  | n + 1, x => fnR P (extC (C216 P lf) 162 (refCon 126 CK162 [(false, .i)] [(false, .i)] 122 U162 (F162 P lf n))) S162 162 126 CK162 [(false, .i)] [(false, .i)] 122 U162 lf x
noncomputable def C162 (P : Program) (lf : Nat) : FuncId → Option Con := extC (C216 P lf) 162 (refCon 126 CK162 [(false, .i)] [(false, .i)] 122 U162 (F162 P lf lf))
theorem F162_eq (lf n : Nat) (a0 : (List ByteArray)) (a1 : Int) (a2 : Yt) (a3 : Int) : F162 Tryz.prog lf (n + 1) ((a0, (a1, (a2, ()))), a3) =
  jn (cond (decide (a1 = (a0.length : Int))) (some (.inl (bts []))) (((getI a0 a1)).bind fun r78 => some (.inl r78))) (fun y79 : ByteArray => jn (cond ((ByteArray.toList y79) == [(UInt8.ofNat 110), (UInt8.ofNat 111), (UInt8.ofNat 116)]) (some (.inl true)) (some (.inl ((ByteArray.toList y79) == [(UInt8.ofNat 40)])))) (fun y80 : Bool => cond y80 (cond (decide (a3 = (8 : Int))) (some (.inr (w64 (a1 + (1 : Int))))) (cond ((ByteArray.toList y79) == [(UInt8.ofNat 110), (UInt8.ofNat 111), (UInt8.ofNat 116)]) (((F162 Tryz.prog lf n ((a0, ((w64 (a1 + (1 : Int))), (a2, ()))), (w64 (a3 + (1 : Int)))))).bind fun r81 => sm r81 (fun r82 : (((List ByteArray) × (Int × (Yt × PUnit))) × Int) => ((F215 Tryz.prog lf ((r82.1.1, (r82.1.2.1, (r82.1.2.2.1, ()))), ((4 : Int), (r82.2, ((0 : Int), ((bts []), (0 : Int)))))))).bind fun r83 => sm r83 (fun r84 : (((List ByteArray) × (Int × (Yt × PUnit))) × Int) => some (.inl ((r84.1.1, (r84.1.2.1, (r84.1.2.2.1, ()))), r84.2))) (fun r85 : Int => some (.inr r85))) (fun r86 : Int => some (.inr r86))) (jn (jn (jn (((F162 Tryz.prog lf n ((a0, ((w64 (a1 + (1 : Int))), (a2, ()))), (w64 (a3 + (1 : Int)))))).bind fun r87 => sm r87 (fun r88 : (((List ByteArray) × (Int × (Yt × PUnit))) × Int) => some (.inl (r88.2, (r88.1.1, (r88.1.2.1, r88.1.2.2.1))))) (fun r89 : Int => some (.inr (.inr (.inr (.inr r89)))))) (fun y90 : (Int × ((List ByteArray) × (Int × Yt))) => iter lf (fun y91 : (Int × ((List ByteArray) × (Int × Yt))) => cond (decide (y91.2.2.1 = (y91.2.1.length : Int))) (some (.inr (.inl (y91.1, (y91.2.1, (y91.2.2.1, y91.2.2.2)))))) (((getI y91.2.1 y91.2.2.1)).bind fun r92 => cond ((ByteArray.toList r92) == [(UInt8.ofNat 97), (UInt8.ofNat 110), (UInt8.ofNat 100)]) (jn (((F162 Tryz.prog lf n ((y91.2.1, ((w64 (y91.2.2.1 + (1 : Int))), (y91.2.2.2, ()))), (w64 (a3 + (1 : Int)))))).bind fun r93 => sm r93 (fun r94 : (((List ByteArray) × (Int × (Yt × PUnit))) × Int) => some (.inl (r94.2, (r94.1.1, (r94.1.2.1, r94.1.2.2.1))))) (fun r95 : Int => some (.inr (.inr (.inr (.inr (.inr r95))))))) (fun y96 : (Int × ((List ByteArray) × (Int × Yt))) => ((F215 Tryz.prog lf ((y96.2.1, (y96.2.2.1, (y96.2.2.2, ()))), ((5 : Int), (y91.1, (y96.1, ((bts []), (0 : Int)))))))).bind fun r97 => sm r97 (fun r98 : (((List ByteArray) × (Int × (Yt × PUnit))) × Int) => some (.inl (r98.2, (r98.1.1, (r98.1.2.1, r98.1.2.2.1))))) (fun r99 : Int => some (.inr (.inr (.inr (.inr r99))))))) (some (.inr (.inl (y91.1, (y91.2.1, (y91.2.2.1, y91.2.2.2)))))))) (y90.1, (y90.2.1, (y90.2.2.1, y90.2.2.2))))) (fun y100 : (Int × ((List ByteArray) × (Int × Yt))) => iter lf (fun y101 : (Int × ((List ByteArray) × (Int × Yt))) => cond (decide (y101.2.2.1 = (y101.2.1.length : Int))) (some (.inr (.inl (y101.1, (y101.2.1, (y101.2.2.1, y101.2.2.2)))))) (((getI y101.2.1 y101.2.2.1)).bind fun r102 => cond ((ByteArray.toList r102) == [(UInt8.ofNat 111), (UInt8.ofNat 114)]) (jn (jn (((F162 Tryz.prog lf n ((y101.2.1, ((w64 (y101.2.2.1 + (1 : Int))), (y101.2.2.2, ()))), (w64 (a3 + (1 : Int)))))).bind fun r103 => sm r103 (fun r104 : (((List ByteArray) × (Int × (Yt × PUnit))) × Int) => some (.inl (r104.2, (r104.1.1, (r104.1.2.1, r104.1.2.2.1))))) (fun r105 : Int => some (.inr (.inr (.inr (.inr (.inr r105))))))) (fun y106 : (Int × ((List ByteArray) × (Int × Yt))) => iter lf (fun y107 : (Int × ((List ByteArray) × (Int × Yt))) => cond (decide (y107.2.2.1 = (y107.2.1.length : Int))) (some (.inr (.inl (y107.1, (y107.2.1, (y107.2.2.1, y107.2.2.2)))))) (((getI y107.2.1 y107.2.2.1)).bind fun r108 => cond ((ByteArray.toList r108) == [(UInt8.ofNat 97), (UInt8.ofNat 110), (UInt8.ofNat 100)]) (jn (((F162 Tryz.prog lf n ((y107.2.1, ((w64 (y107.2.2.1 + (1 : Int))), (y107.2.2.2, ()))), (w64 (a3 + (1 : Int)))))).bind fun r109 => sm r109 (fun r110 : (((List ByteArray) × (Int × (Yt × PUnit))) × Int) => some (.inl (r110.2, (r110.1.1, (r110.1.2.1, r110.1.2.2.1))))) (fun r111 : Int => some (.inr (.inr (.inr (.inr (.inr (.inr r111)))))))) (fun y112 : (Int × ((List ByteArray) × (Int × Yt))) => ((F215 Tryz.prog lf ((y112.2.1, (y112.2.2.1, (y112.2.2.2, ()))), ((5 : Int), (y107.1, (y112.1, ((bts []), (0 : Int)))))))).bind fun r113 => sm r113 (fun r114 : (((List ByteArray) × (Int × (Yt × PUnit))) × Int) => some (.inl (r114.2, (r114.1.1, (r114.1.2.1, r114.1.2.2.1))))) (fun r115 : Int => some (.inr (.inr (.inr (.inr (.inr r115)))))))) (some (.inr (.inl (y107.1, (y107.2.1, (y107.2.2.1, y107.2.2.2)))))))) (y106.1, (y106.2.1, (y106.2.2.1, y106.2.2.2))))) (fun y116 : (Int × ((List ByteArray) × (Int × Yt))) => ((F215 Tryz.prog lf ((y116.2.1, (y116.2.2.1, (y116.2.2.2, ()))), ((6 : Int), (y101.1, (y116.1, ((bts []), (0 : Int)))))))).bind fun r117 => sm r117 (fun r118 : (((List ByteArray) × (Int × (Yt × PUnit))) × Int) => some (.inl (r118.2, (r118.1.1, (r118.1.2.1, r118.1.2.2.1))))) (fun r119 : Int => some (.inr (.inr (.inr r119)))))) (some (.inr (.inl (y101.1, (y101.2.1, (y101.2.2.1, y101.2.2.2)))))))) (y100.1, (y100.2.1, (y100.2.2.1, y100.2.2.2))))) (fun y120 : (Int × ((List ByteArray) × (Int × Yt))) => jn (cond (decide (y120.2.2.1 = (y120.2.1.length : Int))) (some (.inl true)) (((getI y120.2.1 y120.2.2.1)).bind fun r121 => some (.inl (!((ByteArray.toList r121) == [(UInt8.ofNat 41)]))))) (fun y122 : Bool => cond y122 (some (.inr (w64 (y120.2.2.1 + (1 : Int))))) (some (.inl ((y120.2.1, ((w64 (y120.2.2.1 + (1 : Int))), (y120.2.2.2, ()))), y120.1)))))))) (cond ((ByteArray.toList y79) == [(UInt8.ofNat 116), (UInt8.ofNat 114), (UInt8.ofNat 117), (UInt8.ofNat 101)]) (((F215 Tryz.prog lf ((a0, ((w64 (a1 + (1 : Int))), (a2, ()))), ((0 : Int), ((0 : Int), ((0 : Int), ((bts []), (0 : Int)))))))).bind fun r123 => sm r123 (fun r124 : (((List ByteArray) × (Int × (Yt × PUnit))) × Int) => some (.inl ((r124.1.1, (r124.1.2.1, (r124.1.2.2.1, ()))), r124.2))) (fun r125 : Int => some (.inr r125))) (((F94 Tryz.prog lf y79)).bind fun r126 => cond (!r126) (some (.inr (w64 (a1 + (1 : Int))))) (((F216 Tryz.prog lf ((a0, ((w64 (a1 + (1 : Int))), (a2, ()))), y79))).bind fun r127 => sm r127 (fun r128 : (((List ByteArray) × (Int × (Yt × PUnit))) × Int) => some (.inl ((r128.1.1, (r128.1.2.1, (r128.1.2.2.1, ()))), r128.2))) (fun r129 : Int => some (.inr r129))))))) := by kernel_rfl
def S17 : FuncId → Sp := fun g => match g with
  | 17 => { joins := [(6, [(.cell 14 0, .dat (.sl .str)), (.cell 14 1, .dat .i), (.cell 14 2, .own Yp 131)])] }
  | 159 => { joins := [(5, [(.slot 10, .dat .i), (.cell 0 0, .dat (.sl .str)), (.cell 0 1, .dat .i), (.cell 0 2, .own Yp 131)]), (2, [(.slot 9, .dat .i), (.cell 0 0, .dat (.sl .str)), (.cell 0 1, .dat .i), (.cell 0 2, .own Yp 131)])], loops := [(2, [(.slot 9, .dat .i), (.cell 0 0, .dat (.sl .str)), (.cell 0 1, .dat .i), (.cell 0 2, .own Yp 131)])] }
  | _ => {}
noncomputable def F17 (P : Program) (lf : Nat) (x : tt [(false, .str)]) : Option (tt [(true, (.sl Yp)), (false, .i), (false, .i)]) := fnF P (C162 P lf) S17 17 [(false, .str)] [(true, (.sl Yp)), (false, .i), (false, .i)] lf x
noncomputable def C17 (P : Program) (lf : Nat) : FuncId → Option Con := extC (C162 P lf) 17 (dataCon [(false, .str)] [(true, (.sl Yp)), (false, .i), (false, .i)] (F17 P lf))
theorem F17_eq (lf : Nat) (a0 : ByteArray) : F17 Tryz.prog lf a0 =
  cond (decide ((a0.size : Int) > (8000 : Int))) (some (([] : List (Int × (Int × (Int × (ByteArray × Int))))), ((0 : Int), (2 : Int)))) (((F86 Tryz.prog lf a0)).bind fun r57 => jn (jn (jn (((F162 Tryz.prog lf lf ((r57, ((0 : Int), (([] : List (Int × (Int × (Int × (ByteArray × Int))))), ()))), (0 : Int)))).bind fun r58 => sm r58 (fun r59 : (((List ByteArray) × (Int × (Yt × PUnit))) × Int) => some (.inl (r59.2, (r59.1.1, (r59.1.2.1, r59.1.2.2.1))))) (fun r60 : Int => outR (outR (outR (agree (some (([] : List (Int × (Int × (Int × (ByteArray × Int))))), (r60, (46 : Int)))) (some (([] : List (Int × (Int × (Int × (ByteArray × Int))))), (r60, (46 : Int))))))))) (fun y61 : (Int × ((List ByteArray) × (Int × Yt))) => iter lf (fun y62 : (Int × ((List ByteArray) × (Int × Yt))) => cond (decide (y62.2.2.1 = (y62.2.1.length : Int))) (some (.inr (.inl (y62.1, (y62.2.1, (y62.2.2.1, y62.2.2.2)))))) (((getI y62.2.1 y62.2.2.1)).bind fun r63 => cond ((ByteArray.toList r63) == [(UInt8.ofNat 97), (UInt8.ofNat 110), (UInt8.ofNat 100)]) (jn (((F162 Tryz.prog lf lf ((y62.2.1, ((w64 (y62.2.2.1 + (1 : Int))), (y62.2.2.2, ()))), (0 : Int)))).bind fun r64 => sm r64 (fun r65 : (((List ByteArray) × (Int × (Yt × PUnit))) × Int) => some (.inl (r65.2, (r65.1.1, (r65.1.2.1, r65.1.2.2.1))))) (fun r66 : Int => outR (outR (outR (outR (agree (some (([] : List (Int × (Int × (Int × (ByteArray × Int))))), (r66, (46 : Int)))) (some (([] : List (Int × (Int × (Int × (ByteArray × Int))))), (r66, (46 : Int)))))))))) (fun y67 : (Int × ((List ByteArray) × (Int × Yt))) => ((F215 Tryz.prog lf ((y67.2.1, (y67.2.2.1, (y67.2.2.2, ()))), ((5 : Int), (y62.1, (y67.1, ((bts []), (0 : Int)))))))).bind fun r68 => sm r68 (fun r69 : (((List ByteArray) × (Int × (Yt × PUnit))) × Int) => some (.inl (r69.2, (r69.1.1, (r69.1.2.1, r69.1.2.2.1))))) (fun r70 : Int => outR (outR (outR (agree (some (([] : List (Int × (Int × (Int × (ByteArray × Int))))), (r70, (46 : Int)))) (some (([] : List (Int × (Int × (Int × (ByteArray × Int))))), (r70, (46 : Int)))))))))) (some (.inr (.inl (y62.1, (y62.2.1, (y62.2.2.1, y62.2.2.2)))))))) (y61.1, (y61.2.1, (y61.2.2.1, y61.2.2.2))))) (fun y71 : (Int × ((List ByteArray) × (Int × Yt))) => iter lf (fun y72 : (Int × ((List ByteArray) × (Int × Yt))) => cond (decide (y72.2.2.1 = (y72.2.1.length : Int))) (some (.inr (.inl (y72.2.1, (y72.2.2.1, y72.2.2.2))))) (((getI y72.2.1 y72.2.2.1)).bind fun r73 => cond ((ByteArray.toList r73) == [(UInt8.ofNat 111), (UInt8.ofNat 114)]) (jn (jn (((F162 Tryz.prog lf lf ((y72.2.1, ((w64 (y72.2.2.1 + (1 : Int))), (y72.2.2.2, ()))), (0 : Int)))).bind fun r74 => sm r74 (fun r75 : (((List ByteArray) × (Int × (Yt × PUnit))) × Int) => some (.inl (r75.2, (r75.1.1, (r75.1.2.1, r75.1.2.2.1))))) (fun r76 : Int => outR (outR (outR (outR (agree (some (([] : List (Int × (Int × (Int × (ByteArray × Int))))), (r76, (46 : Int)))) (some (([] : List (Int × (Int × (Int × (ByteArray × Int))))), (r76, (46 : Int)))))))))) (fun y77 : (Int × ((List ByteArray) × (Int × Yt))) => iter lf (fun y78 : (Int × ((List ByteArray) × (Int × Yt))) => cond (decide (y78.2.2.1 = (y78.2.1.length : Int))) (some (.inr (.inl (y78.1, (y78.2.1, (y78.2.2.1, y78.2.2.2)))))) (((getI y78.2.1 y78.2.2.1)).bind fun r79 => cond ((ByteArray.toList r79) == [(UInt8.ofNat 97), (UInt8.ofNat 110), (UInt8.ofNat 100)]) (jn (((F162 Tryz.prog lf lf ((y78.2.1, ((w64 (y78.2.2.1 + (1 : Int))), (y78.2.2.2, ()))), (0 : Int)))).bind fun r80 => sm r80 (fun r81 : (((List ByteArray) × (Int × (Yt × PUnit))) × Int) => some (.inl (r81.2, (r81.1.1, (r81.1.2.1, r81.1.2.2.1))))) (fun r82 : Int => outR (outR (outR (outR (outR (agree (some (([] : List (Int × (Int × (Int × (ByteArray × Int))))), (r82, (46 : Int)))) (some (([] : List (Int × (Int × (Int × (ByteArray × Int))))), (r82, (46 : Int))))))))))) (fun y83 : (Int × ((List ByteArray) × (Int × Yt))) => ((F215 Tryz.prog lf ((y83.2.1, (y83.2.2.1, (y83.2.2.2, ()))), ((5 : Int), (y78.1, (y83.1, ((bts []), (0 : Int)))))))).bind fun r84 => sm r84 (fun r85 : (((List ByteArray) × (Int × (Yt × PUnit))) × Int) => some (.inl (r85.2, (r85.1.1, (r85.1.2.1, r85.1.2.2.1))))) (fun r86 : Int => outR (outR (outR (outR (agree (some (([] : List (Int × (Int × (Int × (ByteArray × Int))))), (r86, (46 : Int)))) (some (([] : List (Int × (Int × (Int × (ByteArray × Int))))), (r86, (46 : Int))))))))))) (some (.inr (.inl (y78.1, (y78.2.1, (y78.2.2.1, y78.2.2.2)))))))) (y77.1, (y77.2.1, (y77.2.2.1, y77.2.2.2))))) (fun y87 : (Int × ((List ByteArray) × (Int × Yt))) => ((F215 Tryz.prog lf ((y87.2.1, (y87.2.2.1, (y87.2.2.2, ()))), ((6 : Int), (y72.1, (y87.1, ((bts []), (0 : Int)))))))).bind fun r88 => sm r88 (fun r89 : (((List ByteArray) × (Int × (Yt × PUnit))) × Int) => some (.inl (r89.2, (r89.1.1, (r89.1.2.1, r89.1.2.2.1))))) (fun r90 : Int => outR (outR (agree (some (([] : List (Int × (Int × (Int × (ByteArray × Int))))), (r90, (46 : Int)))) (some (([] : List (Int × (Int × (Int × (ByteArray × Int))))), (r90, (46 : Int))))))))) (some (.inr (.inl (y72.2.1, (y72.2.2.1, y72.2.2.2))))))) (y71.1, (y71.2.1, (y71.2.2.1, y71.2.2.2))))) (fun y91 : ((List ByteArray) × (Int × Yt)) => cond (decide (y91.2.1 < (y91.1.length : Int))) (agree (some (([] : List (Int × (Int × (Int × (ByteArray × Int))))), ((w64 (y91.2.1 + (1 : Int))), (46 : Int)))) (some (([] : List (Int × (Int × (Int × (ByteArray × Int))))), ((w64 (y91.2.1 + (1 : Int))), (46 : Int))))) (cond (decide ((y91.2.2.length : Int) > (30 : Int))) (some (([] : List (Int × (Int × (Int × (ByteArray × Int))))), ((0 : Int), (2 : Int)))) (some (y91.2.2, ((0 : Int), (0 : Int))))))) := by kernel_rfl
end Go.K
namespace Go.K
open Go.Sl Go.Sx Go.Proofs
noncomputable def G91 (lf : Nat) (x : (Int × (Int × Int))) : Option (Bool) :=
  cond (decide (x.1 ≥ x.2.1)) (some (decide (x.1 ≤ x.2.2))) (some false)
theorem F91_G (lf : Nat) (x : (Int × (Int × Int))) : F91 Tryz.prog lf x = G91 lf x := (F91_eq lf x.1 x.2.1 x.2.2).trans (by
  unfold G91
  (try simp only [agree_self, Lib.toList_data]); first | done | rfl)
noncomputable def G223 (lf : Nat) (x : ((List ByteArray) × ByteArray)) : Option (Int) :=
  iter lf (fun y4 : Int => cond (decide (y4 < (x.1.length : Int))) (((getI x.1 y4)).bind fun r5 => cond (x.2.data.toList == r5.data.toList) (some (.inr y4)) (some (.inl (w64 (y4 + (1 : Int)))))) (some (.inr (-1 : Int)))) (0 : Int)
theorem F223_G (lf : Nat) (x : ((List ByteArray) × ByteArray)) : F223 Tryz.prog lf x = G223 lf x := (F223_eq lf x.1 x.2).trans (by
  unfold G223
  (try simp only [agree_self, Lib.toList_data]); first | done | rfl)
noncomputable def G180 (lf : Nat) (x : ((List ByteArray) × ByteArray)) : Option (Bool) :=
  ((G223 lf (x.1, x.2))).bind fun r3 => some (decide (r3 ≥ (0 : Int)))
theorem F180_G (lf : Nat) (x : ((List ByteArray) × ByteArray)) : F180 Tryz.prog lf x = G180 lf x := (F180_eq lf x.1 x.2).trans (by
  unfold G180
  (try simp only [F223_G, agree_self, Lib.toList_data]); first | done | rfl)
noncomputable def G165 (lf : Nat) (x : ByteArray) : Option (Bool) :=
  ((G180 lf ([(bts [99, 111, 100, 101]), (bts [102, 97, 99, 116]), (bts [114, 117, 108, 101]), (bts [119, 104, 101, 110]), (bts [109, 117, 115, 116]), (bts [117, 110, 108, 101, 115, 115]), (bts [97, 110, 100]), (bts [111, 114]), (bts [110, 111, 116]), (bts [116, 114, 117, 101])], x))).bind fun r2 => some r2
theorem F165_G (lf : Nat) (x : ByteArray) : F165 Tryz.prog lf x = G165 lf x := (F165_eq lf x).trans (by
  unfold G165
  (try simp only [F180_G, agree_self, Lib.toList_data]); first | done | rfl)
noncomputable def G94 (lf : Nat) (x : ByteArray) : Option (Bool) :=
  jn (((G91 lf ((x.size : Int), ((1 : Int), (12 : Int))))).bind fun r12 => cond (!r12) (some (.inl true)) (((G165 lf x)).bind fun r13 => some (.inl r13))) (fun y14 : Bool => cond y14 (some false) (iter lf (fun y15 : Int => cond (decide (y15 < (x.size : Int))) (jn (((byteAt x y15)).bind fun r16 => cond (decide (r16 ≥ (97 : Int))) (((byteAt x y15)).bind fun r17 => some (.inl (decide (r17 ≤ (122 : Int))))) (some (.inl false))) (fun y18 : Bool => jn (((byteAt x y15)).bind fun r19 => cond (decide (r19 ≥ (48 : Int))) (((byteAt x y15)).bind fun r20 => some (.inl (decide (r20 ≤ (57 : Int))))) (some (.inl false))) (fun y21 : Bool => jn (cond (!y18) (cond (decide (y15 = (0 : Int))) (some (.inl true)) (some (.inl (!y21)))) (some (.inl false))) (fun y22 : Bool => cond y22 (some (.inr false)) (some (.inl (w64 (y15 + (1 : Int))))))))) (some (.inr true))) (0 : Int)))
theorem F94_G (lf : Nat) (x : ByteArray) : F94 Tryz.prog lf x = G94 lf x := (F94_eq lf x).trans (by
  unfold G94
  (try simp only [F91_G, F165_G, agree_self, Lib.toList_data]); first | done | rfl)
noncomputable def G86 (lf : Nat) (x : ByteArray) : Option ((List ByteArray)) :=
  ((fieldsC (fun y2 : Nat => (isSp y2)) x)).bind fun r3 => some r3
theorem F86_G (lf : Nat) (x : ByteArray) : F86 Tryz.prog lf x = G86 lf x := (F86_eq lf x).trans (by
  unfold G86
  (try simp only [agree_self, Lib.toList_data]); first | done | rfl)
noncomputable def G244 (lf : Nat) (x : (ByteArray × Bool)) : Option ((Int × Bool)) :=
  jn (cond x.2 (jn (cond (decide ((x.1.size : Int) ≥ (1 : Int))) (((cutC x.1 (0 : Int) (1 : Int))).bind fun r11 => some (.inl ((ByteArray.extract x.1 0 1).data.toList == [(UInt8.ofNat 45)]))) (some (.inl false))) (fun y12 : Bool => cond y12 (((cutC x.1 (1 : Int) (x.1.size : Int))).bind fun r13 => some (.inl (ByteArray.extract x.1 1 (Int.toNat (x.1.size : Int))))) (some (.inl x.1)))) (some (.inl x.1))) (fun y14 : ByteArray => jn (cond (decide ((y14.size : Int) = (0 : Int))) (some (.inl true)) (cond (decide ((y14.size : Int) > (13 : Int))) (some (.inl true)) (((byteAt y14 (0 : Int))).bind fun r15 => cond (decide (r15 = (48 : Int))) (cond (!(x.1.data.toList == [(UInt8.ofNat 48)])) (some (.inl true)) (((trimC y14 (bts [48, 49, 50, 51, 52, 53, 54, 55, 56, 57]))).bind fun r16 => some (.inl (!(r16.data.toList == ([] : List UInt8)))))) (((trimC y14 (bts [48, 49, 50, 51, 52, 53, 54, 55, 56, 57]))).bind fun r17 => some (.inl (!(r17.data.toList == ([] : List UInt8)))))))) (fun y18 : Bool => cond y18 (some ((0 : Int), false)) (((atoiC x.1)).bind fun r19 => some (r19, true))))
theorem F244_G (lf : Nat) (x : (ByteArray × Bool)) : F244 Tryz.prog lf x = G244 lf x := (F244_eq lf x.1 x.2).trans (by
  unfold G244
  (try simp only [agree_self, Lib.toList_data]); first | done | rfl)
noncomputable def G215 (lf : Nat) (x : (((List ByteArray) × (Int × (Yt × Unit))) × (Int × (Int × (Int × (ByteArray × Int)))))) : Option ((((List ByteArray) × (Int × (Yt × Unit))) × Int) ⊕ Int) :=
  ((appC x.1.2.2.1 [(x.2.1, (x.2.2.1, (x.2.2.2.1, (x.2.2.2.2.1, x.2.2.2.2.2))))])).bind fun r9 => some (.inl ((x.1.1, (x.1.2.1, (r9, ()))), (w64 ((r9.length : Int) - (1 : Int)))))
theorem F215_G (lf : Nat) (x : (((List ByteArray) × (Int × (Yt × Unit))) × (Int × (Int × (Int × (ByteArray × Int)))))) : F215 Tryz.prog lf x = G215 lf x := (F215_eq lf x.1.1 x.1.2.1 x.1.2.2.1 x.2.1 x.2.2.1 x.2.2.2.1 x.2.2.2.2.1 x.2.2.2.2.2).trans (by
  unfold G215
  (try simp only [agree_self, Lib.toList_data]); first | done | rfl)
noncomputable def G216 (lf : Nat) (x : (((List ByteArray) × (Int × (Yt × Unit))) × ByteArray)) : Option ((((List ByteArray) × (Int × (Yt × Unit))) × Int) ⊕ Int) :=
  jn (cond (decide (x.1.2.1 = (x.1.1.length : Int))) (some (.inl (bts []))) (((getI x.1.1 x.1.2.1)).bind fun r22 => some (.inl r22))) (fun y23 : ByteArray => jn (cond (y23.data.toList == [(UInt8.ofNat 60)]) (some (.inl ((1 : Int), true))) (cond (y23.data.toList == [(UInt8.ofNat 62), (UInt8.ofNat 61)]) (some (.inl ((1 : Int), true))) (cond (y23.data.toList == [(UInt8.ofNat 60), (UInt8.ofNat 61)]) (some (.inl ((2 : Int), true))) (cond (y23.data.toList == [(UInt8.ofNat 62)]) (some (.inl ((2 : Int), true))) (cond (y23.data.toList == [(UInt8.ofNat 61)]) (some (.inl ((3 : Int), true))) (cond (y23.data.toList == [(UInt8.ofNat 33), (UInt8.ofNat 61)]) (some (.inl ((3 : Int), true))) (some (.inl ((0 : Int), false))))))))) (fun y24 : (Int × Bool) => cond (!y24.2) (some (.inr (w64 (x.1.2.1 + (1 : Int))))) (jn (cond (decide ((w64 (x.1.2.1 + (1 : Int))) = (x.1.1.length : Int))) (((G244 lf ((bts []), true))).bind fun r25 => some (.inl (r25.1, r25.2))) (((getI x.1.1 (w64 (x.1.2.1 + (1 : Int))))).bind fun r26 => ((G244 lf (r26, true))).bind fun r27 => some (.inl (r27.1, r27.2)))) (fun y28 : (Int × Bool) => jn (cond (!y28.2) (some (.inl true)) (((G91 lf (y28.1, ((-1000000000000 : Int), (1000000000000 : Int))))).bind fun r29 => some (.inl (!r29)))) (fun y30 : Bool => cond y30 (some (.inr (w64 ((w64 (x.1.2.1 + (1 : Int))) + (1 : Int))))) (((G215 lf ((x.1.1, ((w64 ((w64 (x.1.2.1 + (1 : Int))) + (1 : Int))), (x.1.2.2.1, ()))), (y24.1, ((0 : Int), ((0 : Int), (x.2, y28.1))))))).bind fun r31 => sm r31 (fun r32 : (((List ByteArray) × (Int × (Yt × PUnit))) × Int) => jn (cond (y23.data.toList == [(UInt8.ofNat 62), (UInt8.ofNat 61)]) (some (.inl true)) (cond (y23.data.toList == [(UInt8.ofNat 62)]) (some (.inl true)) (some (.inl (y23.data.toList == [(UInt8.ofNat 33), (UInt8.ofNat 61)]))))) (fun y33 : Bool => cond y33 (((G215 lf ((r32.1.1, (r32.1.2.1, (r32.1.2.2.1, ()))), ((4 : Int), (r32.2, ((0 : Int), ((bts []), (0 : Int)))))))).bind fun r34 => sm r34 (fun r35 : (((List ByteArray) × (Int × (Yt × PUnit))) × Int) => some (.inl ((r35.1.1, (r35.1.2.1, (r35.1.2.2.1, ()))), r35.2))) (fun r36 : Int => some (.inr r36))) (some (.inl ((r32.1.1, (r32.1.2.1, (r32.1.2.2.1, ()))), r32.2))))) (fun r37 : Int => some (.inr r37))))))))
theorem F216_G (lf : Nat) (x : (((List ByteArray) × (Int × (Yt × Unit))) × ByteArray)) : F216 Tryz.prog lf x = G216 lf x := (F216_eq lf x.1.1 x.1.2.1 x.1.2.2.1 x.2).trans (by
  unfold G216
  (try simp only [F91_G, F215_G, F244_G, agree_self, Lib.toList_data]); first | done | rfl)
noncomputable def G162 (lf : Nat) : Nat → (((List ByteArray) × (Int × (Yt × Unit))) × Int) → Option ((((List ByteArray) × (Int × (Yt × Unit))) × Int) ⊕ Int)
  | 0, _ => none
  | n + 1, x => jn (cond (decide (x.1.2.1 = (x.1.1.length : Int))) (some (.inl (bts []))) (((getI x.1.1 x.1.2.1)).bind fun r78 => some (.inl r78))) (fun y79 : ByteArray => jn (cond (y79.data.toList == [(UInt8.ofNat 110), (UInt8.ofNat 111), (UInt8.ofNat 116)]) (some (.inl true)) (some (.inl (y79.data.toList == [(UInt8.ofNat 40)])))) (fun y80 : Bool => cond y80 (cond (decide (x.2 = (8 : Int))) (some (.inr (w64 (x.1.2.1 + (1 : Int))))) (cond (y79.data.toList == [(UInt8.ofNat 110), (UInt8.ofNat 111), (UInt8.ofNat 116)]) (((G162 lf n ((x.1.1, ((w64 (x.1.2.1 + (1 : Int))), (x.1.2.2.1, ()))), (w64 (x.2 + (1 : Int)))))).bind fun r81 => sm r81 (fun r82 : (((List ByteArray) × (Int × (Yt × PUnit))) × Int) => ((G215 lf ((r82.1.1, (r82.1.2.1, (r82.1.2.2.1, ()))), ((4 : Int), (r82.2, ((0 : Int), ((bts []), (0 : Int)))))))).bind fun r83 => sm r83 (fun r84 : (((List ByteArray) × (Int × (Yt × PUnit))) × Int) => some (.inl ((r84.1.1, (r84.1.2.1, (r84.1.2.2.1, ()))), r84.2))) (fun r85 : Int => some (.inr r85))) (fun r86 : Int => some (.inr r86))) (jn (jn (jn (((G162 lf n ((x.1.1, ((w64 (x.1.2.1 + (1 : Int))), (x.1.2.2.1, ()))), (w64 (x.2 + (1 : Int)))))).bind fun r87 => sm r87 (fun r88 : (((List ByteArray) × (Int × (Yt × PUnit))) × Int) => some (.inl (r88.2, (r88.1.1, (r88.1.2.1, r88.1.2.2.1))))) (fun r89 : Int => some (.inr (.inr (.inr (.inr r89)))))) (fun y90 : (Int × ((List ByteArray) × (Int × Yt))) => iter lf (fun y91 : (Int × ((List ByteArray) × (Int × Yt))) => cond (decide (y91.2.2.1 = (y91.2.1.length : Int))) (some (.inr (.inl (y91.1, (y91.2.1, (y91.2.2.1, y91.2.2.2)))))) (((getI y91.2.1 y91.2.2.1)).bind fun r92 => cond (r92.data.toList == [(UInt8.ofNat 97), (UInt8.ofNat 110), (UInt8.ofNat 100)]) (jn (((G162 lf n ((y91.2.1, ((w64 (y91.2.2.1 + (1 : Int))), (y91.2.2.2, ()))), (w64 (x.2 + (1 : Int)))))).bind fun r93 => sm r93 (fun r94 : (((List ByteArray) × (Int × (Yt × PUnit))) × Int) => some (.inl (r94.2, (r94.1.1, (r94.1.2.1, r94.1.2.2.1))))) (fun r95 : Int => some (.inr (.inr (.inr (.inr (.inr r95))))))) (fun y96 : (Int × ((List ByteArray) × (Int × Yt))) => ((G215 lf ((y96.2.1, (y96.2.2.1, (y96.2.2.2, ()))), ((5 : Int), (y91.1, (y96.1, ((bts []), (0 : Int)))))))).bind fun r97 => sm r97 (fun r98 : (((List ByteArray) × (Int × (Yt × PUnit))) × Int) => some (.inl (r98.2, (r98.1.1, (r98.1.2.1, r98.1.2.2.1))))) (fun r99 : Int => some (.inr (.inr (.inr (.inr r99))))))) (some (.inr (.inl (y91.1, (y91.2.1, (y91.2.2.1, y91.2.2.2)))))))) (y90.1, (y90.2.1, (y90.2.2.1, y90.2.2.2))))) (fun y100 : (Int × ((List ByteArray) × (Int × Yt))) => iter lf (fun y101 : (Int × ((List ByteArray) × (Int × Yt))) => cond (decide (y101.2.2.1 = (y101.2.1.length : Int))) (some (.inr (.inl (y101.1, (y101.2.1, (y101.2.2.1, y101.2.2.2)))))) (((getI y101.2.1 y101.2.2.1)).bind fun r102 => cond (r102.data.toList == [(UInt8.ofNat 111), (UInt8.ofNat 114)]) (jn (jn (((G162 lf n ((y101.2.1, ((w64 (y101.2.2.1 + (1 : Int))), (y101.2.2.2, ()))), (w64 (x.2 + (1 : Int)))))).bind fun r103 => sm r103 (fun r104 : (((List ByteArray) × (Int × (Yt × PUnit))) × Int) => some (.inl (r104.2, (r104.1.1, (r104.1.2.1, r104.1.2.2.1))))) (fun r105 : Int => some (.inr (.inr (.inr (.inr (.inr r105))))))) (fun y106 : (Int × ((List ByteArray) × (Int × Yt))) => iter lf (fun y107 : (Int × ((List ByteArray) × (Int × Yt))) => cond (decide (y107.2.2.1 = (y107.2.1.length : Int))) (some (.inr (.inl (y107.1, (y107.2.1, (y107.2.2.1, y107.2.2.2)))))) (((getI y107.2.1 y107.2.2.1)).bind fun r108 => cond (r108.data.toList == [(UInt8.ofNat 97), (UInt8.ofNat 110), (UInt8.ofNat 100)]) (jn (((G162 lf n ((y107.2.1, ((w64 (y107.2.2.1 + (1 : Int))), (y107.2.2.2, ()))), (w64 (x.2 + (1 : Int)))))).bind fun r109 => sm r109 (fun r110 : (((List ByteArray) × (Int × (Yt × PUnit))) × Int) => some (.inl (r110.2, (r110.1.1, (r110.1.2.1, r110.1.2.2.1))))) (fun r111 : Int => some (.inr (.inr (.inr (.inr (.inr (.inr r111)))))))) (fun y112 : (Int × ((List ByteArray) × (Int × Yt))) => ((G215 lf ((y112.2.1, (y112.2.2.1, (y112.2.2.2, ()))), ((5 : Int), (y107.1, (y112.1, ((bts []), (0 : Int)))))))).bind fun r113 => sm r113 (fun r114 : (((List ByteArray) × (Int × (Yt × PUnit))) × Int) => some (.inl (r114.2, (r114.1.1, (r114.1.2.1, r114.1.2.2.1))))) (fun r115 : Int => some (.inr (.inr (.inr (.inr (.inr r115)))))))) (some (.inr (.inl (y107.1, (y107.2.1, (y107.2.2.1, y107.2.2.2)))))))) (y106.1, (y106.2.1, (y106.2.2.1, y106.2.2.2))))) (fun y116 : (Int × ((List ByteArray) × (Int × Yt))) => ((G215 lf ((y116.2.1, (y116.2.2.1, (y116.2.2.2, ()))), ((6 : Int), (y101.1, (y116.1, ((bts []), (0 : Int)))))))).bind fun r117 => sm r117 (fun r118 : (((List ByteArray) × (Int × (Yt × PUnit))) × Int) => some (.inl (r118.2, (r118.1.1, (r118.1.2.1, r118.1.2.2.1))))) (fun r119 : Int => some (.inr (.inr (.inr r119)))))) (some (.inr (.inl (y101.1, (y101.2.1, (y101.2.2.1, y101.2.2.2)))))))) (y100.1, (y100.2.1, (y100.2.2.1, y100.2.2.2))))) (fun y120 : (Int × ((List ByteArray) × (Int × Yt))) => jn (cond (decide (y120.2.2.1 = (y120.2.1.length : Int))) (some (.inl true)) (((getI y120.2.1 y120.2.2.1)).bind fun r121 => some (.inl (!(r121.data.toList == [(UInt8.ofNat 41)]))))) (fun y122 : Bool => cond y122 (some (.inr (w64 (y120.2.2.1 + (1 : Int))))) (some (.inl ((y120.2.1, ((w64 (y120.2.2.1 + (1 : Int))), (y120.2.2.2, ()))), y120.1)))))))) (cond (y79.data.toList == [(UInt8.ofNat 116), (UInt8.ofNat 114), (UInt8.ofNat 117), (UInt8.ofNat 101)]) (((G215 lf ((x.1.1, ((w64 (x.1.2.1 + (1 : Int))), (x.1.2.2.1, ()))), ((0 : Int), ((0 : Int), ((0 : Int), ((bts []), (0 : Int)))))))).bind fun r123 => sm r123 (fun r124 : (((List ByteArray) × (Int × (Yt × PUnit))) × Int) => some (.inl ((r124.1.1, (r124.1.2.1, (r124.1.2.2.1, ()))), r124.2))) (fun r125 : Int => some (.inr r125))) (((G94 lf y79)).bind fun r126 => cond (!r126) (some (.inr (w64 (x.1.2.1 + (1 : Int))))) (((G216 lf ((x.1.1, ((w64 (x.1.2.1 + (1 : Int))), (x.1.2.2.1, ()))), y79))).bind fun r127 => sm r127 (fun r128 : (((List ByteArray) × (Int × (Yt × PUnit))) × Int) => some (.inl ((r128.1.1, (r128.1.2.1, (r128.1.2.2.1, ()))), r128.2))) (fun r129 : Int => some (.inr r129)))))))
theorem F162_G (lf : Nat) : ∀ (n : Nat) (x : (((List ByteArray) × (Int × (Yt × Unit))) × Int)), F162 Tryz.prog lf n x = G162 lf n x
  | 0, _ => rfl
  | n + 1, x => (F162_eq lf n x.1.1 x.1.2.1 x.1.2.2.1 x.2).trans (by
    unfold G162
    (try simp only [F162_G lf n, F94_G, F215_G, F216_G, agree_self, Lib.toList_data]); first | done | rfl)
noncomputable def G17 (lf : Nat) (x : ByteArray) : Option ((Yt × (Int × Int))) :=
  cond (decide ((x.size : Int) > (8000 : Int))) (some (([] : List (Int × (Int × (Int × (ByteArray × Int))))), ((0 : Int), (2 : Int)))) (((G86 lf x)).bind fun r57 => jn (jn (jn (((G162 lf lf ((r57, ((0 : Int), (([] : List (Int × (Int × (Int × (ByteArray × Int))))), ()))), (0 : Int)))).bind fun r58 => sm r58 (fun r59 : (((List ByteArray) × (Int × (Yt × PUnit))) × Int) => some (.inl (r59.2, (r59.1.1, (r59.1.2.1, r59.1.2.2.1))))) (fun r60 : Int => outR (outR (outR (some (([] : List (Int × (Int × (Int × (ByteArray × Int))))), (r60, (46 : Int)))))))) (fun y61 : (Int × ((List ByteArray) × (Int × Yt))) => iter lf (fun y62 : (Int × ((List ByteArray) × (Int × Yt))) => cond (decide (y62.2.2.1 = (y62.2.1.length : Int))) (some (.inr (.inl (y62.1, (y62.2.1, (y62.2.2.1, y62.2.2.2)))))) (((getI y62.2.1 y62.2.2.1)).bind fun r63 => cond (r63.data.toList == [(UInt8.ofNat 97), (UInt8.ofNat 110), (UInt8.ofNat 100)]) (jn (((G162 lf lf ((y62.2.1, ((w64 (y62.2.2.1 + (1 : Int))), (y62.2.2.2, ()))), (0 : Int)))).bind fun r64 => sm r64 (fun r65 : (((List ByteArray) × (Int × (Yt × PUnit))) × Int) => some (.inl (r65.2, (r65.1.1, (r65.1.2.1, r65.1.2.2.1))))) (fun r66 : Int => outR (outR (outR (outR (some (([] : List (Int × (Int × (Int × (ByteArray × Int))))), (r66, (46 : Int))))))))) (fun y67 : (Int × ((List ByteArray) × (Int × Yt))) => ((G215 lf ((y67.2.1, (y67.2.2.1, (y67.2.2.2, ()))), ((5 : Int), (y62.1, (y67.1, ((bts []), (0 : Int)))))))).bind fun r68 => sm r68 (fun r69 : (((List ByteArray) × (Int × (Yt × PUnit))) × Int) => some (.inl (r69.2, (r69.1.1, (r69.1.2.1, r69.1.2.2.1))))) (fun r70 : Int => outR (outR (outR (some (([] : List (Int × (Int × (Int × (ByteArray × Int))))), (r70, (46 : Int))))))))) (some (.inr (.inl (y62.1, (y62.2.1, (y62.2.2.1, y62.2.2.2)))))))) (y61.1, (y61.2.1, (y61.2.2.1, y61.2.2.2))))) (fun y71 : (Int × ((List ByteArray) × (Int × Yt))) => iter lf (fun y72 : (Int × ((List ByteArray) × (Int × Yt))) => cond (decide (y72.2.2.1 = (y72.2.1.length : Int))) (some (.inr (.inl (y72.2.1, (y72.2.2.1, y72.2.2.2))))) (((getI y72.2.1 y72.2.2.1)).bind fun r73 => cond (r73.data.toList == [(UInt8.ofNat 111), (UInt8.ofNat 114)]) (jn (jn (((G162 lf lf ((y72.2.1, ((w64 (y72.2.2.1 + (1 : Int))), (y72.2.2.2, ()))), (0 : Int)))).bind fun r74 => sm r74 (fun r75 : (((List ByteArray) × (Int × (Yt × PUnit))) × Int) => some (.inl (r75.2, (r75.1.1, (r75.1.2.1, r75.1.2.2.1))))) (fun r76 : Int => outR (outR (outR (outR (some (([] : List (Int × (Int × (Int × (ByteArray × Int))))), (r76, (46 : Int))))))))) (fun y77 : (Int × ((List ByteArray) × (Int × Yt))) => iter lf (fun y78 : (Int × ((List ByteArray) × (Int × Yt))) => cond (decide (y78.2.2.1 = (y78.2.1.length : Int))) (some (.inr (.inl (y78.1, (y78.2.1, (y78.2.2.1, y78.2.2.2)))))) (((getI y78.2.1 y78.2.2.1)).bind fun r79 => cond (r79.data.toList == [(UInt8.ofNat 97), (UInt8.ofNat 110), (UInt8.ofNat 100)]) (jn (((G162 lf lf ((y78.2.1, ((w64 (y78.2.2.1 + (1 : Int))), (y78.2.2.2, ()))), (0 : Int)))).bind fun r80 => sm r80 (fun r81 : (((List ByteArray) × (Int × (Yt × PUnit))) × Int) => some (.inl (r81.2, (r81.1.1, (r81.1.2.1, r81.1.2.2.1))))) (fun r82 : Int => outR (outR (outR (outR (outR (some (([] : List (Int × (Int × (Int × (ByteArray × Int))))), (r82, (46 : Int)))))))))) (fun y83 : (Int × ((List ByteArray) × (Int × Yt))) => ((G215 lf ((y83.2.1, (y83.2.2.1, (y83.2.2.2, ()))), ((5 : Int), (y78.1, (y83.1, ((bts []), (0 : Int)))))))).bind fun r84 => sm r84 (fun r85 : (((List ByteArray) × (Int × (Yt × PUnit))) × Int) => some (.inl (r85.2, (r85.1.1, (r85.1.2.1, r85.1.2.2.1))))) (fun r86 : Int => outR (outR (outR (outR (some (([] : List (Int × (Int × (Int × (ByteArray × Int))))), (r86, (46 : Int)))))))))) (some (.inr (.inl (y78.1, (y78.2.1, (y78.2.2.1, y78.2.2.2)))))))) (y77.1, (y77.2.1, (y77.2.2.1, y77.2.2.2))))) (fun y87 : (Int × ((List ByteArray) × (Int × Yt))) => ((G215 lf ((y87.2.1, (y87.2.2.1, (y87.2.2.2, ()))), ((6 : Int), (y72.1, (y87.1, ((bts []), (0 : Int)))))))).bind fun r88 => sm r88 (fun r89 : (((List ByteArray) × (Int × (Yt × PUnit))) × Int) => some (.inl (r89.2, (r89.1.1, (r89.1.2.1, r89.1.2.2.1))))) (fun r90 : Int => outR (outR (some (([] : List (Int × (Int × (Int × (ByteArray × Int))))), (r90, (46 : Int)))))))) (some (.inr (.inl (y72.2.1, (y72.2.2.1, y72.2.2.2))))))) (y71.1, (y71.2.1, (y71.2.2.1, y71.2.2.2))))) (fun y91 : ((List ByteArray) × (Int × Yt)) => cond (decide (y91.2.1 < (y91.1.length : Int))) (some (([] : List (Int × (Int × (Int × (ByteArray × Int))))), ((w64 (y91.2.1 + (1 : Int))), (46 : Int)))) (cond (decide ((y91.2.2.length : Int) > (30 : Int))) (some (([] : List (Int × (Int × (Int × (ByteArray × Int))))), ((0 : Int), (2 : Int)))) (some (y91.2.2, ((0 : Int), (0 : Int)))))))
theorem F17_G (lf : Nat) (x : ByteArray) : F17 Tryz.prog lf x = G17 lf x := (F17_eq lf x).trans (by
  unfold G17
  (try simp only [F86_G, F162_G, F215_G, agree_self, Lib.toList_data]); first | done | rfl)
end Go.K
namespace Go.K
open Go.Sl Go.Sx Go.Proofs
def S110 : FuncId → Sp := fun g => match g with
  | 178 => { loops := [(2, [(.slot 8, .dat .i)])] }
  | _ => {}
noncomputable def F110 (P : Program) (lf : Nat) (x : tt [(false, (.sl (.pair .str (.pair .i .i)))), (false, .str)]) : Option (tt [(false, .i)]) := fnF P (C17 P lf) S110 110 [(false, (.sl (.pair .str (.pair .i .i)))), (false, .str)] [(false, .i)] lf x
noncomputable def C110 (P : Program) (lf : Nat) : FuncId → Option Con := extC (C17 P lf) 110 (dataCon [(false, (.sl (.pair .str (.pair .i .i)))), (false, .str)] [(false, .i)] (F110 P lf))
theorem F110_eq (lf : Nat) (a0 : Yf) (a1 : ByteArray) : F110 Tryz.prog lf (a0, a1) =
  iter lf (fun y4 : Int => cond (decide (y4 < (a0.length : Int))) (((getI a0 y4)).bind fun r5 => cond ((ByteArray.toList r5.1) == (ByteArray.toList a1)) (some (.inr y4)) (some (.inl (w64 (y4 + (1 : Int)))))) (some (.inr (-1 : Int)))) (0 : Int) := by kernel_rfl
def S190 : FuncId → Sp := fun _ => {}
noncomputable def F190 (P : Program) (lf : Nat) (x : tt [(true, (.pair (.sl (.pair .str (.pair .i .i))) (.sl .i))), (false, .str)]) : Option (tt [(false, .i)]) := fnF P (C110 P lf) S190 190 [(true, (.pair (.sl (.pair .str (.pair .i .i))) (.sl .i))), (false, .str)] [(false, .i)] lf x
noncomputable def C190 (P : Program) (lf : Nat) : FuncId → Option Con := extC (C110 P lf) 190 (dataCon [(true, (.pair (.sl (.pair .str (.pair .i .i))) (.sl .i))), (false, .str)] [(false, .i)] (F190 P lf))
theorem F190_eq (lf : Nat) (a0 : Yf) (a1 : (List Int)) (a2 : ByteArray) : F190 Tryz.prog lf ((a0, a1), a2) =
  ((F110 Tryz.prog lf (a0, a2))).bind fun r5 => ((getI a1 r5)).bind fun r6 => some r6 := by kernel_rfl
def S188 : FuncId → Sp := fun _ => {}
noncomputable def F188 (P : Program) (lf : Nat) (x : tt [(true, (.pair (.sl (.pair .str (.pair .i .i))) (.sl .i))), (true, Yp), (false, (.sl .bool))]) : Option (tt [(false, .bool)]) := fnF P (C190 P lf) S188 188 [(true, (.pair (.sl (.pair .str (.pair .i .i))) (.sl .i))), (true, Yp), (false, (.sl .bool))] [(false, .bool)] lf x
noncomputable def C188 (P : Program) (lf : Nat) : FuncId → Option Con := extC (C190 P lf) 188 (dataCon [(true, (.pair (.sl (.pair .str (.pair .i .i))) (.sl .i))), (true, Yp), (false, (.sl .bool))] [(false, .bool)] (F188 P lf))
theorem F188_eq (lf : Nat) (a0 : Yf) (a1 : (List Int)) (a2 : Int) (a3 : Int) (a4 : Int) (a5 : ByteArray) (a6 : Int) (a7 : (List Bool)) : F188 Tryz.prog lf ((a0, a1), ((a2, (a3, (a4, (a5, a6)))), a7)) =
  some true := by kernel_rfl
def S189 : FuncId → Sp := fun _ => {}
noncomputable def F189 (P : Program) (lf : Nat) (x : tt [(true, (.pair (.sl (.pair .str (.pair .i .i))) (.sl .i))), (true, Yp), (false, (.sl .bool))]) : Option (tt [(false, .bool)]) := fnF P (C188 P lf) S189 189 [(true, (.pair (.sl (.pair .str (.pair .i .i))) (.sl .i))), (true, Yp), (false, (.sl .bool))] [(false, .bool)] lf x
noncomputable def C189 (P : Program) (lf : Nat) : FuncId → Option Con := extC (C188 P lf) 189 (dataCon [(true, (.pair (.sl (.pair .str (.pair .i .i))) (.sl .i))), (true, Yp), (false, (.sl .bool))] [(false, .bool)] (F189 P lf))
theorem F189_eq (lf : Nat) (a0 : Yf) (a1 : (List Int)) (a2 : Int) (a3 : Int) (a4 : Int) (a5 : ByteArray) (a6 : Int) (a7 : (List Bool)) : F189 Tryz.prog lf ((a0, a1), ((a2, (a3, (a4, (a5, a6)))), a7)) =
  ((F190 Tryz.prog lf ((a0, a1), a5))).bind fun r9 => some (decide (r9 < a6)) := by kernel_rfl
def S191 : FuncId → Sp := fun _ => {}
noncomputable def F191 (P : Program) (lf : Nat) (x : tt [(true, (.pair (.sl (.pair .str (.pair .i .i))) (.sl .i))), (true, Yp), (false, (.sl .bool))]) : Option (tt [(false, .bool)]) := fnF P (C189 P lf) S191 191 [(true, (.pair (.sl (.pair .str (.pair .i .i))) (.sl .i))), (true, Yp), (false, (.sl .bool))] [(false, .bool)] lf x
noncomputable def C191 (P : Program) (lf : Nat) : FuncId → Option Con := extC (C189 P lf) 191 (dataCon [(true, (.pair (.sl (.pair .str (.pair .i .i))) (.sl .i))), (true, Yp), (false, (.sl .bool))] [(false, .bool)] (F191 P lf))
theorem F191_eq (lf : Nat) (a0 : Yf) (a1 : (List Int)) (a2 : Int) (a3 : Int) (a4 : Int) (a5 : ByteArray) (a6 : Int) (a7 : (List Bool)) : F191 Tryz.prog lf ((a0, a1), ((a2, (a3, (a4, (a5, a6)))), a7)) =
  ((F190 Tryz.prog lf ((a0, a1), a5))).bind fun r9 => some (decide (r9 ≤ a6)) := by kernel_rfl
def S192 : FuncId → Sp := fun _ => {}
noncomputable def F192 (P : Program) (lf : Nat) (x : tt [(true, (.pair (.sl (.pair .str (.pair .i .i))) (.sl .i))), (true, Yp), (false, (.sl .bool))]) : Option (tt [(false, .bool)]) := fnF P (C191 P lf) S192 192 [(true, (.pair (.sl (.pair .str (.pair .i .i))) (.sl .i))), (true, Yp), (false, (.sl .bool))] [(false, .bool)] lf x
noncomputable def C192 (P : Program) (lf : Nat) : FuncId → Option Con := extC (C191 P lf) 192 (dataCon [(true, (.pair (.sl (.pair .str (.pair .i .i))) (.sl .i))), (true, Yp), (false, (.sl .bool))] [(false, .bool)] (F192 P lf))
theorem F192_eq (lf : Nat) (a0 : Yf) (a1 : (List Int)) (a2 : Int) (a3 : Int) (a4 : Int) (a5 : ByteArray) (a6 : Int) (a7 : (List Bool)) : F192 Tryz.prog lf ((a0, a1), ((a2, (a3, (a4, (a5, a6)))), a7)) =
  ((F190 Tryz.prog lf ((a0, a1), a5))).bind fun r9 => some (decide (r9 = a6)) := by kernel_rfl
def S193 : FuncId → Sp := fun _ => {}
noncomputable def F193 (P : Program) (lf : Nat) (x : tt [(true, (.pair (.sl (.pair .str (.pair .i .i))) (.sl .i))), (true, Yp), (false, (.sl .bool))]) : Option (tt [(false, .bool)]) := fnF P (C192 P lf) S193 193 [(true, (.pair (.sl (.pair .str (.pair .i .i))) (.sl .i))), (true, Yp), (false, (.sl .bool))] [(false, .bool)] lf x
noncomputable def C193 (P : Program) (lf : Nat) : FuncId → Option Con := extC (C192 P lf) 193 (dataCon [(true, (.pair (.sl (.pair .str (.pair .i .i))) (.sl .i))), (true, Yp), (false, (.sl .bool))] [(false, .bool)] (F193 P lf))
theorem F193_eq (lf : Nat) (a0 : Yf) (a1 : (List Int)) (a2 : Int) (a3 : Int) (a4 : Int) (a5 : ByteArray) (a6 : Int) (a7 : (List Bool)) : F193 Tryz.prog lf ((a0, a1), ((a2, (a3, (a4, (a5, a6)))), a7)) =
  ((getI a7 a3)).bind fun r9 => some (!r9) := by kernel_rfl
def S194 : FuncId → Sp := fun _ => {}
noncomputable def F194 (P : Program) (lf : Nat) (x : tt [(true, (.pair (.sl (.pair .str (.pair .i .i))) (.sl .i))), (true, Yp), (false, (.sl .bool))]) : Option (tt [(false, .bool)]) := fnF P (C193 P lf) S194 194 [(true, (.pair (.sl (.pair .str (.pair .i .i))) (.sl .i))), (true, Yp), (false, (.sl .bool))] [(false, .bool)] lf x
noncomputable def C194 (P : Program) (lf : Nat) : FuncId → Option Con := extC (C193 P lf) 194 (dataCon [(true, (.pair (.sl (.pair .str (.pair .i .i))) (.sl .i))), (true, Yp), (false, (.sl .bool))] [(false, .bool)] (F194 P lf))
theorem F194_eq (lf : Nat) (a0 : Yf) (a1 : (List Int)) (a2 : Int) (a3 : Int) (a4 : Int) (a5 : ByteArray) (a6 : Int) (a7 : (List Bool)) : F194 Tryz.prog lf ((a0, a1), ((a2, (a3, (a4, (a5, a6)))), a7)) =
  ((getI a7 a3)).bind fun r10 => cond r10 (((getI a7 a4)).bind fun r11 => some r11) (some false) := by kernel_rfl
def S195 : FuncId → Sp := fun _ => {}
noncomputable def F195 (P : Program) (lf : Nat) (x : tt [(true, (.pair (.sl (.pair .str (.pair .i .i))) (.sl .i))), (true, Yp), (false, (.sl .bool))]) : Option (tt [(false, .bool)]) := fnF P (C194 P lf) S195 195 [(true, (.pair (.sl (.pair .str (.pair .i .i))) (.sl .i))), (true, Yp), (false, (.sl .bool))] [(false, .bool)] lf x
noncomputable def C195 (P : Program) (lf : Nat) : FuncId → Option Con := extC (C194 P lf) 195 (dataCon [(true, (.pair (.sl (.pair .str (.pair .i .i))) (.sl .i))), (true, Yp), (false, (.sl .bool))] [(false, .bool)] (F195 P lf))
theorem F195_eq (lf : Nat) (a0 : Yf) (a1 : (List Int)) (a2 : Int) (a3 : Int) (a4 : Int) (a5 : ByteArray) (a6 : Int) (a7 : (List Bool)) : F195 Tryz.prog lf ((a0, a1), ((a2, (a3, (a4, (a5, a6)))), a7)) =
  ((getI a7 a3)).bind fun r10 => cond r10 (some true) (((getI a7 a4)).bind fun r11 => some r11) := by kernel_rfl
abbrev AO131 : List AT := []
abbrev RO131 : List AT := [(false, .mpc [(.int .i64 0, .fn 188), (.int .i64 1, .fn 189), (.int .i64 2, .fn 191), (.int .i64 3, .fn 192), (.int .i64 4, .fn 193), (.int .i64 5, .fn 194), (.int .i64 6, .fn 195)])]
def S131 : FuncId → Sp := fun _ => {}
noncomputable def F131 (P : Program) (lf : Nat) (x : tt AO131) : Option (tt RO131) := fnF P (C195 P lf) S131 131 AO131 RO131 lf x
noncomputable def C131 (P : Program) (lf : Nat) : FuncId → Option Con := extC (C195 P lf) 131 (dataCon AO131 RO131 (F131 P lf))
theorem F131_eq (lf : Nat) : F131 Tryz.prog lf () =
  some () := by kernel_rfl
abbrev AO147 : List AT := [(true, (.pair (.sl (.pair .str (.pair .i .i))) (.sl .i))), (true, (.sl Yp)), (false, .mpc [(.int .i64 0, .fn 188), (.int .i64 1, .fn 189), (.int .i64 2, .fn 191), (.int .i64 3, .fn 192), (.int .i64 4, .fn 193), (.int .i64 5, .fn 194), (.int .i64 6, .fn 195)])]
abbrev RO147 : List AT := [(false, .bool)]
def S147 : FuncId → Sp := fun g => match g with
  | 147 => { joins := [(6, [(.slot 7, .own .bool 4)])], loops := [(3, [(.slot 7, .own .bool 4), (.slot 13, .dat .i)])] }
  | _ => {}
noncomputable def F147 (P : Program) (lf : Nat) (x : tt AO147) : Option (tt RO147) := fnF P (C131 P lf) S147 147 AO147 RO147 lf x
noncomputable def C147 (P : Program) (lf : Nat) : FuncId → Option Con := extC (C131 P lf) 147 (dataCon AO147 RO147 (F147 P lf))
theorem F147_eq (lf : Nat) (a0 : Yf) (a1 : (List Int)) (a2 : Yt) : F147 Tryz.prog lf ((a0, a1), (a2, ())) =
  iter lf (fun y23 : ((List Bool) × Int) => cond (decide (y23.2 < (a2.length : Int))) (jn (((getI a2 y23.2)).bind fun r24 => cond (decide (r24.1 = (0 : Int))) (((F188 Tryz.prog lf ((a0, a1), ((r24.1, (r24.2.1, (r24.2.2.1, (r24.2.2.2.1, r24.2.2.2.2)))), y23.1)))).bind fun r25 => ((appC y23.1 [r25])).bind fun r26 => some (.inl r26)) (cond (decide (r24.1 = (1 : Int))) (((F189 Tryz.prog lf ((a0, a1), ((r24.1, (r24.2.1, (r24.2.2.1, (r24.2.2.2.1, r24.2.2.2.2)))), y23.1)))).bind fun r27 => ((appC y23.1 [r27])).bind fun r28 => some (.inl r28)) (cond (decide (r24.1 = (2 : Int))) (((F191 Tryz.prog lf ((a0, a1), ((r24.1, (r24.2.1, (r24.2.2.1, (r24.2.2.2.1, r24.2.2.2.2)))), y23.1)))).bind fun r29 => ((appC y23.1 [r29])).bind fun r30 => some (.inl r30)) (cond (decide (r24.1 = (3 : Int))) (((F192 Tryz.prog lf ((a0, a1), ((r24.1, (r24.2.1, (r24.2.2.1, (r24.2.2.2.1, r24.2.2.2.2)))), y23.1)))).bind fun r31 => ((appC y23.1 [r31])).bind fun r32 => some (.inl r32)) (cond (decide (r24.1 = (4 : Int))) (((F193 Tryz.prog lf ((a0, a1), ((r24.1, (r24.2.1, (r24.2.2.1, (r24.2.2.2.1, r24.2.2.2.2)))), y23.1)))).bind fun r33 => ((appC y23.1 [r33])).bind fun r34 => some (.inl r34)) (cond (decide (r24.1 = (5 : Int))) (((F194 Tryz.prog lf ((a0, a1), ((r24.1, (r24.2.1, (r24.2.2.1, (r24.2.2.2.1, r24.2.2.2.2)))), y23.1)))).bind fun r35 => ((appC y23.1 [r35])).bind fun r36 => some (.inl r36)) (cond (decide (r24.1 = (6 : Int))) (((F195 Tryz.prog lf ((a0, a1), ((r24.1, (r24.2.1, (r24.2.2.1, (r24.2.2.2.1, r24.2.2.2.2)))), y23.1)))).bind fun r37 => ((appC y23.1 [r37])).bind fun r38 => some (.inl r38)) ((outI))))))))) (fun y39 : (List Bool) => some (.inl (y39, (w64 (y23.2 + (1 : Int))))))) (outR (((getI y23.1 (w64 ((y23.1.length : Int) - (1 : Int))))).bind fun r40 => ((getI y23.1 (w64 ((y23.1.length : Int) - (1 : Int))))).bind fun r41 => some r41))) (([] : List Bool), (0 : Int)) := by kernel_rfl
def S36 : FuncId → Sp := fun g => match g with
  | 123 => { loops := [(2, [(.slot 8, .dat .i)])] }
  | _ => {}
noncomputable def F36 (P : Program) (lf : Nat) (x : tt [(true, (.pair .str (.pair (.sl (.pair .str (.pair .i .i))) (.sl Yq)))), (false, .str)]) : Option (tt [(false, .i)]) := fnF P (C147 P lf) S36 36 [(true, (.pair .str (.pair (.sl (.pair .str (.pair .i .i))) (.sl Yq)))), (false, .str)] [(false, .i)] lf x
noncomputable def C36 (P : Program) (lf : Nat) : FuncId → Option Con := extC (C147 P lf) 36 (dataCon [(true, (.pair .str (.pair (.sl (.pair .str (.pair .i .i))) (.sl Yq)))), (false, .str)] [(false, .i)] (F36 P lf))
theorem F36_eq (lf : Nat) (a0 : ByteArray) (a1 : Yf) (a2 : Yr) (a3 : ByteArray) : F36 Tryz.prog lf ((a0, (a1, a2)), a3) =
  iter lf (fun y6 : Int => cond (decide (y6 < (a2.length : Int))) (((getI a2 y6)).bind fun r7 => cond ((ByteArray.toList r7.1) == (ByteArray.toList a3)) (some (.inr y6)) (some (.inl (w64 (y6 + (1 : Int)))))) (some (.inr (-1 : Int)))) (0 : Int) := by kernel_rfl
abbrev AO130 : List AT := [(true, (.pair .str (.pair (.sl (.pair .str (.pair .i .i))) (.sl Yq)))), (false, .i), (false, (.sl .i)), (false, .mpc [(.int .i64 0, .fn 188), (.int .i64 1, .fn 189), (.int .i64 2, .fn 191), (.int .i64 3, .fn 192), (.int .i64 4, .fn 193), (.int .i64 5, .fn 194), (.int .i64 6, .fn 195)])]
abbrev RO130 : List AT := [(true, (.pair (.sl .bool) (.sl .bool)))]
def S130 : FuncId → Sp := fun g => match g with
  | 130 => { joins := [(7, [(.slot 13, .dat .bool)])], loops := [(8, [(.slot 13, .dat .bool), (.slot 43, .dat .i)]), (4, [(.slot 23, .dat .i), (.cell 10 1, .own .bool 4), (.cell 10 0, .own .bool 4)])], wr := [10], pu := [36] }
  | _ => {}
noncomputable def F130 (P : Program) (lf : Nat) (x : tt AO130) : Option (tt RO130) := fnF P (C36 P lf) S130 130 AO130 RO130 lf x
noncomputable def C130 (P : Program) (lf : Nat) : FuncId → Option Con := extC (C36 P lf) 130 (dataCon AO130 RO130 (F130 P lf))
theorem F130_eq (lf : Nat) (a0 : ByteArray) (a1 : Yf) (a2 : Yr) (a3 : Int) (a4 : (List Int)) : F130 Tryz.prog lf ((a0, (a1, a2)), (a3, (a4, ()))) =
  iter lf (fun y37 : (Int × ((List Bool) × (List Bool))) => cond (decide (y37.1 < (a2.length : Int))) (((getI a2 y37.1)).bind fun r38 => jn (((F91 Tryz.prog lf (a3, (r38.2.1, r38.2.2.1)))).bind fun r39 => cond r39 (((F147 Tryz.prog lf ((a1, a4), (r38.2.2.2.1, ())))).bind fun r40 => some (.inl r40)) (some (.inl false))) (fun y41 : Bool => iter lf (fun y42 : (Bool × Int) => cond (decide (y42.2 < (r38.2.2.2.2.2.length : Int))) (((getI r38.2.2.2.2.2 y42.2)).bind fun r43 => cond y42.1 (((F36 Tryz.prog lf ((a0, (a1, a2)), r43))).bind fun r44 => ((getI y37.2.2 r44)).bind fun r45 => ((getI y37.2.2 r44)).bind fun r46 => some (.inl ((!r46), (w64 (y42.2 + (1 : Int)))))) (some (.inl (false, (w64 (y42.2 + (1 : Int))))))) (outR (((appC y37.2.2 [y42.1])).bind fun r47 => cond (!y42.1) (((appC y37.2.1 [true])).bind fun r48 => some (.inl ((w64 (y37.1 + (1 : Int))), (r48, r47)))) (((F147 Tryz.prog lf ((a1, a4), (r38.2.2.2.2.1, ())))).bind fun r49 => ((appC y37.2.1 [r49])).bind fun r50 => some (.inl ((w64 (y37.1 + (1 : Int))), (r50, r47))))))) (y41, (0 : Int)))) (some (.inr (y37.2.2, y37.2.1)))) ((0 : Int), (([] : List Bool), ([] : List Bool))) := by kernel_rfl
def S116 : FuncId → Sp := fun g => match g with
  | 116 => { loops := [(3, [(.slot 3, .own (.sl Yp) 24), (.slot 9, .dat .i)])] }
  | _ => {}
noncomputable def F116 (P : Program) (lf : Nat) (x : tt [(true, (.pair .str (.pair (.sl (.pair .str (.pair .i .i))) (.sl Yq))))]) : Option (tt [(false, (.sl (.sl Yp)))]) := fnF P (C130 P lf) S116 116 [(true, (.pair .str (.pair (.sl (.pair .str (.pair .i .i))) (.sl Yq))))] [(false, (.sl (.sl Yp)))] lf x
noncomputable def C116 (P : Program) (lf : Nat) : FuncId → Option Con := extC (C130 P lf) 116 (dataCon [(true, (.pair .str (.pair (.sl (.pair .str (.pair .i .i))) (.sl Yq))))] [(false, (.sl (.sl Yp)))] (F116 P lf))
theorem F116_eq (lf : Nat) (a0 : ByteArray) (a1 : Yf) (a2 : Yr) : F116 Tryz.prog lf (a0, (a1, a2)) =
  iter lf (fun y7 : ((List Yt) × Int) => cond (decide (y7.2 < (a2.length : Int))) (((getI a2 y7.2)).bind fun r8 => ((appC y7.1 [r8.2.2.2.1, r8.2.2.2.2.1])).bind fun r9 => some (.inl (r9, (w64 (y7.2 + (1 : Int)))))) (some (.inr y7.1))) (([] : List Yt), (0 : Int)) := by kernel_rfl
def S181 : FuncId → Sp := fun _ => {}
noncomputable def F181 (P : Program) (lf : Nat) (x : tt [(true, Yp)]) : Option (tt [(false, (.sl .i))]) := fnF P (C116 P lf) S181 181 [(true, Yp)] [(false, (.sl .i))] lf x
noncomputable def C181 (P : Program) (lf : Nat) : FuncId → Option Con := extC (C116 P lf) 181 (dataCon [(true, Yp)] [(false, (.sl .i))] (F181 P lf))
theorem F181_eq (lf : Nat) (a0 : Int) (a1 : Int) (a2 : Int) (a3 : ByteArray) (a4 : Int) : F181 Tryz.prog lf (a0, (a1, (a2, (a3, a4)))) =
  cond (decide (a0 = (1 : Int))) (some [a4]) (cond (decide (a0 = (2 : Int))) (some [(w64 (a4 + (1 : Int)))]) (cond (decide (a0 = (3 : Int))) (some [a4, (w64 (a4 + (1 : Int)))]) (some ([] : List Int)))) := by kernel_rfl
def S115 : FuncId → Sp := fun g => match g with
  | 115 => { joins := [(17, [(.slot 61, .dat .bool)])], loops := [(14, [(.slot 8, .own .i 3), (.slot 46, .dat .i)]), (10, [(.slot 8, .own .i 3), (.slot 34, .dat .i)]), (7, [(.slot 8, .own .i 3), (.slot 27, .dat .i)]), (3, [(.slot 5, .own (.sl .i) 41), (.slot 17, .dat .i)])] }
  | _ => {}
noncomputable def F115 (P : Program) (lf : Nat) (x : tt [(false, (.sl (.pair .str (.pair .i .i)))), (false, (.sl (.sl Yp)))]) : Option (tt [(false, (.sl (.sl .i)))]) := fnF P (C181 P lf) S115 115 [(false, (.sl (.pair .str (.pair .i .i)))), (false, (.sl (.sl Yp)))] [(false, (.sl (.sl .i)))] lf x
noncomputable def C115 (P : Program) (lf : Nat) : FuncId → Option Con := extC (C181 P lf) 115 (dataCon [(false, (.sl (.pair .str (.pair .i .i)))), (false, (.sl (.sl Yp)))] [(false, (.sl (.sl .i)))] (F115 P lf))
theorem F115_eq (lf : Nat) (a0 : Yf) (a1 : (List Yt)) : F115 Tryz.prog lf (a0, a1) =
  iter lf (fun y20 : ((List (List Int)) × Int) => cond (decide (y20.2 < (a0.length : Int))) (((getI a0 y20.2)).bind fun r21 => iter lf (fun y22 : ((List Int) × Int) => cond (decide (y22.2 < (a1.length : Int))) (((getI a1 y22.2)).bind fun r23 => iter lf (fun y24 : ((List Int) × Int) => cond (decide (y24.2 < (r23.length : Int))) (((getI r23 y24.2)).bind fun r25 => cond (!((ByteArray.toList r25.2.2.2.1) == (ByteArray.toList r21.1))) (some (.inl (y24.1, (w64 (y24.2 + (1 : Int)))))) (((F181 Tryz.prog lf (r25.1, (r25.2.1, (r25.2.2.1, (r25.2.2.2.1, r25.2.2.2.2)))))).bind fun r26 => iter lf (fun y27 : ((List Int) × Int) => cond (decide (y27.2 < (r26.length : Int))) (((getI r26 y27.2)).bind fun r28 => jn (cond (decide (r28 > r21.2.1)) (some (.inl (decide (r28 ≤ r21.2.2)))) (some (.inl false))) (fun y29 : Bool => cond y29 (((appC y27.1 [r28])).bind fun r30 => some (.inl (r30, (w64 (y27.2 + (1 : Int)))))) (some (.inl (y27.1, (w64 (y27.2 + (1 : Int)))))))) (some (.inr (.inl (y27.1, (w64 (y24.2 + (1 : Int)))))))) (y24.1, (0 : Int)))) (some (.inr (.inl (y24.1, (w64 (y22.2 + (1 : Int)))))))) (y22.1, (0 : Int))) (outR (((ltC y22.1)).bind fun r31 => ((ltC (sortL y22.1))).bind fun r32 => ((appC y20.1 [(compL (sortL y22.1))])).bind fun r33 => some (.inl (r33, (w64 (y20.2 + (1 : Int)))))))) ([r21.2.1], (0 : Int))) (some (.inr y20.1))) (([] : List (List Int)), (0 : Int)) := by kernel_rfl
def S106 : FuncId → Sp := fun g => match g with
  | 106 => { loops := [(2, [(.slot 8, .dat .i)])] }
  | _ => {}
noncomputable def F106 (P : Program) (lf : Nat) (x : tt [(false, (.sl .bool)), (false, .bool)]) : Option (tt [(false, .i)]) := fnF P (C115 P lf) S106 106 [(false, (.sl .bool)), (false, .bool)] [(false, .i)] lf x
noncomputable def C106 (P : Program) (lf : Nat) : FuncId → Option Con := extC (C115 P lf) 106 (dataCon [(false, (.sl .bool)), (false, .bool)] [(false, .i)] (F106 P lf))
theorem F106_eq (lf : Nat) (a0 : (List Bool)) (a1 : Bool) : F106 Tryz.prog lf (a0, a1) =
  iter lf (fun y4 : Int => cond (decide (y4 < (a0.length : Int))) (((getI a0 y4)).bind fun r5 => cond (decide (a1 = r5)) (some (.inr y4)) (some (.inl (w64 (y4 + (1 : Int)))))) (some (.inr (-1 : Int)))) (0 : Int) := by kernel_rfl
def S174 : FuncId → Sp := fun _ => {}
noncomputable def F174 (P : Program) (lf : Nat) (x : tt [(false, (.sl .bool)), (false, .bool)]) : Option (tt [(false, .bool)]) := fnF P (C106 P lf) S174 174 [(false, (.sl .bool)), (false, .bool)] [(false, .bool)] lf x
noncomputable def C174 (P : Program) (lf : Nat) : FuncId → Option Con := extC (C106 P lf) 174 (dataCon [(false, (.sl .bool)), (false, .bool)] [(false, .bool)] (F174 P lf))
theorem F174_eq (lf : Nat) (a0 : (List Bool)) (a1 : Bool) : F174 Tryz.prog lf (a0, a1) =
  ((F106 Tryz.prog lf (a0, a1))).bind fun r3 => some (decide (r3 ≥ (0 : Int))) := by kernel_rfl
def S125 : FuncId → Sp := fun _ => {}
noncomputable def F125 (P : Program) (lf : Nat) (x : tt [(false, (.sl .bool))]) : Option (tt [(false, .i)]) := fnF P (C174 P lf) S125 125 [(false, (.sl .bool))] [(false, .i)] lf x
noncomputable def C125 (P : Program) (lf : Nat) : FuncId → Option Con := extC (C174 P lf) 125 (dataCon [(false, (.sl .bool))] [(false, .i)] (F125 P lf))
theorem F125_eq (lf : Nat) (a0 : (List Bool)) : F125 Tryz.prog lf a0 =
  ((F174 Tryz.prog lf (a0, false))).bind fun r3 => cond (!r3) (some (1 : Int)) (((F174 Tryz.prog lf (a0, true))).bind fun r4 => cond (!r4) (some (0 : Int)) (some (2 : Int))) := by kernel_rfl
def S133 : FuncId → Sp := fun g => match g with
  | 133 => { loops := [(2, [(.slot 10, .dat .i)])] }
  | _ => {}
noncomputable def F133 (P : Program) (lf : Nat) (x : tt [(true, (.pair (.sl .bool) (.sl .bool))), (false, .i)]) : Option (tt [(false, .bool)]) := fnF P (C125 P lf) S133 133 [(true, (.pair (.sl .bool) (.sl .bool))), (false, .i)] [(false, .bool)] lf x
noncomputable def C133 (P : Program) (lf : Nat) : FuncId → Option Con := extC (C125 P lf) 133 (dataCon [(true, (.pair (.sl .bool) (.sl .bool))), (false, .i)] [(false, .bool)] (F133 P lf))
theorem F133_eq (lf : Nat) (a0 : (List Bool)) (a1 : (List Bool)) (a2 : Int) : F133 Tryz.prog lf ((a0, a1), a2) =
  iter lf (fun y5 : Int => cond (decide (y5 < (a1.length : Int))) (((getI a1 y5)).bind fun r6 => cond (decide (r6 = (decide (y5 = a2)))) (some (.inr false)) (some (.inl (w64 (y5 + (1 : Int)))))) (some (.inr true))) (0 : Int) := by kernel_rfl
end Go.K
namespace Go.K
open Go.Sl Go.Sx Go.Proofs
noncomputable def G110 (lf : Nat) (x : (Yf × ByteArray)) : Option (Int) :=
  iter lf (fun y4 : Int => cond (decide (y4 < (x.1.length : Int))) (((getI x.1 y4)).bind fun r5 => cond (r5.1.data.toList == x.2.data.toList) (some (.inr y4)) (some (.inl (w64 (y4 + (1 : Int)))))) (some (.inr (-1 : Int)))) (0 : Int)
theorem F110_G (lf : Nat) (x : (Yf × ByteArray)) : F110 Tryz.prog lf x = G110 lf x := (F110_eq lf x.1 x.2).trans (by
  unfold G110
  (try simp only [agree_self, Lib.toList_data]); first | done | rfl)
noncomputable def G190 (lf : Nat) (x : ((Yf × (List Int)) × ByteArray)) : Option (Int) :=
  ((G110 lf (x.1.1, x.2))).bind fun r5 => ((getI x.1.2 r5)).bind fun r6 => some r6
theorem F190_G (lf : Nat) (x : ((Yf × (List Int)) × ByteArray)) : F190 Tryz.prog lf x = G190 lf x := (F190_eq lf x.1.1 x.1.2 x.2).trans (by
  unfold G190
  (try simp only [F110_G, agree_self, Lib.toList_data]); first | done | rfl)
noncomputable def G188 (lf : Nat) (x : ((Yf × (List Int)) × ((Int × (Int × (Int × (ByteArray × Int)))) × (List Bool)))) : Option (Bool) :=
  some true
theorem F188_G (lf : Nat) (x : ((Yf × (List Int)) × ((Int × (Int × (Int × (ByteArray × Int)))) × (List Bool)))) : F188 Tryz.prog lf x = G188 lf x := (F188_eq lf x.1.1 x.1.2 x.2.1.1 x.2.1.2.1 x.2.1.2.2.1 x.2.1.2.2.2.1 x.2.1.2.2.2.2 x.2.2).trans (by
  unfold G188
  (try simp only [agree_self, Lib.toList_data]); first | done | rfl)
noncomputable def G189 (lf : Nat) (x : ((Yf × (List Int)) × ((Int × (Int × (Int × (ByteArray × Int)))) × (List Bool)))) : Option (Bool) :=
  ((G190 lf ((x.1.1, x.1.2), x.2.1.2.2.2.1))).bind fun r9 => some (decide (r9 < x.2.1.2.2.2.2))
theorem F189_G (lf : Nat) (x : ((Yf × (List Int)) × ((Int × (Int × (Int × (ByteArray × Int)))) × (List Bool)))) : F189 Tryz.prog lf x = G189 lf x := (F189_eq lf x.1.1 x.1.2 x.2.1.1 x.2.1.2.1 x.2.1.2.2.1 x.2.1.2.2.2.1 x.2.1.2.2.2.2 x.2.2).trans (by
  unfold G189
  (try simp only [F190_G, agree_self, Lib.toList_data]); first | done | rfl)
noncomputable def G191 (lf : Nat) (x : ((Yf × (List Int)) × ((Int × (Int × (Int × (ByteArray × Int)))) × (List Bool)))) : Option (Bool) :=
  ((G190 lf ((x.1.1, x.1.2), x.2.1.2.2.2.1))).bind fun r9 => some (decide (r9 ≤ x.2.1.2.2.2.2))
theorem F191_G (lf : Nat) (x : ((Yf × (List Int)) × ((Int × (Int × (Int × (ByteArray × Int)))) × (List Bool)))) : F191 Tryz.prog lf x = G191 lf x := (F191_eq lf x.1.1 x.1.2 x.2.1.1 x.2.1.2.1 x.2.1.2.2.1 x.2.1.2.2.2.1 x.2.1.2.2.2.2 x.2.2).trans (by
  unfold G191
  (try simp only [F190_G, agree_self, Lib.toList_data]); first | done | rfl)
noncomputable def G192 (lf : Nat) (x : ((Yf × (List Int)) × ((Int × (Int × (Int × (ByteArray × Int)))) × (List Bool)))) : Option (Bool) :=
  ((G190 lf ((x.1.1, x.1.2), x.2.1.2.2.2.1))).bind fun r9 => some (decide (r9 = x.2.1.2.2.2.2))
theorem F192_G (lf : Nat) (x : ((Yf × (List Int)) × ((Int × (Int × (Int × (ByteArray × Int)))) × (List Bool)))) : F192 Tryz.prog lf x = G192 lf x := (F192_eq lf x.1.1 x.1.2 x.2.1.1 x.2.1.2.1 x.2.1.2.2.1 x.2.1.2.2.2.1 x.2.1.2.2.2.2 x.2.2).trans (by
  unfold G192
  (try simp only [F190_G, agree_self, Lib.toList_data]); first | done | rfl)
noncomputable def G193 (lf : Nat) (x : ((Yf × (List Int)) × ((Int × (Int × (Int × (ByteArray × Int)))) × (List Bool)))) : Option (Bool) :=
  ((getI x.2.2 x.2.1.2.1)).bind fun r9 => some (!r9)
theorem F193_G (lf : Nat) (x : ((Yf × (List Int)) × ((Int × (Int × (Int × (ByteArray × Int)))) × (List Bool)))) : F193 Tryz.prog lf x = G193 lf x := (F193_eq lf x.1.1 x.1.2 x.2.1.1 x.2.1.2.1 x.2.1.2.2.1 x.2.1.2.2.2.1 x.2.1.2.2.2.2 x.2.2).trans (by
  unfold G193
  (try simp only [agree_self, Lib.toList_data]); first | done | rfl)
noncomputable def G194 (lf : Nat) (x : ((Yf × (List Int)) × ((Int × (Int × (Int × (ByteArray × Int)))) × (List Bool)))) : Option (Bool) :=
  ((getI x.2.2 x.2.1.2.1)).bind fun r10 => cond r10 (((getI x.2.2 x.2.1.2.2.1)).bind fun r11 => some r11) (some false)
theorem F194_G (lf : Nat) (x : ((Yf × (List Int)) × ((Int × (Int × (Int × (ByteArray × Int)))) × (List Bool)))) : F194 Tryz.prog lf x = G194 lf x := (F194_eq lf x.1.1 x.1.2 x.2.1.1 x.2.1.2.1 x.2.1.2.2.1 x.2.1.2.2.2.1 x.2.1.2.2.2.2 x.2.2).trans (by
  unfold G194
  (try simp only [agree_self, Lib.toList_data]); first | done | rfl)
noncomputable def G195 (lf : Nat) (x : ((Yf × (List Int)) × ((Int × (Int × (Int × (ByteArray × Int)))) × (List Bool)))) : Option (Bool) :=
  ((getI x.2.2 x.2.1.2.1)).bind fun r10 => cond r10 (some true) (((getI x.2.2 x.2.1.2.2.1)).bind fun r11 => some r11)
theorem F195_G (lf : Nat) (x : ((Yf × (List Int)) × ((Int × (Int × (Int × (ByteArray × Int)))) × (List Bool)))) : F195 Tryz.prog lf x = G195 lf x := (F195_eq lf x.1.1 x.1.2 x.2.1.1 x.2.1.2.1 x.2.1.2.2.1 x.2.1.2.2.2.1 x.2.1.2.2.2.2 x.2.2).trans (by
  unfold G195
  (try simp only [agree_self, Lib.toList_data]); first | done | rfl)
noncomputable def G131 (lf : Nat) (x : Unit) : Option (Unit) :=
  some ()
theorem F131_G (lf : Nat) (x : Unit) : F131 Tryz.prog lf x = G131 lf x := (F131_eq lf ).trans (by
  unfold G131
  (try simp only [agree_self, Lib.toList_data]); first | done | rfl)
noncomputable def G147 (lf : Nat) (x : ((Yf × (List Int)) × (Yt × Unit))) : Option (Bool) :=
  iter lf (fun y23 : ((List Bool) × Int) => cond (decide (y23.2 < (x.2.1.length : Int))) (jn (((getI x.2.1 y23.2)).bind fun r24 => cond (decide (r24.1 = (0 : Int))) (((G188 lf ((x.1.1, x.1.2), ((r24.1, (r24.2.1, (r24.2.2.1, (r24.2.2.2.1, r24.2.2.2.2)))), y23.1)))).bind fun r25 => ((appC y23.1 [r25])).bind fun r26 => some (.inl r26)) (cond (decide (r24.1 = (1 : Int))) (((G189 lf ((x.1.1, x.1.2), ((r24.1, (r24.2.1, (r24.2.2.1, (r24.2.2.2.1, r24.2.2.2.2)))), y23.1)))).bind fun r27 => ((appC y23.1 [r27])).bind fun r28 => some (.inl r28)) (cond (decide (r24.1 = (2 : Int))) (((G191 lf ((x.1.1, x.1.2), ((r24.1, (r24.2.1, (r24.2.2.1, (r24.2.2.2.1, r24.2.2.2.2)))), y23.1)))).bind fun r29 => ((appC y23.1 [r29])).bind fun r30 => some (.inl r30)) (cond (decide (r24.1 = (3 : Int))) (((G192 lf ((x.1.1, x.1.2), ((r24.1, (r24.2.1, (r24.2.2.1, (r24.2.2.2.1, r24.2.2.2.2)))), y23.1)))).bind fun r31 => ((appC y23.1 [r31])).bind fun r32 => some (.inl r32)) (cond (decide (r24.1 = (4 : Int))) (((G193 lf ((x.1.1, x.1.2), ((r24.1, (r24.2.1, (r24.2.2.1, (r24.2.2.2.1, r24.2.2.2.2)))), y23.1)))).bind fun r33 => ((appC y23.1 [r33])).bind fun r34 => some (.inl r34)) (cond (decide (r24.1 = (5 : Int))) (((G194 lf ((x.1.1, x.1.2), ((r24.1, (r24.2.1, (r24.2.2.1, (r24.2.2.2.1, r24.2.2.2.2)))), y23.1)))).bind fun r35 => ((appC y23.1 [r35])).bind fun r36 => some (.inl r36)) (cond (decide (r24.1 = (6 : Int))) (((G195 lf ((x.1.1, x.1.2), ((r24.1, (r24.2.1, (r24.2.2.1, (r24.2.2.2.1, r24.2.2.2.2)))), y23.1)))).bind fun r37 => ((appC y23.1 [r37])).bind fun r38 => some (.inl r38)) ((outI))))))))) (fun y39 : (List Bool) => some (.inl (y39, (w64 (y23.2 + (1 : Int))))))) (outR (((getI y23.1 (w64 ((y23.1.length : Int) - (1 : Int))))).bind fun r40 => ((getI y23.1 (w64 ((y23.1.length : Int) - (1 : Int))))).bind fun r41 => some r41))) (([] : List Bool), (0 : Int))
theorem F147_G (lf : Nat) (x : ((Yf × (List Int)) × (Yt × Unit))) : F147 Tryz.prog lf x = G147 lf x := (F147_eq lf x.1.1 x.1.2 x.2.1).trans (by
  unfold G147
  (try simp only [F188_G, F189_G, F191_G, F192_G, F193_G, F194_G, F195_G, agree_self, Lib.toList_data]); first | done | rfl)
noncomputable def G36 (lf : Nat) (x : ((ByteArray × (Yf × Yr)) × ByteArray)) : Option (Int) :=
  iter lf (fun y6 : Int => cond (decide (y6 < (x.1.2.2.length : Int))) (((getI x.1.2.2 y6)).bind fun r7 => cond (r7.1.data.toList == x.2.data.toList) (some (.inr y6)) (some (.inl (w64 (y6 + (1 : Int)))))) (some (.inr (-1 : Int)))) (0 : Int)
theorem F36_G (lf : Nat) (x : ((ByteArray × (Yf × Yr)) × ByteArray)) : F36 Tryz.prog lf x = G36 lf x := (F36_eq lf x.1.1 x.1.2.1 x.1.2.2 x.2).trans (by
  unfold G36
  (try simp only [agree_self, Lib.toList_data]); first | done | rfl)
noncomputable def G130 (lf : Nat) (x : ((ByteArray × (Yf × Yr)) × (Int × ((List Int) × Unit)))) : Option (((List Bool) × (List Bool))) :=
  iter lf (fun y37 : (Int × ((List Bool) × (List Bool))) => cond (decide (y37.1 < (x.1.2.2.length : Int))) (((getI x.1.2.2 y37.1)).bind fun r38 => jn (((G91 lf (x.2.1, (r38.2.1, r38.2.2.1)))).bind fun r39 => cond r39 (((G147 lf ((x.1.2.1, x.2.2.1), (r38.2.2.2.1, ())))).bind fun r40 => some (.inl r40)) (some (.inl false))) (fun y41 : Bool => iter lf (fun y42 : (Bool × Int) => cond (decide (y42.2 < (r38.2.2.2.2.2.length : Int))) (((getI r38.2.2.2.2.2 y42.2)).bind fun r43 => cond y42.1 (((G36 lf ((x.1.1, (x.1.2.1, x.1.2.2)), r43))).bind fun r44 => ((getI y37.2.2 r44)).bind fun r45 => ((getI y37.2.2 r44)).bind fun r46 => some (.inl ((!r46), (w64 (y42.2 + (1 : Int)))))) (some (.inl (false, (w64 (y42.2 + (1 : Int))))))) (outR (((appC y37.2.2 [y42.1])).bind fun r47 => cond (!y42.1) (((appC y37.2.1 [true])).bind fun r48 => some (.inl ((w64 (y37.1 + (1 : Int))), (r48, r47)))) (((G147 lf ((x.1.2.1, x.2.2.1), (r38.2.2.2.2.1, ())))).bind fun r49 => ((appC y37.2.1 [r49])).bind fun r50 => some (.inl ((w64 (y37.1 + (1 : Int))), (r50, r47))))))) (y41, (0 : Int)))) (some (.inr (y37.2.2, y37.2.1)))) ((0 : Int), (([] : List Bool), ([] : List Bool)))
theorem F130_G (lf : Nat) (x : ((ByteArray × (Yf × Yr)) × (Int × ((List Int) × Unit)))) : F130 Tryz.prog lf x = G130 lf x := (F130_eq lf x.1.1 x.1.2.1 x.1.2.2 x.2.1 x.2.2.1).trans (by
  unfold G130
  (try simp only [F36_G, F91_G, F147_G, agree_self, Lib.toList_data]); first | done | rfl)
noncomputable def G116 (lf : Nat) (x : (ByteArray × (Yf × Yr))) : Option ((List Yt)) :=
  iter lf (fun y7 : ((List Yt) × Int) => cond (decide (y7.2 < (x.2.2.length : Int))) (((getI x.2.2 y7.2)).bind fun r8 => ((appC y7.1 [r8.2.2.2.1, r8.2.2.2.2.1])).bind fun r9 => some (.inl (r9, (w64 (y7.2 + (1 : Int)))))) (some (.inr y7.1))) (([] : List Yt), (0 : Int))
theorem F116_G (lf : Nat) (x : (ByteArray × (Yf × Yr))) : F116 Tryz.prog lf x = G116 lf x := (F116_eq lf x.1 x.2.1 x.2.2).trans (by
  unfold G116
  (try simp only [agree_self, Lib.toList_data]); first | done | rfl)
noncomputable def G181 (lf : Nat) (x : (Int × (Int × (Int × (ByteArray × Int))))) : Option ((List Int)) :=
  cond (decide (x.1 = (1 : Int))) (some [x.2.2.2.2]) (cond (decide (x.1 = (2 : Int))) (some [(w64 (x.2.2.2.2 + (1 : Int)))]) (cond (decide (x.1 = (3 : Int))) (some [x.2.2.2.2, (w64 (x.2.2.2.2 + (1 : Int)))]) (some ([] : List Int))))
theorem F181_G (lf : Nat) (x : (Int × (Int × (Int × (ByteArray × Int))))) : F181 Tryz.prog lf x = G181 lf x := (F181_eq lf x.1 x.2.1 x.2.2.1 x.2.2.2.1 x.2.2.2.2).trans (by
  unfold G181
  (try simp only [agree_self, Lib.toList_data]); first | done | rfl)
noncomputable def G115 (lf : Nat) (x : (Yf × (List Yt))) : Option ((List (List Int))) :=
  iter lf (fun y20 : ((List (List Int)) × Int) => cond (decide (y20.2 < (x.1.length : Int))) (((getI x.1 y20.2)).bind fun r21 => iter lf (fun y22 : ((List Int) × Int) => cond (decide (y22.2 < (x.2.length : Int))) (((getI x.2 y22.2)).bind fun r23 => iter lf (fun y24 : ((List Int) × Int) => cond (decide (y24.2 < (r23.length : Int))) (((getI r23 y24.2)).bind fun r25 => cond (!(r25.2.2.2.1.data.toList == r21.1.data.toList)) (some (.inl (y24.1, (w64 (y24.2 + (1 : Int)))))) (((G181 lf (r25.1, (r25.2.1, (r25.2.2.1, (r25.2.2.2.1, r25.2.2.2.2)))))).bind fun r26 => iter lf (fun y27 : ((List Int) × Int) => cond (decide (y27.2 < (r26.length : Int))) (((getI r26 y27.2)).bind fun r28 => jn (cond (decide (r28 > r21.2.1)) (some (.inl (decide (r28 ≤ r21.2.2)))) (some (.inl false))) (fun y29 : Bool => cond y29 (((appC y27.1 [r28])).bind fun r30 => some (.inl (r30, (w64 (y27.2 + (1 : Int)))))) (some (.inl (y27.1, (w64 (y27.2 + (1 : Int)))))))) (some (.inr (.inl (y27.1, (w64 (y24.2 + (1 : Int)))))))) (y24.1, (0 : Int)))) (some (.inr (.inl (y24.1, (w64 (y22.2 + (1 : Int)))))))) (y22.1, (0 : Int))) (outR (((ltC y22.1)).bind fun r31 => ((ltC (sortL y22.1))).bind fun r32 => ((appC y20.1 [(compL (sortL y22.1))])).bind fun r33 => some (.inl (r33, (w64 (y20.2 + (1 : Int)))))))) ([r21.2.1], (0 : Int))) (some (.inr y20.1))) (([] : List (List Int)), (0 : Int))
theorem F115_G (lf : Nat) (x : (Yf × (List Yt))) : F115 Tryz.prog lf x = G115 lf x := (F115_eq lf x.1 x.2).trans (by
  unfold G115
  (try simp only [F181_G, agree_self, Lib.toList_data]); first | done | rfl)
noncomputable def G106 (lf : Nat) (x : ((List Bool) × Bool)) : Option (Int) :=
  iter lf (fun y4 : Int => cond (decide (y4 < (x.1.length : Int))) (((getI x.1 y4)).bind fun r5 => cond (decide (x.2 = r5)) (some (.inr y4)) (some (.inl (w64 (y4 + (1 : Int)))))) (some (.inr (-1 : Int)))) (0 : Int)
theorem F106_G (lf : Nat) (x : ((List Bool) × Bool)) : F106 Tryz.prog lf x = G106 lf x := (F106_eq lf x.1 x.2).trans (by
  unfold G106
  (try simp only [agree_self, Lib.toList_data]); first | done | rfl)
noncomputable def G174 (lf : Nat) (x : ((List Bool) × Bool)) : Option (Bool) :=
  ((G106 lf (x.1, x.2))).bind fun r3 => some (decide (r3 ≥ (0 : Int)))
theorem F174_G (lf : Nat) (x : ((List Bool) × Bool)) : F174 Tryz.prog lf x = G174 lf x := (F174_eq lf x.1 x.2).trans (by
  unfold G174
  (try simp only [F106_G, agree_self, Lib.toList_data]); first | done | rfl)
noncomputable def G125 (lf : Nat) (x : (List Bool)) : Option (Int) :=
  ((G174 lf (x, false))).bind fun r3 => cond (!r3) (some (1 : Int)) (((G174 lf (x, true))).bind fun r4 => cond (!r4) (some (0 : Int)) (some (2 : Int)))
theorem F125_G (lf : Nat) (x : (List Bool)) : F125 Tryz.prog lf x = G125 lf x := (F125_eq lf x).trans (by
  unfold G125
  (try simp only [F174_G, agree_self, Lib.toList_data]); first | done | rfl)
noncomputable def G133 (lf : Nat) (x : (((List Bool) × (List Bool)) × Int)) : Option (Bool) :=
  iter lf (fun y5 : Int => cond (decide (y5 < (x.1.2.length : Int))) (((getI x.1.2 y5)).bind fun r6 => cond (decide (r6 = (decide (y5 = x.2)))) (some (.inr false)) (some (.inl (w64 (y5 + (1 : Int)))))) (some (.inr true))) (0 : Int)
theorem F133_G (lf : Nat) (x : (((List Bool) × (List Bool)) × Int)) : F133 Tryz.prog lf x = G133 lf x := (F133_eq lf x.1.1 x.1.2 x.2).trans (by
  unfold G133
  (try simp only [agree_self, Lib.toList_data]); first | done | rfl)
end Go.K
namespace Go.K
open Go.Sl Go.Sx Go.Proofs
def S104 : FuncId → Sp := fun g => match g with
  | 209 => { joins := [(12, [(.slot 7, .dat .i), (.slot 3, .own .i 3)])], loops := [(9, [(.slot 7, .dat .i), (.slot 3, .own .i 3)]), (3, [(.slot 4, .own .i 3), (.slot 13, .dat .i)]), (1, [(.slot 3, .own .i 3), (.cell 0 0 [3, 1], .own .bool 4)])] }
  | 175 => { fz := [(4, [(.slot 6, .dat (.sl .i))])] }
  | _ => {}
noncomputable def F104 (P : Program) (lf : Nat) (x : tt [(true, (.pair .str (.pair (.sl (.pair .str (.pair .i .i))) (.sl Yq)))), (false, .i), (false, (.sl (.pair .str (.pair .i .i))))]) : Option (tt [(false, .i)]) := fnF P (C133 P lf) S104 104 [(true, (.pair .str (.pair (.sl (.pair .str (.pair .i .i))) (.sl Yq)))), (false, .i), (false, (.sl (.pair .str (.pair .i .i))))] [(false, .i)] lf x
noncomputable def C104 (P : Program) (lf : Nat) : FuncId → Option Con := extC (C133 P lf) 104 (dataCon [(true, (.pair .str (.pair (.sl (.pair .str (.pair .i .i))) (.sl Yq)))), (false, .i), (false, (.sl (.pair .str (.pair .i .i))))] [(false, .i)] (F104 P lf))
theorem F104_eq (lf : Nat) (a0 : ByteArray) (a1 : Yf) (a2 : Yr) (a3 : Int) (a4 : Yf) : F104 Tryz.prog lf ((a0, (a1, a2)), (a3, a4)) =
  ((F131 Tryz.prog lf ())).bind fun r71 => ((F116 Tryz.prog lf (a0, (a1, a2)))).bind fun r72 => ((F115 Tryz.prog lf (a4, r72))).bind fun r73 => ((mkC (r73.length : Int) (0 : Int))).bind fun r74 => iter lf (fun y75 : ((List Int) × (List Bool)) => iter lf (fun y76 : ((List Int) × Int) => cond (decide (y76.2 < (y75.1.length : Int))) (((getI y75.1 y76.2)).bind fun r77 => ((getI y75.1 y76.2)).bind fun r78 => ((getI r73 y76.2)).bind fun r79 => ((getI r79 r78)).bind fun r80 => ((appC y76.1 [r80])).bind fun r81 => some (.inl (r81, (w64 (y76.2 + (1 : Int)))))) (outR (((F130 Tryz.prog lf ((a0, (a1, a2)), (a3, (y76.1, ()))))).bind fun r82 => ((F174 Tryz.prog lf (r82.2, false))).bind fun r83 => ((appC y75.2 [(!r83)])).bind fun r84 => jn (iter lf (fun y85 : (Int × (List Int)) => cond (decide (y85.1 ≥ (0 : Int))) (((getI y85.2 y85.1)).bind fun r86 => ((getI y85.2 y85.1)).bind fun r87 => ((getI r73 y85.1)).bind fun r88 => cond (decide (r87 = (w64 ((r88.length : Int) - (1 : Int))))) (((getI y85.2 y85.1)).bind fun r89 => ((getI y85.2 y85.1)).bind fun r90 => ((setI y85.2 y85.1 (0 : Int))).bind fun r91 => some (.inl ((w64 (y85.1 - (1 : Int))), r91))) (some (.inr (.inl (y85.1, y85.2))))) (some (.inr (.inl (y85.1, y85.2))))) ((w64 ((r73.length : Int) - (1 : Int))), y75.1)) (fun y92 : (Int × (List Int)) => cond (decide (y92.1 < (0 : Int))) (outR (((F125 Tryz.prog lf r84)).bind fun r93 => some r93)) (((getI y92.2 y92.1)).bind fun r94 => ((getI y92.2 y92.1)).bind fun r95 => ((getI y92.2 y92.1)).bind fun r96 => ((getI y92.2 y92.1)).bind fun r97 => ((setI y92.2 y92.1 (w64 (r95 + (1 : Int))))).bind fun r98 => some (.inl (r98, r84))))))) (([] : List Int), (0 : Int))) (r74, ([] : List Bool)) := by kernel_rfl
end Go.K
namespace Go.K
open Go.Sl Go.Sx Go.Proofs
noncomputable def G104 (lf : Nat) (x : ((ByteArray × (Yf × Yr)) × (Int × Yf))) : Option (Int) :=
  ((G131 lf ())).bind fun r71 => ((G116 lf (x.1.1, (x.1.2.1, x.1.2.2)))).bind fun r72 => ((G115 lf (x.2.2, r72))).bind fun r73 => ((mkC (r73.length : Int) (0 : Int))).bind fun r74 => iter lf (fun y75 : ((List Int) × (List Bool)) => iter lf (fun y76 : ((List Int) × Int) => cond (decide (y76.2 < (y75.1.length : Int))) (((getI y75.1 y76.2)).bind fun r77 => ((getI y75.1 y76.2)).bind fun r78 => ((getI r73 y76.2)).bind fun r79 => ((getI r79 r78)).bind fun r80 => ((appC y76.1 [r80])).bind fun r81 => some (.inl (r81, (w64 (y76.2 + (1 : Int)))))) (outR (((G130 lf ((x.1.1, (x.1.2.1, x.1.2.2)), (x.2.1, (y76.1, ()))))).bind fun r82 => ((G174 lf (r82.2, false))).bind fun r83 => ((appC y75.2 [(!r83)])).bind fun r84 => jn (iter lf (fun y85 : (Int × (List Int)) => cond (decide (y85.1 ≥ (0 : Int))) (((getI y85.2 y85.1)).bind fun r86 => ((getI y85.2 y85.1)).bind fun r87 => ((getI r73 y85.1)).bind fun r88 => cond (decide (r87 = (w64 ((r88.length : Int) - (1 : Int))))) (((getI y85.2 y85.1)).bind fun r89 => ((getI y85.2 y85.1)).bind fun r90 => ((setI y85.2 y85.1 (0 : Int))).bind fun r91 => some (.inl ((w64 (y85.1 - (1 : Int))), r91))) (some (.inr (.inl (y85.1, y85.2))))) (some (.inr (.inl (y85.1, y85.2))))) ((w64 ((r73.length : Int) - (1 : Int))), y75.1)) (fun y92 : (Int × (List Int)) => cond (decide (y92.1 < (0 : Int))) (outR (((G125 lf r84)).bind fun r93 => some r93)) (((getI y92.2 y92.1)).bind fun r94 => ((getI y92.2 y92.1)).bind fun r95 => ((getI y92.2 y92.1)).bind fun r96 => ((getI y92.2 y92.1)).bind fun r97 => ((setI y92.2 y92.1 (w64 (r95 + (1 : Int))))).bind fun r98 => some (.inl (r98, r84))))))) (([] : List Int), (0 : Int))) (r74, ([] : List Bool))
theorem F104_G (lf : Nat) (x : ((ByteArray × (Yf × Yr)) × (Int × Yf))) : F104 Tryz.prog lf x = G104 lf x := (F104_eq lf x.1.1 x.1.2.1 x.1.2.2 x.2.1 x.2.2).trans (by
  unfold G104
  (try simp only [F115_G, F116_G, F125_G, F130_G, F131_G, F174_G, agree_self, Lib.toList_data]); first | done | rfl)
end Go.K
