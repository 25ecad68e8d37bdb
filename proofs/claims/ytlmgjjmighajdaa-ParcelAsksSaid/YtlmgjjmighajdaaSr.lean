/-
  Quiet operations in one step, whatever their flags; whole regions that are quiet. Program-independent. No condition.
-/
import Derived.Test.YtlmgjjmighajdaaSq
set_option linter.unusedVariables false
namespace Go.Sx
open Go.Sl
variable {P : Program} {a : Act} {N : Nat} {fl : FL} {ds : List Nat} {w : World} {R : Array Oper} {m : List Nat} {S : World → Prop} {K : Act → World → Prop} {pl : List (Nat × Bool)} {ro : Option Nat} {c : Code} {Q : Exit → Act → World → Prop}

/-- Obligations that look at no memory. -/
def pureO : List Obl → Bool
  | [] => true
  | .prop _ :: l => pureO l
  | .cell _ _ :: _ => false
theorem pureO_any {w w' : World} : ∀ {l : List Obl}, pureO l = true → HA w l → HA w' l
  | [], _, _ => .nil
  | .prop _ :: _, h, k => by cases k with | prop e k => exact .prop e (pureO_any h k)
  | .cell _ _ :: _, h, _ => by cases h

/-- Quiet operations: the frame behind them, what those that are taken first ask, what the others ask. -/
def evX (P : Program) (R : Array Oper) (N : Nat) (m : List Nat) : List (Nat × Bool) → FL → List Value → Option (FL × List Obl × List Obl × List Value)
  | [], fl, os => some (fl, [], [], os)
  | (k, b) :: pl, fl, os => match R[k]? with
    | none => none
    | some o => bif (match o.dst with | some d => Nat.blt d N | none => true) then
      match wantedF R fl o with
      | none => none
      | some false => evX P R N m pl (putF fl o.dst undef) os
      | some true => bif known fl o then
          match opQ P (ev fl) o os with
          | none => none
          | some (v, obs, os') => match evX P R N m pl (putF fl o.dst v) os' with
            | none => none
            | some (fl', oF, oC, os'') => bif b then (bif (pureO obs || lateB .any R m k) then some (fl', obs ++ oF, oC, os'') else none) else some (fl', oF, obs ++ oC, os'')
        else none
      else none

theorem wpPlan_mix (hSw : S w) : ∀ (pl : List (Nat × Bool)) {a : Act} {fl : FL} {os : List Value} {fl' : FL} {oF oC : List Obl} {os' : List Value} {rest : List (Nat × Bool)},
    Fr a N fl ds → evX P R N m pl fl os = some (fl', oF, oC, os') → (∀ w', S w' → HA w' oF) → HA w oC →
    (∀ a', Fr a' N fl' ds → wpPlan P R m S K rest a' w) → wpPlan P R m S K (pl ++ rest) a w
  | [], a, fl, os, fl', oF, oC, os', rest, hf, he, _, _, k => by
    simp only [evX, Option.some.injEq, Prod.mk.injEq] at he
    obtain ⟨rfl, _, _, _⟩ := he
    exact k a hf
  | (i, b) :: pl, a, fl, os, fl', oF, oC, os', rest, hf, he, hF, hC, k => by
    simp only [evX] at he
    cases hR : R[i]? with
    | none => rw [hR] at he; simp at he
    | some o =>
      rw [hR] at he
      simp only at he
      cases hd : (match o.dst with | some d => Nat.blt d N | none => true) with
      | false => rw [hd] at he; simp at he
      | true =>
        rw [hd] at he
        simp only [cond_true] at he
        cases hw : wantedF R fl o with
        | none => rw [hw] at he; simp at he
        | some c =>
          rw [hw] at he
          have hwa := wantedF_sound hf hw
          cases c with
          | false =>
            simp only at he
            have ih := wpPlan_mix hSw pl (rest := rest) (hf.put hd undef) he hF hC k
            cases b with
            | true => exact ⟨o, undef, hR, .inr (.inr ⟨hwa, rfl⟩), ih⟩
            | false =>
              show wpOp P R _ i (fun a' w' => (m.contains i = false → S w') ∧ wpPlan P R m S K (pl ++ rest) a' w') a w
              unfold wpOp
              simp only [hR, hwa]
              exact ⟨fun _ => hSw, ih⟩
          | true =>
            simp only at he
            cases hk : known fl o with
            | false => rw [hk] at he; simp at he
            | true =>
              rw [hk] at he
              simp only [cond_true] at he
              cases hq : opQ P (ev fl) o os with
              | none => rw [hq] at he; simp at he
              | some t =>
                obtain ⟨v, obs1, os1⟩ := t
                rw [hq] at he
                simp only at he
                cases hr : evX P R N m pl (putF fl o.dst v) os1 with
                | none => rw [hr] at he; simp at he
                | some t' =>
                  obtain ⟨fl2, oF2, oC2, os2⟩ := t'
                  rw [hr] at he
                  simp only at he
                  cases b with
                  | true =>
                    simp only [cond_true] at he
                    cases hp : (pureO obs1 || lateB .any R m i) with
                    | false => rw [hp] at he; simp at he
                    | true =>
                      rw [hp] at he
                      simp only [cond_true, Option.some.injEq, Prod.mk.injEq] at he
                      obtain ⟨rfl, rfl, rfl, rfl⟩ := he
                      have ih := wpPlan_mix hSw pl (rest := rest) (hf.put hd v) hr (fun w' h => (hF w' h).right) hC k
                      refine ⟨o, v, hR, ?_, ih⟩
                      rcases Bool.or_eq_true_iff.1 hp with hp | hp
                      · exact .inr (.inl ⟨hwa, fun w' _ => by rw [hf.exec hk]; exact opQ_sound hq (pureO_any hp (hF w hSw).left)⟩)
                      · exact .inl ⟨.inl ⟨hwa, fun w' hw' => by rw [hf.exec hk]; exact opQ_sound hq (hF w' hw').left⟩, hSw, hp⟩
                  | false =>
                    simp only [cond_false, Option.some.injEq, Prod.mk.injEq] at he
                    obtain ⟨rfl, rfl, rfl, rfl⟩ := he
                    have ih := wpPlan_mix hSw pl (rest := rest) (hf.put hd v) hr hF hC.right k
                    show wpOp P R _ i (fun a' w' => (m.contains i = false → S w') ∧ wpPlan P R m S K (pl ++ rest) a' w') a w
                    unfold wpOp
                    simp only [hR, hwa, if_true]
                    refine .inl ?_
                    unfold Oper.wp
                    rw [hf.exec hk, opQ_sound hq hC.left]
                    exact ⟨fun _ => hSw, ih⟩

def keys (fl : FL) : List Nat := fl.map (·.1)
def evXK (P : Program) (R : Array Oper) (N : Nat) (m : List Nat) (pl : List (Nat × Bool)) (fl : FL) (os : List Value) (keep : List Nat) : Option (FL × List Obl × List Obl) :=
  match evX P R N m pl fl os with
  | some (fl', oF, oC, []) => match keepF fl' keep with
    | some r => some (r, oF, oC)
    | none => none
  | _ => none
theorem evXK_spec {os : List Value} {keep : List Nat} {fl' : FL} {oF oC : List Obl} (h : evXK P R N m pl fl os keep = some (fl', oF, oC)) : ∃ fl1, evX P R N m pl fl os = some (fl1, oF, oC, []) ∧ keepF fl1 keep = some fl' := by
  unfold evXK at h
  split at h
  · rename_i fl1 oF1 oC1 he
    split at h
    · rename_i r hk
      simp only [Option.some.injEq, Prod.mk.injEq] at h
      obtain ⟨rfl, rfl, rfl⟩ := h
      exact ⟨fl1, he, hk⟩
    · cases h
  · cases h

/-- n quiet operations: over any S. -/
theorem p_qS (n : Nat) (os : List Value) (fl' : FL) (oF oC : List Obl) (hSw : S w) (hf : Fr a N fl ds) (he : evXK P R N m (pl.take n) fl os (keys fl') = some (fl', oF, oC)) (hF : ∀ w', S w' → HA w' oF) (hC : HA w oC)
    (k : ∀ a', Fr a' N fl' ds → wpPlan P R m S K (pl.drop n) a' w) : wpPlan P R m S K pl a w := by
  obtain ⟨fl1, h1, h2⟩ := evXK_spec he
  have := wpPlan_mix (K := K) (rest := pl.drop n) hSw (pl.take n) hf h1 hF hC fun a' hf' => k a' (hf'.keep h2)
  rwa [List.take_append_drop] at this
/-- ... where nothing turns the world. -/
theorem p_qE (n : Nat) (os : List Value) (fl' : FL) (oF oC : List Obl) (hf : Fr a N fl ds) (he : evXK P R N m (pl.take n) fl os (keys fl') = some (fl', oF, oC)) (hF : HA w oF) (hC : HA w oC)
    (k : ∀ a', Fr a' N fl' ds → wpPlan P R m (fun x => x = w) K (pl.drop n) a' w) : wpPlan P R m (fun x => x = w) K pl a w :=
  p_qS n os fl' oF oC rfl hf he (fun w' e => by subst e; exact hF) hC k
/-- ... of a region that draws nothing. -/
theorem p_qn (n : Nat) (os : List Value) (fl' : FL) (oC : List Obl) (hf : Fr a N fl ds) (he : evXK P R N m (pl.take n) fl os (keys fl') = some (fl', [], oC)) (hC : HA w oC)
    (k : ∀ a', Fr a' N fl' ds → wpPlan P R m (fun _ => True) K (pl.drop n) a' w) : wpPlan P R m (fun _ => True) K pl a w :=
  p_qS n os fl' [] oC trivial hf he (fun _ _ => .nil) hC k
/-- The rest of a region is quiet. -/
theorem p_qz (os : List Value) (fl' : FL) (oC : List Obl) (hf : Fr a N fl ds) (he : evXK P R N m pl fl os (keys fl') = some (fl', [], oC)) (hC : HA w oC)
    (k : ∀ a', Fr a' N fl' ds → K a' w) : wpPlan P R m (fun _ => True) K pl a w := by
  obtain ⟨fl1, h1, h2⟩ := evXK_spec he
  have := wpPlan_mix (S := fun _ => True) (K := K) (rest := []) trivial pl hf h1 (fun _ _ => .nil) hC fun a' hf' => k a' (hf'.keep h2)
  rwa [List.append_nil] at this
theorem p_qzE (os : List Value) (fl' : FL) (oF oC : List Obl) (hf : Fr a N fl ds) (he : evXK P R N m pl fl os (keys fl') = some (fl', oF, oC)) (hF : HA w oF) (hC : HA w oC)
    (k : ∀ a', Fr a' N fl' ds → K a' w) : wpPlan P R m (fun x => x = w) K pl a w := by
  obtain ⟨fl1, h1, h2⟩ := evXK_spec he
  have := wpPlan_mix (S := fun x => x = w) (K := K) (rest := []) rfl pl hf h1 (fun w' e => by subst e; exact hF) hC fun a' hf' => k a' (hf'.keep h2)
  rwa [List.append_nil] at this
/-- Quiet operations that wait for all that is taken first. -/
def evL (P : Program) (R : Array Oper) (N : Nat) (m : List Nat) (pl : List (Nat × Bool)) (fl : FL) (os : List Value) (keep : List Nat) : Option (FL × List Obl) :=
  bif pl.all (fun p => m.contains p.1 && !p.2) then evK P R N (pl.map (·.1)) fl os keep else none
theorem p_qL (n : Nat) (os : List Value) (fl' : FL) (oC : List Obl) (hf : Fr a N fl ds) (he : evL P R N m (pl.take n) fl os (keys fl') = some (fl', oC)) (hC : HA w oC)
    (k : ∀ a', Fr a' N fl' ds → wpPlan P R m S K (pl.drop n) a' w) : wpPlan P R m S K pl a w := by
  unfold evL at he
  cases ha : (pl.take n).all (fun p => m.contains p.1 && !p.2) with
  | false => rw [ha] at he; cases he
  | true =>
    rw [ha] at he
    have h1 : ∀ p ∈ pl.take n, m.contains p.1 = true ∧ p.2 = false := fun p hp => by
      have := List.all_eq_true.1 ha p hp
      simpa using this
    refine p_runL n os (keys fl') (List.all_eq_true.2 fun p hp => (h1 p hp).1) hf (List.all_eq_true.2 fun p hp => ?_) he hC k
    rw [(h1 p hp).2]; rfl
theorem p_qLz (os : List Value) (fl' : FL) (oC : List Obl) (hf : Fr a N fl ds) (he : evL P R N m pl fl os (keys fl') = some (fl', oC)) (hC : HA w oC)
    (k : ∀ a', Fr a' N fl' ds → K a' w) : wpPlan P R m S K pl a w :=
  p_qL pl.length os fl' oC hf (by rw [List.take_length]; exact he) hC fun a' hf' => p_done (by simp) (k a' hf')

/-! ### Whole regions -/
def evR (P : Program) (c : Code) (N : Nat) (fl : FL) (os : List Value) (keep : List Nat) : Option (FL × List Obl × List Obl) :=
  bif isReg false c && noDefer (cops c) then evXK P (cops c) N [] (planSeq c) fl os keep else none
theorem w_q (os : List Value) (fl' : FL) (oC : List Obl) (hf : Fr a N fl ds) (he : evR P c N fl os (keys fl') = some (fl', [], oC)) (hC : HA w oC)
    (k : ∀ a', Fr a' N fl' ds → Q .normal a' w) : c.cw ro P Q a w := by
  unfold evR at he
  cases hc : (isReg false c && noDefer (cops c)) with
  | false => rw [hc] at he; cases he
  | true => rw [hc] at he; exact w_reg hc (p_qz os fl' oC hf he hC k)
def evSR (P : Program) (c : Code) (N : Nat) (fl : FL) (os : List Value) (keep : List Nat) : Option (FL × List Obl × List Obl) :=
  bif isSeq c then evR P (cl c) N fl os keep else none
theorem w_sq (os : List Value) (fl' : FL) (oC : List Obl) (hf : Fr a N fl ds) (he : evSR P c N fl os (keys fl') = some (fl', [], oC)) (hC : HA w oC)
    (k : ∀ a', Fr a' N fl' ds → (cr c).cw ro P Q a' w) : c.cw ro P Q a w := by
  unfold evSR at he
  cases hc : isSeq c with
  | false => rw [hc] at he; cases he
  | true => rw [hc] at he; exact w_seq hc (w_q os fl' oC hf he hC fun a' hf' => n_then (k a' hf'))
def evRD (P : Program) (c : Code) (pl : List (Nat × Bool)) (m : List Nat) (N : Nat) (fl : FL) (os : List Value) (keep : List Nat) : Option (FL × List Obl × List Obl) :=
  bif P.follows .mixedOrders && drawOK c pl m then evXK P (cops c) N m pl fl os keep else none
theorem w_qD (pl : List (Nat × Bool)) (m : List Nat) (os : List Value) (fl' : FL) (oF oC : List Obl) (hf : Fr a N fl ds) (he : evRD P c pl m N fl os (keys fl') = some (fl', oF, oC)) (hF : HA w.drew oF) (hC : HA w.drew oC)
    (k : ∀ a', Fr a' N fl' ds → Q .normal a' w.drew) : c.cw ro P Q a w := by
  unfold evRD at he
  cases hc : (P.follows .mixedOrders && drawOK c pl m) with
  | false => rw [hc] at he; cases he
  | true =>
    rw [hc] at he
    simp only [Bool.and_eq_true] at hc
    exact w_regD hc.1 pl m (fun x => x = w.drew) hc.2 rfl (p_qzE os fl' oF oC hf he hF hC k)
def evSRD (P : Program) (c : Code) (pl : List (Nat × Bool)) (m : List Nat) (N : Nat) (fl : FL) (os : List Value) (keep : List Nat) : Option (FL × List Obl × List Obl) :=
  bif isSeq c then evRD P (cl c) pl m N fl os keep else none
theorem w_sqD (pl : List (Nat × Bool)) (m : List Nat) (os : List Value) (fl' : FL) (oF oC : List Obl) (hf : Fr a N fl ds) (he : evSRD P c pl m N fl os (keys fl') = some (fl', oF, oC)) (hF : HA w.drew oF) (hC : HA w.drew oC)
    (k : ∀ a', Fr a' N fl' ds → (cr c).cw ro P Q a' w.drew) : c.cw ro P Q a w := by
  unfold evSRD at he
  cases hc : isSeq c with
  | false => rw [hc] at he; cases he
  | true => rw [hc] at he; exact w_seq hc (w_qD pl m os fl' oF oC hf he hF hC fun a' hf' => n_then (k a' hf'))
/-- A region behind which more stands. -/
theorem w_sr (hc : (isSeq c && (isReg false (cl c) && noDefer (cops (cl c)))) = true) (k : wpPlan P (cops (cl c)) [] (fun _ => True) (fun a w => Exit.then (fun a w => (cr c).cw ro P Q a w) Q .normal a w) (planSeq (cl c)) a w) : c.cw ro P Q a w := by
  simp only [Bool.and_eq_true] at hc
  exact w_seq hc.1 (w_reg (by simp only [Bool.and_eq_true]; exact hc.2) k)
variable {K' : Act → World → Prop}
/-- ... and then. -/
theorem p_qt (os : List Value) (fl' : FL) (oC : List Obl) (hf : Fr a N fl ds) (he : evXK P R N m pl fl os (keys fl') = some (fl', [], oC)) (hC : HA w oC)
    (k : ∀ a', Fr a' N fl' ds → K' a' w) : wpPlan P R m (fun _ => True) (fun a w => Exit.then K' Q .normal a w) pl a w := p_qz os fl' oC hf he hC fun a' hf' => n_then (k a' hf')
theorem p_qtE (os : List Value) (fl' : FL) (oF oC : List Obl) (hf : Fr a N fl ds) (he : evXK P R N m pl fl os (keys fl') = some (fl', oF, oC)) (hF : HA w oF) (hC : HA w oC)
    (k : ∀ a', Fr a' N fl' ds → K' a' w) : wpPlan P R m (fun x => x = w) (fun a w => Exit.then K' Q .normal a w) pl a w := p_qzE os fl' oF oC hf he hF hC fun a' hf' => n_then (k a' hf')
theorem p_dt (hp : pl.isEmpty = true) (k : K' a w) : wpPlan P R m S (fun a w => Exit.then K' Q .normal a w) pl a w := p_done hp (n_then k)
/-- Quiet operations that look at no memory, behind stores. -/
def evP (P : Program) (R : Array Oper) (N : Nat) (pl : List (Nat × Bool)) (fl : FL) (os : List Value) (keep : List Nat) : Option (FL × List Obl) :=
  bif pl.all (fun p => p.2) then evK P R N (pl.map (·.1)) fl os keep else none
theorem p_qP (n : Nat) (os : List Value) (fl' : FL) (oF : List Obl) (hf : Fr a N fl ds) (he : evP P R N (pl.take n) fl os (keys fl') = some (fl', oF)) (hF : ∀ w', HA w' oF)
    (k : ∀ a', Fr a' N fl' ds → wpPlan P R m S K (pl.drop n) a' w) : wpPlan P R m S K pl a w := by
  unfold evP at he
  cases ha : (pl.take n).all (fun p => p.2) with
  | false => rw [ha] at he; cases he
  | true =>
    rw [ha] at he
    refine p_firstP n os (keys fl') hf (List.all_eq_true.2 fun p hp => ?_) he hF k
    rw [List.all_eq_true.1 ha p hp]; rfl
end Go.Sx
