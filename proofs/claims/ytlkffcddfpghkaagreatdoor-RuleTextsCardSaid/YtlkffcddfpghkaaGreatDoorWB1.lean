/-
 A part of the walk and of the plain law of one given statement. No condition.
-/
import Derived.Test.YtlkffcddfpghkaaGreatDoorRE
import Derived.Test.YtlkffcddfpghkaaGreatDoorProg
set_option linter.unusedVariables false
set_option linter.unusedSimpArgs false
set_option maxRecDepth 100000
namespace Go.K
open Go.Sl Go.Sx Go.Proofs
theorem G112_span (x : Fct) : G112 LF x = some (spanB x) := by
 unfold G112 spanB
 have q1 : decide (x.2.1 ≥ -1000000000000) = decide (-1000000000000 ≤ x.2.1) := rfl
 by_cases h1 : -1000000000000 ≤ x.2.1
 ·by_cases h2 : x.2.1 ≤ x.2.2
  ·by_cases h3 : x.2.2 ≤ 1000000000000
   ·simp only [q1, ze h1, ze h2, ze h3, zt, ze (And.intro h1 (And.intro h2 h3))]
   ·simp only [q1, ze h1, ze h2, zd h3, zt, zd (fun h : _ ∧ _ ∧ _ => h3 h.2.2)]
  ·simp only [q1, ze h1, zd h2, zt, zf, zd (fun h : _ ∧ _ ∧ _ => h2 h.2.1)]
 ·simp only [q1, zd h1, zf, zd (fun h : _ ∧ _ ∧ _ => h1 h.1)]
theorem getD_none {ρ : Type} (o : Option ρ) (d : ρ) : (match o with | some e => some e | none => some d) = some (o.getD d) := by cases o <;> rfl
theorem unlS_eq (l : List Rl) (u : List ByteArray) (s : ByteArray) (k : Nat) : unlS l u s k = bif (!hasR l s) || (u.take k).any (fun x => decide (s = x)) then some 42 else none := by
 unfold unlS
 have : (fun x : ByteArray => decide (x = s)) = fun x => decide (s = x) := by funext x; exact decide_eq_decide.2 eq_comm
 rw [this]
theorem iter_two {ρ : Type} {f : Int → Option (Int ⊕ ρ)} {e0 e1 : Int} {g : Int → ρ} {fin : Option ρ} (h0 : f 0 = some (if e0 = 0 then .inl 1 else .inr (g e0))) (h1 : f 1 = some (if e1 = 0 then .inl 2 else .inr (g e1))) (h2 : f 2 = outR fin) :
  iter LF f 0 = if e0 = 0 then (if e1 = 0 then fin else some (g e1)) else some (g e0) := by
 have key : ∀ n, iter (n + 3) f 0 = if e0 = 0 then (if e1 = 0 then fin else some (g e1)) else some (g e0) := by
  intro n
  simp only [iter, h0]
  by_cases z0 : e0 = 0
  ·simp only [z0, if_true, h1]
   by_cases z1 : e1 = 0
   ·simp only [z1, if_true, h2]
    cases fin <;> rfl
   ·simp only [z1, if_false]
  ·simp only [z0, if_false]
 exact key 9223372036854775805
theorem scan_none {σ ρ : Type} {g : σ → Nat → Option ρ} : ∀ {l : List σ} {i : Nat}, scan g l i = none → ∀ j x, l[j]? = some x → g x (i + j) = none
 | [], _, _, _, _, hx => by simp at hx
 | y :: l, i, h, j, x, hx => by
  simp only [scan] at h
  cases hg : g y i with
  | some e => rw [hg] at h; cases h
  | none =>
   rw [hg] at h
   cases j with
   | zero => simp at hx; subst hx; exact hg
   | succ j =>
    have := scan_none h j x (by simpa using hx)
    rwa [show i + 1 + j = i + (j + 1) by omega] at this
theorem cond_short {f : List Fct} {c : Cnd} (h : condE f c = 0) : 1 ≤ c.length ∧ c.length ≤ 30 ∧ ∀ i t, c[i]? = some t → condS f t i = none := by
 unfold condE at h
 split at h
 ·cases h
 ·split at h
  ·cases h
  ·rename_i h1 h2
   refine ⟨List.length_pos_iff.2 h2, by omega, fun i t ht => ?_⟩
   cases hs : scan (condS f) c 0 with
   | none =>
    have := scan_none hs i t ht
    rwa [Nat.zero_add] at this
   | some e =>
    rw [hs] at h
    simp only [Option.getD_some] at h
    subst h
    exfalso
    have key : ∀ (l : Cnd) (i : Nat), scan (condS f) l i ≠ some 0 := by
     intro l
     induction l with
     | nil => intro i; simp [scan]
     | cons t l ih =>
      intro i
      simp only [scan]
      cases hc : condS f t i with
      | none => exact ih (i + 1)
      | some e =>
       unfold condS at hc
       intro he
       simp only [zi] at he
       subst he
       cases h1 : shp t i with
       | false => rw [h1] at hc; cases hc
       | true =>
        rw [h1] at hc
        simp only [Bool.not_true, zf] at hc
        revert hc
        cases cmpK t.1 && !f.any (fun x => decide (x.1 = t.2.2.2.1)) <;> simp
    exact key c 0 hs
theorem rule_ok {f : List Fct} {l : List Rl} {i : Nat} {r : Rl} (h : ruleE f l i r = 0) : nmB r.1 = true ∧ hasR (l.take i) r.1 = false ∧ (0 ≤ r.2.1 ∧ r.2.1 ≤ r.2.2.1 ∧ r.2.2.1 ≤ 100000) ∧ condE f r.2.2.2.1 = 0 ∧ condE f r.2.2.2.2.1 = 0 ∧ r.2.2.2.2.2.length ≤ 6 ∧ (scan (unlS (l.take i) r.2.2.2.2.2) r.2.2.2.2.2 0).getD 0 = 0 := by
 unfold ruleE at h
 cases h1 : !nmB r.1 || hasR (l.take i) r.1 with
 | true => rw [h1] at h; cases h
 | false =>
  rw [h1] at h
  simp only [zf] at h
  simp only [Bool.or_eq_false_iff, Bool.not_eq_false'] at h1
  split at h
  ·cases h
  ·rename_i h2
   split at h
   ·rename_i h3; exact absurd h h3
   ·rename_i h3
    split at h
    ·rename_i h4; exact absurd h h4
    ·rename_i h4
     split at h
     ·cases h
     ·rename_i h5
      exact ⟨h1.1, h1.2, by omega, by simpa using h3, by simpa using h4, by omega, h⟩
theorem rules_ok {f : List Fct} {l : List Rl} (h : scan (ruleS f l) l 0 = none) {i : Nat} {r : Rl} (hr : l[i]? = some r) : ruleE f l i r = 0 := by
 have := scan_none h i r hr
 rw [Nat.zero_add] at this
 unfold ruleS at this
 split at this
 ·cases this
 ·rename_i h2; simpa using h2
theorem conds_short {f : List Fct} {l : List Rl} (h : scan (ruleS f l) l 0 = none) : ∀ c ∈ condsL l, List.length c ≤ 1000 := by
 intro c hc
 unfold condsL at hc
 obtain ⟨r, hr, hc⟩ := List.mem_flatMap.1 hc
 obtain ⟨i, hi, rfl⟩ := List.mem_iff_getElem.1 hr
 obtain ⟨_, _, _, h1, h2, _⟩ := rule_ok (rules_ok h (List.getElem?_eq_getElem hi))
 simp only [List.mem_cons, List.not_mem_nil, or_false] at hc
 rcases hc with rfl | rfl
 ·have := (cond_short h1).2.1; omega
 ·have := (cond_short h2).2.1; omega
theorem G113_rule (c : Cd) (i : Nat) (r : Rl) (hr : c.2.2[i]? = some r) (hf : c.2.1.length < LF) (hl : c.2.2.length ≤ 1000) : G113 LF (c, (i : Int)) = some (ruleE c.2.1 c.2.2 i r) := by
 have hi := lt_of_get hr
 have hi' : i < LF := by show i < 9223372036854775808; omega
 have htl : (c.2.2.take i).length < LF := by rw [List.length_take]; show min i c.2.2.length < 9223372036854775808; omega
 unfold G113 ruleE
 simp only [getI_nat hr, zb, G94_nm, subI_take (Nat.le_of_lt hi), G36_fnd _ _ _ _ htl, fnd_nn, fnd_neg]
 cases hnm : nmB r.1 with
 | false => simp [jl]
 | true =>
  simp only [Bool.not_true, zf, jl, Bool.false_or]
  cases hh : hasR (c.2.2.take i) r.1 with
  | true => rfl
  | false =>
   simp only [zf]
   by_cases hd : r.2.1 < 0 ∨ r.2.1 > r.2.2.1 ∨ r.2.2.1 > 100000
   ·rw [if_pos hd]
    by_cases d1 : r.2.1 < 0
    ·simp [d1, jl]
    ·by_cases d2 : r.2.1 > r.2.2.1
     ·simp [d1, d2, jl]
     ·have d3 : r.2.2.1 > 100000 := by omega
      simp [d1, d2, d3, jl]
   ·rw [if_neg hd]
    have d1 : ¬ r.2.1 < 0 := by omega
    have d2 : ¬ r.2.1 > r.2.2.1 := by omega
    have d3 : ¬ r.2.2.1 > 100000 := by omega
    simp only [d1, d2, d3, decide_false, zf, jl]
    refine (iter_two (e0 := condE c.2.1 r.2.2.2.1) (e1 := condE c.2.1 r.2.2.2.2.1) (g := fun e => e) (fin := if 6 < r.2.2.2.2.2.length then some 2 else some ((scan (unlS (c.2.2.take i) r.2.2.2.2.2) r.2.2.2.2.2 0).getD 0)) ?_ ?_ ?_).trans ?_
    ·simp only [show decide ((0 : Int) < 2) = true by rfl, decide_true, zt, G29_cond _ _ hf, zb]
     by_cases h0 : condE c.2.1 r.2.2.2.1 = 0 <;> simp [h0]
     rfl
    ·simp only [show decide ((1 : Int) < 2) = true by rfl, show decide ((1 : Int) = 0) = false by rfl, decide_true, zt, zf, G29_cond _ _ hf, zb]
     by_cases h0 : condE c.2.1 r.2.2.2.2.1 = 0 <;> simp [h0]
     rfl
    ·simp only [show decide ((2 : Int) < 2) = false by rfl, zf]
     congr 1
     by_cases hu6 : 6 < r.2.2.2.2.2.length
     ·have : decide ((r.2.2.2.2.2.length : Int) > 6) = true := ze (by omega)
      simp only [this, zt, hu6, if_true]
     ·have : decide ((r.2.2.2.2.2.length : Int) > 6) = false := zd (by omega)
      have hu : r.2.2.2.2.2.length < LF := by show r.2.2.2.2.2.length < 9223372036854775808; omega
      simp only [this, zf, hu6, if_false]
      refine (iter_scan (unlS (c.2.2.take i) r.2.2.2.2.2) r.2.2.2.2.2 (some 0) ?_ ?_ hu).trans (getD_none _ _)
      ·intro k s hk _
       have hkl := lt_of_get hk
       have htu : (r.2.2.2.2.2.take k).length < LF := by rw [List.length_take]; omega
       simp only [dlt hkl, zt, getI_nat hk, zb, subI_take (Nat.le_of_lt hkl), G180_any _ _ htu, succ_W (Nat.lt_of_le_of_lt hkl hu), unlS_eq]
       cases hasR (c.2.2.take i) s <;> simp [jl]
       cases (r.2.2.2.2.2.take k).any fun x => decide (s = x) <;> rfl
      ·intro _
       simp only [dnlt]; rfl
    ·by_cases h0 : condE c.2.1 r.2.2.2.1 = 0
     ·by_cases h1 : condE c.2.1 r.2.2.2.2.1 = 0
      ·by_cases hu6 : 6 < r.2.2.2.2.2.length <;> simp [h0, h1, hu6]
      ·simp [h0, h1]
     ·simp [h0]
theorem G31_code (c : Cd) : G31 LF c = some (codeE c) := by
 unfold G31 codeE
 simp only [G94_nm, zb]
 cases nmB c.1 with
 | false => rfl
 | true =>
  simp only [Bool.not_true, zf]
  by_cases h0 : c.2.1 = []
  ·simp [h0]
  ·have e0 : decide ((c.2.1.length : Int) = 0) = false := zd (by have := List.length_pos_iff.2 h0; omega)
   rw [if_neg h0]
   simp only [e0, zf]
   by_cases h1 : 6 < c.2.1.length ∨ 12 < c.2.2.length
   ·rw [if_pos h1]
    by_cases h2 : 6 < c.2.1.length
    ·have : decide ((c.2.1.length : Int) > 6) = true := ze (by omega)
     simp [this, jl]
    ·have a1 : decide ((c.2.1.length : Int) > 6) = false := zd (by omega)
     have a2 : decide ((c.2.2.length : Int) > 12) = true := ze (by omega)
     simp [a1, a2, jl]
   ·rw [if_neg h1]
    have a1 : decide ((c.2.1.length : Int) > 6) = false := zd (by omega)
    have a2 : decide ((c.2.2.length : Int) > 12) = false := zd (by omega)
    simp only [a1, a2, zf, jl]
    have hf6 : c.2.1.length ≤ 6 := by omega
    have hl12 : c.2.2.length ≤ 12 := by omega
    have hf : c.2.1.length < LF := by show c.2.1.length < 9223372036854775808; omega
    have hl : c.2.2.length < LF := by show c.2.2.length < 9223372036854775808; omega
    refine (iter_scan (factS c.2.1) c.2.1 (match scan (ruleS c.2.1 c.2.2) c.2.2 0 with
      | some e => some e
      | none => some (if manyL (startsL c.2.1 (condsL c.2.2)) > 4000 then 2 else 0)) ?_ ?_ hf).trans ?_
    ·intro i x hx _
     have hi := lt_of_get hx
     have htl : (c.2.1.take i).length < LF := by rw [List.length_take]; omega
     simp only [dlt hi, zt, getI_nat hx, zb, G94_nm, subI_take (Nat.le_of_lt hi), G110_plc _ _ htl, plF_nn, G112_span, succ_W (Nat.lt_of_le_of_lt hi hf)]
     unfold factS
     cases nmB x.1 with
     | false => rfl
     | true =>
      simp only [Bool.not_true, zf, jl, Bool.false_or]
      cases (c.2.1.take i).any fun y => decide (y.1 = x.1) with
      | true => rfl
      | false => simp only [zf]; cases spanB x <;> rfl
    ·intro _
     simp only [dnlt, zf]
     congr 1
     refine (iter_scan (ruleS c.2.1 c.2.2) c.2.2 (some (if manyL (startsL c.2.1 (condsL c.2.2)) > 4000 then 2 else 0)) ?_ ?_ hl).trans ?_
     ·intro i r hr _
      have hi := lt_of_get hr
      simp only [dlt hi, zt, zb, G113_rule c i r hr hf (by omega), succ_W (Nat.lt_of_le_of_lt hi hl)]
      unfold ruleS
      by_cases hz : ruleE c.2.1 c.2.2 i r = 0 <;> simp [hz]
     ·intro hs
      simp only [dnlt, zf]
      congr 1
      have hcl : (condsL c.2.2).length ≤ 1000 := by
       have := flat_len (fun r : Rl => [r.2.2.2.1, r.2.2.2.2.1]) 2 c.2.2 (fun _ _ => by simp)
       unfold condsL; omega
      simp only [G116_conds _ _ _ (show c.2.2.length ≤ 1000 by omega), zb, G115_starts _ _ (show c.2.1.length ≤ 1000 by omega) hcl (conds_short hs), G114_many _ (show (startsL c.2.1 (condsL c.2.2)).length ≤ 1000 by unfold startsL; rw [List.length_map]; omega)]
      by_cases hm : manyL (startsL c.2.1 (condsL c.2.2)) > 4000 <;> simp [hm]
     ·cases scan (ruleS c.2.1 c.2.2) c.2.2 0 <;> rfl
    ·cases scan (factS c.2.1) c.2.1 0 with
     | some e => rfl
     | none => cases scan (ruleS c.2.1 c.2.2) c.2.2 0 <;> rfl
end Go.K
namespace Go.K
open Go.Sl Go.Sx Go.Proofs
theorem G126_in (a b c : Int) : G126 LF (a, (b, c)) = some (decide (b ≤ a ∧ a ≤ c)) := by
 unfold G126
 by_cases h1 : b ≤ a <;> by_cases h2 : a ≤ c <;> simp [h1, h2]
theorem G168_words : G168 LF () = some words10 := rfl
theorem G84_any (l : List ByteArray) (s : ByteArray) (hl : l.length < LF) : G84 LF (l, s) = some (l.any fun x => decide (x = s)) := by
 unfold G84
 refine (iter_find (fun x => decide (x = s)) (fun _ => true) l (some false) ?_ ?_ hl).trans ?_
 ·intro i x hx
  have hi := lt_of_get hx
  simp only [dlt hi, zt, getI_nat hx, zb, eqD, succ_W (Nat.lt_of_le_of_lt hi hl)]
  cases decide (x = s) <;> rfl
 ·simp only [dnlt]; rfl
 ·rw [← idx_any]; cases idx (fun x => decide (x = s)) l 0 <;> rfl
theorem G99_nm (s : ByteArray) : G99 LF s = some (nmB s) := by
 unfold G99
 simp only [G168_words, zb, G84_any _ _ (show words10.length < LF by decide)]
 unfold nmB
 by_cases h1 : 1 ≤ s.size ∧ s.size ≤ 12
 ·have hs : s.size < LF := by show s.size < 9223372036854775808; omega
  have e1 : decide ((s.size : Int) < 1) = false := zd (by omega)
  have e2 : decide ((s.size : Int) > 12) = false := zd (by omega)
  have ew : (words10.any fun x => decide (x = s)) = words10.any fun w => decide (s = w) := by
   congr 1; funext x; exact decide_eq_decide.2 eq_comm
  simp only [e1, e2, ew, ze h1, zf, jl, jr, Bool.true_and]
  cases hw : words10.any fun x => decide (s = x) with
  | true => rfl
  | false =>
   simp only [zf, Bool.not_false, Bool.true_and]
   have hz : s.data.toList.length = s.size := (size_len s).symm
   refine (iter_scan chB s.data.toList (some true) ?_ ?_ (by rw [hz]; exact hs)).trans ?_
   ·intro i b hb _
    have hi : i < s.size := by rw [← hz]; exact lt_of_get hb
    simp only [dlt hi, zt, byteAt_nat hb, zb, succ_W (Nat.lt_of_le_of_lt hi hs)]
    have q1 : decide ((97 : Int) ≤ (b.toNat : Int)) = decide (97 ≤ b.toNat) := decide_eq_decide.2 (by omega)
    have q2 : decide ((b.toNat : Int) ≤ 122) = decide (b.toNat ≤ 122) := decide_eq_decide.2 (by omega)
    have q3 : decide ((48 : Int) ≤ (b.toNat : Int)) = decide (48 ≤ b.toNat) := decide_eq_decide.2 (by omega)
    have q4 : decide ((b.toNat : Int) ≤ 57) = decide (b.toNat ≤ 57) := decide_eq_decide.2 (by omega)
    have q5 : decide ((i : Int) = 0) = decide (i = 0) := decide_eq_decide.2 (by omega)
    unfold chB letB digB
    rw [q1, q2, q3, q4, q5]
    cases decide (97 ≤ b.toNat) <;> cases decide (b.toNat ≤ 122) <;> cases decide (48 ≤ b.toNat) <;> cases decide (b.toNat ≤ 57) <;> cases decide (i = 0) <;> rfl
   ·intro _
    rw [hz]
    simp only [dnlt]; rfl
   ·cases hw2 : scan chB s.data.toList 0 with
    | none => rfl
    | some e => exact congrArg some (chB_false hw2)
 ·rw [zd h1]
  simp only [Bool.false_and]
  by_cases h2 : s.size < 1
  ·have e1 : decide ((s.size : Int) < 1) = true := ze (by omega)
   simp only [e1, zt, jl]
  ·have e1 : decide ((s.size : Int) < 1) = false := zd (by omega)
   have e2 : decide ((s.size : Int) > 12) = true := ze (by omega)
   simp only [e1, e2, zt, zf, jl]
theorem G117_span (n : ByteArray) (a b : Int) : G117 LF (a, b) = some (spanB (n, (a, b))) := by
 unfold G117 spanB
 by_cases h1 : -1000000000000 ≤ a
 ·by_cases h2 : a ≤ b
  ·by_cases h3 : b ≤ 1000000000000
   ·simp only [ze h1, ze h2, ze h3, zt, ze (And.intro h1 (And.intro h2 h3))]
   ·simp only [ze h1, ze h2, zd h3, zt, zd (fun h : _ ∧ _ ∧ _ => h3 h.2.2)]
  ·simp only [ze h1, zd h2, zt, zf, zd (fun h : _ ∧ _ ∧ _ => h2 h.2.1)]
 ·simp only [zd h1, zf, zd (fun h : _ ∧ _ ∧ _ => h1 h.1)]
theorem G98_cmp (k : Int) : G98 LF k = some (cmpK k) := by
 unfold G98 cmpK
 by_cases h1 : k = 1
 ·subst h1; rfl
 ·by_cases h2 : k = 2
  ·subst h2; rfl
  ·by_cases h3 : k = 3
   ·subst h3; rfl
   ·have : ¬ (1 ≤ k ∧ k ≤ 3) := by omega
    simp [h1, h2, h3, this]
theorem G97_shp (t : Tm) (i : Nat) (hi : i < LF) : G97 LF (t, (i : Int)) = some (shp t i) := by
 obtain ⟨k, a, b, s, n⟩ := t
 have hp : w64 ((i : Int) - 1) = (i : Int) - 1 := (by have : i < 9223372036854775808 := hi; exact w64_id (by omega) (by omega))
 unfold G97 shp
 simp only [G126_in, zb, hp, emp_eq]
 have e1 : decide (k = 1) = true → 1 ≤ k ∧ k ≤ 3 := fun h => by have := of_decide_eq_true h; omega
 by_cases c0 : s = bts []
 ·by_cases c1 : n = 0
  ·simp only [c0, c1, decide_true, zt, jl]
   by_cases k0 : k = 0
   ·subst k0; by_cases c2 : a = 0 <;> by_cases c3 : b = 0 <;> simp [c2, c3]
   ·by_cases k1 : 1 ≤ k ∧ k ≤ 3
    ·have hk : jn (ρ := Bool) (cond (decide (k = 1)) (some (.inl (decide (k = 1)))) (cond (decide (k = 2)) (some (.inl (decide (k = 2)))) (some (.inl (decide (k = 3)))))) = fun f => f true := by
      funext f
      have : k = 1 ∨ k = 2 ∨ k = 3 := by omega
      rcases this with rfl | rfl | rfl <;> rfl
     simp only [k0, decide_false, zf, hk, if_false, k1, if_true, zt]
     by_cases c2 : a = 0 <;> by_cases c3 : b = 0 <;> simp [c2, c3]
    ·have hk : jn (ρ := Bool) (cond (decide (k = 1)) (some (.inl (decide (k = 1)))) (cond (decide (k = 2)) (some (.inl (decide (k = 2)))) (some (.inl (decide (k = 3)))))) = fun f => f false := by
      funext f
      have h1 : ¬ k = 1 := by omega
      have h2 : ¬ k = 2 := by omega
      have h3 : ¬ k = 3 := by omega
      simp [h1, h2, h3, jl]
     simp only [k0, decide_false, zf, hk, if_false, k1]
     by_cases k4 : k = 4
     ·subst k4; by_cases c2 : 0 ≤ a ∧ a ≤ (i : Int) - 1 <;> by_cases c3 : b = 0 <;> simp [c2, c3]
     ·by_cases k5 : k = 5
      ·subst k5; by_cases c2 : 0 ≤ a ∧ a ≤ (i : Int) - 1 <;> by_cases c3 : 0 ≤ b ∧ b ≤ (i : Int) - 1 <;> simp [c2, c3, jl]
      ·by_cases k6 : k = 6
       ·subst k6; by_cases c2 : 0 ≤ a ∧ a ≤ (i : Int) - 1 <;> by_cases c3 : 0 ≤ b ∧ b ≤ (i : Int) - 1 <;> simp [c2, c3, jl]
       ·simp [k4, k5, k6, jl]
  ·simp only [c0, c1, decide_true, decide_false, zt, jl]
   by_cases k0 : k = 0
   ·subst k0; by_cases c2 : a = 0 <;> by_cases c3 : b = 0 <;> simp [c2, c3]
   ·by_cases k1 : 1 ≤ k ∧ k ≤ 3
    ·have hk : jn (ρ := Bool) (cond (decide (k = 1)) (some (.inl (decide (k = 1)))) (cond (decide (k = 2)) (some (.inl (decide (k = 2)))) (some (.inl (decide (k = 3)))))) = fun f => f true := by
      funext f
      have : k = 1 ∨ k = 2 ∨ k = 3 := by omega
      rcases this with rfl | rfl | rfl <;> rfl
     simp only [k0, decide_false, zf, hk, if_false, k1, if_true, zt]
     by_cases c2 : a = 0 <;> by_cases c3 : b = 0 <;> simp [c2, c3]
    ·have hk : jn (ρ := Bool) (cond (decide (k = 1)) (some (.inl (decide (k = 1)))) (cond (decide (k = 2)) (some (.inl (decide (k = 2)))) (some (.inl (decide (k = 3)))))) = fun f => f false := by
      funext f
      have h1 : ¬ k = 1 := by omega
      have h2 : ¬ k = 2 := by omega
      have h3 : ¬ k = 3 := by omega
      simp [h1, h2, h3, jl]
     simp only [k0, decide_false, zf, hk, if_false, k1]
     by_cases k4 : k = 4
     ·subst k4; simp
     ·by_cases k5 : k = 5
      ·subst k5; simp [jl]
      ·by_cases k6 : k = 6
       ·subst k6; simp [jl]
       ·simp [k4, k5, k6, jl]
 ·simp only [c0, decide_false, zf, jl]
  by_cases k0 : k = 0
  ·subst k0; by_cases c2 : a = 0 <;> by_cases c3 : b = 0 <;> simp [c2, c3]
  ·by_cases k1 : 1 ≤ k ∧ k ≤ 3
   ·have hk : jn (ρ := Bool) (cond (decide (k = 1)) (some (.inl (decide (k = 1)))) (cond (decide (k = 2)) (some (.inl (decide (k = 2)))) (some (.inl (decide (k = 3)))))) = fun f => f true := by
     funext f
     have : k = 1 ∨ k = 2 ∨ k = 3 := by omega
     rcases this with rfl | rfl | rfl <;> rfl
    simp only [k0, decide_false, zf, hk, if_false, k1, if_true, zt]
    by_cases c2 : a = 0 <;> by_cases c3 : b = 0 <;> simp [c2, c3]
   ·have hk : jn (ρ := Bool) (cond (decide (k = 1)) (some (.inl (decide (k = 1)))) (cond (decide (k = 2)) (some (.inl (decide (k = 2)))) (some (.inl (decide (k = 3)))))) = fun f => f false := by
     funext f
     have h1 : ¬ k = 1 := by omega
     have h2 : ¬ k = 2 := by omega
     have h3 : ¬ k = 3 := by omega
     simp [h1, h2, h3, jl]
    simp only [k0, decide_false, zf, hk, if_false, k1]
    by_cases k4 : k = 4
    ·subst k4; simp
    ·by_cases k5 : k = 5
     ·subst k5; simp [jl]
     ·by_cases k6 : k = 6
      ·subst k6; simp [jl]
      ·simp [k4, k5, k6, jl]
theorem G111_plF (f : List Fct) (s : ByteArray) (hl : f.length < LF) : G111 LF (f, s) = some (plF f s) := by
 unfold G111 plF
 refine (iter_find (fun x => decide (x.1 = s)) (fun i => (i : Int)) f (some (-1)) ?_ ?_ hl).trans ?_
 ·intro i x hx
  have hi := lt_of_get hx
  simp only [dlt hi, zt, getI_nat hx, zb, eqD, succ_W (Nat.lt_of_le_of_lt hi hl)]
  cases decide (x.1 = s) <;> rfl
 ·simp only [dnlt]; rfl
 ·unfold idxI; cases idx (fun x : Fct => decide (x.1 = s)) f 0 <;> rfl
theorem G37_fnd (c : Cd) (s : ByteArray) (hl : c.2.2.length < LF) : G37 LF (c, s) = some (fnd c.2.2 s) := by
 unfold G37 fnd
 refine (iter_find (fun x => decide (x.1 = s)) (fun i => (i : Int)) c.2.2 (some (-1)) ?_ ?_ hl).trans ?_
 ·intro i x hx
  have hi := lt_of_get hx
  simp only [dlt hi, zt, getI_nat hx, zb, eqD, succ_W (Nat.lt_of_le_of_lt hi hl)]
  cases decide (x.1 = s) <;> rfl
 ·simp only [dnlt]; rfl
 ·unfold idxI; cases idx (fun x : Rl => decide (x.1 = s)) c.2.2 0 <;> rfl
theorem G30_cond (f : List Fct) (c : Cnd) (hf : f.length < LF) : G30 LF (f, c) = some (condE f c) := by
 unfold G30 condE
 by_cases h1 : 30 < c.length
 ·have e1 : decide ((c.length : Int) > 30) = true := ze (by omega)
  simp only [e1, zt, h1, if_true]
 ·have e1 : decide ((c.length : Int) > 30) = false := zd (by omega)
  simp only [e1, zf, h1, if_false]
  have hl : c.length < LF := by show c.length < 9223372036854775808; omega
  by_cases h0 : c = []
  ·subst h0; rfl
  ·have e0 : decide ((c.length : Int) = 0) = false := zd (by have := List.length_pos_iff.2 h0; omega)
   simp only [e0, zf, h0, if_false]
   refine (iter_scan (condS f) c (some 0) ?_ ?_ hl).trans (getD_none _ _)
   ·intro i t ht _
    have hi := lt_of_get ht
    obtain ⟨k, a, b, s, n⟩ := t
    simp only [dlt hi, zt, getI_nat ht, zb, G97_shp _ i (Nat.lt_trans hi hl), G98_cmp, G111_plF f s hf, succ_W (Nat.lt_of_le_of_lt hi hl)]
    unfold condS
    cases shp (k, a, b, s, n) i with
    | false => rfl
    | true =>
     simp only [Bool.not_true, zf]
     cases cmpK k with
     | false => rfl
     | true =>
      simp only [zt, jl, jr, Bool.true_and, plF_neg]
      cases f.any (fun x => decide (x.1 = s)) <;> rfl
   ·intro _
    simp only [dnlt]; rfl
theorem idx_take {σ : Type} (p : σ → Bool) : ∀ (l : List σ) (i : Nat), decide (idxI p l < (i : Int)) = (!l.any p || (l.take i).any p)
 | l, i => by
  cases h : idx p l 0 with
  | none =>
   have hn := idx_none.1 h
   have : l.any p = false := by simp; intro x hx; simp [hn x hx]
   unfold idxI; rw [h, this]; simp; omega
  | some n =>
   obtain ⟨x, e1, e2, e3⟩ := idx_some h
   have : l.any p = true := List.any_eq_true.2 ⟨x, List.mem_of_getElem? e1, e2⟩
   unfold idxI; rw [h, this]
   simp only [Bool.not_true, Bool.false_or]
   by_cases hni : n < i
   ·have : (l.take i).any p = true := List.any_eq_true.2 ⟨x, List.mem_of_getElem? (i := n) (by rw [List.getElem?_take, if_pos hni]; exact e1), e2⟩
    rw [this]; simp; omega
   ·have : (l.take i).any p = false := by
     rw [List.any_eq_false]
     intro y hy
     obtain ⟨m, hm, hym⟩ := List.mem_iff_getElem.1 hy
     have hmi : m < i := by rw [List.length_take] at hm; omega
     have := e3 m y (by omega) (by rw [List.getElem_take] at hym; rw [← hym]; exact List.getElem?_eq_getElem _)
     simp [this]
    rw [this]; simp; omega
end Go.K
namespace Go.K
open Go.Sl Go.Sx Go.Proofs
theorem G118_rule (c : Cd) (i : Nat) (r : Rl) (hr : c.2.2[i]? = some r) (hf : c.2.1.length < LF) (hl : c.2.2.length ≤ 1000) : G118 LF (c, (i : Int)) = some (ruleE c.2.1 c.2.2 i r) := by
 have hi := lt_of_get hr
 have hi' : i < LF := by show i < 9223372036854775808; omega
 have hll : c.2.2.length < LF := by show c.2.2.length < 9223372036854775808; omega
 unfold G118 ruleE
 have hown : decide (fnd c.2.2 r.1 < (i : Int)) = hasR (c.2.2.take i) r.1 := by
  unfold fnd hasR
  rw [idx_take]
  have : (c.2.2.any fun x => decide (x.1 = r.1)) = true := List.any_eq_true.2 ⟨r, List.mem_of_getElem? hr, by simp⟩
  rw [this]; rfl
 simp only [getI_nat hr, zb, G99_nm, G37_fnd (c.1, (c.2.1, c.2.2)) _ hll, hown]
 cases hnm : nmB r.1 with
 | false => simp [jl]
 | true =>
  simp only [Bool.not_true, zf, jl, Bool.false_or]
  cases hh : hasR (c.2.2.take i) r.1 with
  | true => rfl
  | false =>
   simp only [zf]
   by_cases hd : r.2.1 < 0 ∨ r.2.1 > r.2.2.1 ∨ r.2.2.1 > 100000
   ·rw [if_pos hd]
    by_cases d1 : r.2.1 < 0
    ·simp [d1, jl]
    ·by_cases d2 : r.2.1 > r.2.2.1
     ·simp [d1, d2, jl]
     ·have d3 : r.2.2.1 > 100000 := by omega
      simp [d1, d2, d3, jl]
   ·rw [if_neg hd]
    have d1 : ¬ r.2.1 < 0 := by omega
    have d2 : ¬ r.2.1 > r.2.2.1 := by omega
    have d3 : ¬ r.2.2.1 > 100000 := by omega
    simp only [d1, d2, d3, decide_false, zf, jl, G30_cond _ _ hf, zb]
    by_cases h0 : condE c.2.1 r.2.2.2.1 = 0
    ·simp only [h0, decide_true, zt, jl, ne_eq, not_true, if_false]
     by_cases h1 : condE c.2.1 r.2.2.2.2.1 = 0
     ·simp only [h1, decide_true, Bool.not_true, zf, not_true, if_false]
      by_cases hu6 : 6 < r.2.2.2.2.2.length
      ·have : decide ((r.2.2.2.2.2.length : Int) > 6) = true := ze (by omega)
       simp only [this, zt, hu6, if_true]
      ·have : decide ((r.2.2.2.2.2.length : Int) > 6) = false := zd (by omega)
       have hu : r.2.2.2.2.2.length < LF := by show r.2.2.2.2.2.length < 9223372036854775808; omega
       simp only [this, zf, hu6, if_false]
       refine (iter_scan (unlS (c.2.2.take i) r.2.2.2.2.2) r.2.2.2.2.2 (some 0) ?_ ?_ hu).trans (getD_none _ _)
       ·intro k s hk _
        have hkl := lt_of_get hk
        have htu : (r.2.2.2.2.2.take k).length < LF := by rw [List.length_take]; omega
        simp only [dlt hkl, zt, getI_nat hk, zb, subI_take (Nat.le_of_lt hkl), G84_any _ _ htu, succ_W (Nat.lt_of_le_of_lt hkl hu)]
        have hlt : decide (fnd c.2.2 s < (i : Int)) = (!hasR c.2.2 s || hasR (c.2.2.take i) s) := idx_take _ _ _
        have hge : decide (fnd c.2.2 s ≥ (i : Int)) = !(!hasR c.2.2 s || hasR (c.2.2.take i) s) := by
         rw [← hlt, ← decide_not]; exact decide_eq_decide.2 (by omega)
        have hneg := fnd_neg c.2.2 s
        rw [hge, hneg]
        have himp : hasR (c.2.2.take i) s = true → hasR c.2.2 s = true := fun h => by
         unfold hasR at h ⊢
         rw [List.any_eq_true] at h ⊢
         obtain ⟨x, hx, hp⟩ := h
         exact ⟨x, List.mem_of_mem_take hx, hp⟩
        unfold unlS
        cases h1 : hasR (c.2.2.take i) s with
        | true =>
         rw [himp h1]
         simp only [Bool.not_true, Bool.not_false, Bool.false_or, Bool.or_true, zf, jl]
         cases (r.2.2.2.2.2.take k).any fun x => decide (x = s) <;> rfl
        | false => cases hasR c.2.2 s <;> rfl
       ·intro _
        simp only [dnlt]; rfl
     ·simp only [h1, decide_false, Bool.not_false, zt, not_false_eq_true, if_true]
    ·simp only [h0, decide_false, zf, jl, Bool.not_false, zt, ne_eq, not_false_eq_true, if_true]
theorem G109_conds (c : Cd) (h : c.2.2.length ≤ 1000) : G109 LF c = some (condsL c.2.2) := by
 unfold G109
 refine (iter_app (fun i a => (a, i)) (fun r : Rl => [r.2.2.2.1, r.2.2.2.2.1]) c.2.2 (fun a => some a) 2 (fun _ _ => by simp) [] ?_ ?_ (by show c.2.2.length < 9223372036854775808; omega)).trans ?_
 ·intro i x a hx ha hi
  simp only [zl] at ha
  simp only [dlt hi, zt, getI_nat hx, zb, succ_W (show i + 1 < 9223372036854775808 by omega), appC_of (show a.length + [x.2.2.2.1, x.2.2.2.2.1].length ≤ 1099511627776 by simp; omega)]
 ·intro a _
  simp only [dnlt]; rfl
 ·rfl
theorem G176_parts (t : Tm) : G176 LF t = some (partsL t) := by
 unfold G176 partsL
 by_cases h1 : t.1 = 1
 ·simp [h1]
 ·by_cases h2 : t.1 = 2
  ·simp [h2]
  ·by_cases h3 : t.1 = 3 <;> simp [h1, h2, h3]
def cutAt (l : List Int) (n : Int) : Nat → Nat
 | 0 => 0
 | k + 1 => if l.getD k 0 ≥ n then cutAt l n k else k + 1
def putL (l : List Int) (n : Int) : List Int := if l[cutAt l n l.length]? = some n then l else l.take (cutAt l n l.length) ++ n :: l.drop (cutAt l n l.length)
theorem cutAt_le (l : List Int) (n : Int) : ∀ k, cutAt l n k ≤ k
 | 0 => Nat.le_refl _
 | k + 1 => by
  unfold cutAt
  split
  ·exact Nat.le_succ_of_le (cutAt_le l n k)
  ·exact Nat.le_refl _
theorem cutAt_rise {l : List Int} (hr : Rise l) (n : Int) : ∀ k, k ≤ l.length → (∀ i, i < cutAt l n k → l.getD i 0 < n) ∧ ∀ i, cutAt l n k ≤ i → i < k → n ≤ l.getD i 0
 | 0, _ => ⟨fun i hi => by simp [cutAt] at hi, fun i _ hi => by omega⟩
 | k + 1, hk => by
  unfold cutAt
  split
  ·rename_i h
   obtain ⟨h1, h2⟩ := cutAt_rise hr n k (by omega)
   refine ⟨h1, fun i hi hlt => ?_⟩
   by_cases e : i = k
   ·subst e; omega
   ·exact h2 i hi (by omega)
  ·rename_i h
   refine ⟨fun i hi => ?_, fun i hi hlt => by omega⟩
   by_cases e : i = k
   ·subst e; omega
   ·have := hr.get (i := i) (j := k) (by omega) (by omega)
    simp only [List.getD_eq_getElem?_getD, List.getElem?_eq_getElem (show k < l.length by omega), List.getElem?_eq_getElem (show i < l.length by omega), Option.getD_some] at h ⊢
    omega
theorem putL_len (l : List Int) (n : Int) : (putL l n).length ≤ l.length + 1 := by
 unfold putL
 split
 ·omega
 ·have := cutAt_le l n l.length
  simp; omega
theorem putL_rise {l : List Int} (hr : Rise l) (n : Int) : Rise (putL l n) ∧ ∀ x, x ∈ putL l n ↔ x ∈ l ∨ x = n := by
 obtain ⟨h1, h2⟩ := cutAt_rise hr n l.length (Nat.le_refl _)
 have hle := cutAt_le l n l.length
 unfold putL
 generalize cutAt l n l.length = k at *
 split
 ·rename_i hk
  refine ⟨hr, fun x => ⟨.inl, fun h => ?_⟩⟩
  rcases h with h | h
  ·exact h
  ·subst h; exact List.mem_of_getElem? hk
 ·rename_i hk
  have hlt : ∀ x ∈ l.take k, x < n := fun x hx => by
   obtain ⟨i, hi, rfl⟩ := List.mem_iff_getElem.1 hx
   rw [List.length_take] at hi
   have := h1 i (by omega)
   rw [List.getElem_take]
   rwa [List.getD_eq_getElem?_getD, List.getElem?_eq_getElem (show i < l.length by omega), Option.getD_some] at this
  have hgt : ∀ x ∈ l.drop k, n < x := fun x hx => by
   obtain ⟨i, hi, rfl⟩ := List.mem_iff_getElem.1 hx
   rw [List.length_drop] at hi
   rw [List.getElem_drop]
   have h0 := h2 k (Nat.le_refl _) (by omega)
   rw [List.getD_eq_getElem?_getD, List.getElem?_eq_getElem (show k < l.length by omega), Option.getD_some] at h0
   have hne : l[k] ≠ n := fun e => hk (by rw [List.getElem?_eq_getElem (show k < l.length by omega), e])
   by_cases e : i = 0
   ·subst e; simp only [Nat.add_zero]; omega
   ·have := hr.get (i := k) (j := k + i) (by omega) (by omega)
    omega
  have htd : l.take k ++ l.drop k = l := List.take_append_drop k l
  have hp := hr
  unfold Rise at hp ⊢
  rw [← htd, List.pairwise_append] at hp
  refine ⟨List.pairwise_append.2 ⟨hp.1, List.pairwise_cons.2 ⟨hgt, hp.2.1⟩, fun a ha b hb => ?_⟩, fun x => ?_⟩
  ·rcases List.mem_cons.1 hb with e | e
   ·subst e; exact hlt a ha
   ·exact hp.2.2 a ha b e
  ·constructor
   ·intro hx
    rcases List.mem_append.1 hx with h | h
    ·exact .inl (List.mem_of_mem_take h)
    ·rcases List.mem_cons.1 h with e | e
     ·exact .inr e
     ·exact .inl (List.mem_of_mem_drop e)
   ·intro hx
    rcases hx with h | h
    ·rw [← htd] at h
     rcases List.mem_append.1 h with e | e
     ·exact List.mem_append_left _ e
     ·exact List.mem_append_right _ (List.mem_cons_of_mem _ e)
    ·subst h; exact List.mem_append_right _ (List.mem_cons_self ..)
theorem G177_put (l : List Int) (n : Int) (hl : l.length ≤ 1000000) : G177 LF (l, n) = some (putL l n) := by
 unfold G177
 have loop : ∀ (k lf : Nat), k ≤ l.length → k < lf → iter (ρ := Int ⊕ List Int) lf (fun y12 : Int => cond (decide (y12 > (0 : Int))) (((getI l (w64 (y12 - (1 : Int))))).bind fun r13 => cond (decide (r13 ≥ n)) (some (.inl (w64 (y12 - (1 : Int))))) (some (.inr (.inl y12)))) (some (.inr (.inl y12)))) (k : Int) = some (.inl (cutAt l n k : Nat)) := by
  intro k
  induction k with
  | zero =>
   intro lf _ hlf
   obtain ⟨lf, rfl⟩ : ∃ q, lf = q + 1 := ⟨lf - 1, by omega⟩
   simp [iter, cutAt]
  | succ k ih =>
   intro lf hk hlf
   obtain ⟨lf, rfl⟩ : ∃ q, lf = q + 1 := ⟨lf - 1, by omega⟩
   have e1 : decide (((k + 1 : Nat) : Int) > 0) = true := ze (by omega)
   have e2 : w64 (((k + 1 : Nat) : Int) - 1) = (k : Int) := by rw [w64_in (by omega)]; omega
   have e3 : l[k]? = some (l.getD k 0) := by rw [List.getD_eq_getElem?_getD, List.getElem?_eq_getElem (by omega)]; rfl
   simp only [iter, e1, e2, getI_nat e3, zt, zb, cutAt]
   by_cases h : l.getD k 0 ≥ n
   ·simp only [ze h, zt, if_pos h]
    exact ih lf (by omega) (by omega)
   ·simp only [zd h, zf, if_neg h]
 rw [loop l.length LF (Nat.le_refl _) (by show l.length < 9223372036854775808; omega)]
 simp only [jl]
 have hle := cutAt_le l n l.length
 unfold putL
 by_cases hk : cutAt l n l.length < l.length
 ·have e3 : l[cutAt l n l.length]? = some l[cutAt l n l.length] := List.getElem?_eq_getElem hk
  simp only [dlt hk, zt, getI_nat e3, zb, jl]
  rw [e3]
  by_cases hn : l[cutAt l n l.length] = n
  ·simp [hn]
  ·have hn' : ¬ some l[cutAt l n l.length] = some n := fun e => hn (Option.some.inj e)
   have hd : subI l ((cutAt l n l.length : Nat) : Int) (l.length : Int) = some (l.drop (cutAt l n l.length)) := by
    unfold subI; rw [if_pos (by omega)]; simp
   simp only [zd hn, zf, if_neg hn', subI_take hle, zb, appC_of (show ([] : List Int).length + (l.take (cutAt l n l.length)).length ≤ 1099511627776 by simp; omega), List.nil_append, appC_of (show (l.take (cutAt l n l.length)).length + [n].length ≤ 1099511627776 by simp; omega), hd,
    appC_of (show (l.take (cutAt l n l.length) ++ [n]).length + (l.drop (cutAt l n l.length)).length ≤ 1099511627776 by simp; omega)]
   simp
 ·have he : cutAt l n l.length = l.length := by omega
  have hd : subI l ((cutAt l n l.length : Nat) : Int) (l.length : Int) = some (l.drop (cutAt l n l.length)) := by
   unfold subI; rw [if_pos (by omega)]; simp
  have hno : l[cutAt l n l.length]? = none := List.getElem?_eq_none (by omega)
  have hz : decide (((cutAt l n l.length : Nat) : Int) < (l.length : Int)) = false := zd (by omega)
  rw [hno]
  simp only [hz, zf, jl, subI_take hle, zb, appC_of (show ([] : List Int).length + (l.take (cutAt l n l.length)).length ≤ 1099511627776 by simp; omega), List.nil_append, appC_of (show (l.take (cutAt l n l.length)).length + [n].length ≤ 1099511627776 by simp; omega), hd,
    appC_of (show (l.take (cutAt l n l.length) ++ [n]).length + (l.drop (cutAt l n l.length)).length ≤ 1099511627776 by simp; omega)]
  simp
theorem putF_len : ∀ (ns l : List Int), (ns.foldl putL l).length ≤ l.length + ns.length
 | [], l => by simp
 | n :: ns, l => by
  have h1 := putF_len ns (putL l n)
  have h2 := putL_len l n
  rw [List.foldl_cons, zc]; omega
theorem putF_rise : ∀ (ns : List Int) {l : List Int}, Rise l → Rise (ns.foldl putL l) ∧ ∀ x, x ∈ ns.foldl putL l ↔ x ∈ l ∨ x ∈ ns
 | [], l, h => ⟨h, fun x => by simp⟩
 | n :: ns, l, h => by
  obtain ⟨h1, h2⟩ := putL_rise h n
  obtain ⟨h3, h4⟩ := putF_rise ns h1
  refine ⟨h3, fun x => ?_⟩
  rw [List.foldl_cons, h4, h2, List.mem_cons, or_assoc]
theorem putF_sort (a : Int) (ns : List Int) : ns.foldl putL [a] = compL (sortL (a :: ns)) := by
 obtain ⟨h1, h2⟩ := putF_rise ns (l := [a]) (by simp [Rise])
 obtain ⟨h3, h4⟩ := sc_rise (a :: ns)
 refine rise_ext h1 h3 fun x => ?_
 rw [h2, h4, List.mem_singleton, List.mem_cons]
theorem iter_put {σ α ρ : Type} {f : α → Option (α ⊕ ρ)} (mk : Int → List Int → α) (h : σ → List Int) (all : List σ) (fin : List Int → Option ρ) (c : Nat) (hc : ∀ x ∈ all, (h x).length ≤ c) (a0 : List Int)
  (h1 : ∀ i x a, all[i]? = some x → a.length ≤ a0.length + c * i → i < all.length → f (mk (i : Nat) a) = some (.inl (mk ((i + 1 : Nat) : Int) ((h x).foldl putL a))))
  (h2 : ∀ a, a.length ≤ a0.length + c * all.length → f (mk (all.length : Nat) a) = outR (fin a)) (hl : all.length < LF) :
  iter LF f (mk 0 a0) = fin ((all.flatMap h).foldl putL a0) := by
 rw [iter_foldI mk (fun x _ a => (h x).foldl putL a) (fun i a => a.length ≤ a0.length + c * i) all fin a0 (fun i x a hx hg => h1 i x a hx hg (List.getElem?_eq_some_iff.1 hx).1)
  (fun i x a hx hg => by
   have := hc x (List.mem_of_getElem? hx)
   have := putF_len (h x) a
   rw [Nat.mul_add]; omega) h2 hl (by omega)]
 rw [foldI_const, List.foldl_flatMap]
theorem G108_starts (f : List Fct) (cs : List Cnd) (hf : f.length ≤ 1000) (hc : cs.length ≤ 100) (ht : ∀ c ∈ cs, c.length ≤ 1000) : G108 LF (f, cs) = some (startsL f cs) := by
 unfold G108 startsL
 refine (iter_app (fun i a => (a, i)) (fun x : Fct => [cutsOf cs x]) f (fun a => some a) 1 (fun _ _ => by simp) [] ?_ ?_ (by show f.length < 9223372036854775808; omega)).trans ?_
 ·intro i x A hx hA hi
  simp only [zl] at hA
  simp only [dlt hi, zt, getI_nat hx, zb]
  refine (iter_put (fun i a => (a, i)) (fun c : Cnd => c.flatMap (cutT x)) cs (fun a => some (.inl (A ++ [a], ((i + 1 : Nat) : Int)))) 2000 (fun c hc => by
    have h1 := flat_len (cutT x) 2 c (fun t _ => cutT_len x t)
    have h2 := ht c hc
    omega) [x.2.1] ?_ ?_ (by show cs.length < 9223372036854775808; omega)).trans ?_
  ·intro j c a hj ha hjl
   simp only [List.length_singleton] at ha
   simp only [dlt hjl, zt, getI_nat hj, zb]
   have hcl := ht c (List.mem_of_getElem? hj)
   refine (iter_put (fun i a => (a, i)) (cutT x) c (fun a => some (.inl (a, ((j + 1 : Nat) : Int)))) 2 (fun t _ => cutT_len x t) a ?_ ?_ (by show c.length < 9223372036854775808; omega)).trans ?_
   ·intro k t b hk hb hkl
    simp only [dlt hkl, zt, getI_nat hk, zb, eqD, G176_parts]
    have hp := parts_len t
    refine (iter_put (fun i a => (a, i)) (fun n => bif decide (t.2.2.2.1 = x.1) && inS x n then [n] else []) (partsL t) (fun b => some (.inl (b, ((k + 1 : Nat) : Int)))) 1 (fun n _ => by cases decide (t.2.2.2.1 = x.1) && inS x n <;> simp) b ?_ ?_ (by show (partsL t).length < 9223372036854775808; omega)).trans ?_
    ·intro q n d hq hd hql
     have hdl : d.length ≤ 1000000 := by omega
     simp only [dlt hql, zt, getI_nat hq, zb, succ_W (show q + 1 < 9223372036854775808 by omega), G177_put d n hdl]
     unfold inS
     cases decide (t.2.2.2.1 = x.1) <;> cases decide (n > x.2.1) <;> cases decide (n ≤ x.2.2) <;> simp [jl]
    ·intro d _
     simp only [dnlt, succ_W (show k + 1 < 9223372036854775808 by omega)]; rfl
    ·congr 3
     congr 1
     unfold cutT
     cases decide (t.2.2.2.1 = x.1) with
     | false => simp
     | true => simp only [Bool.true_and, zt]; exact flat_filter _ _
   ·intro b _
    simp only [dnlt, succ_W (show j + 1 < 9223372036854775808 by omega)]; rfl
   ·rfl
  ·intro a ha
   simp only [List.length_singleton] at ha
   simp only [dnlt, zf, zb, appC_of (show A.length + [a].length ≤ 1099511627776 by simp; omega), succ_W (show i + 1 < 9223372036854775808 by omega)]
  ·rw [putF_sort]; rfl
 ·intro a _
  simp only [dnlt]; rfl
 ·rw [List.nil_append, ← List.map_eq_flatMap]
theorem G119_many (l : List (List Int)) (h : l.length ≤ 1000) : G119 LF l = some (manyL l) := by
 unfold G119 manyL
 refine (iter_foldI (fun i a => (a, i)) (fun (x : List Int) _ n => if (4001 : Int) < w64 (n * (x.length : Int)) then 4001 else w64 (n * (x.length : Int))) (fun _ _ => True) l (fun a => some a) 1 ?_ (fun _ _ _ _ _ => trivial) ?_ (by show l.length < 9223372036854775808; omega) trivial).trans ?_
 ·intro i x a hx _
  have hi := lt_of_get hx
  simp only [dlt hi, zt, getI_nat hx, zb, succ_W (show i + 1 < 9223372036854775808 by omega)]
 ·intro a _
  simp only [dnlt]; rfl
 ·rw [foldI_const]
theorem conds_len (l : List Rl) : (condsL l).length = 2 * l.length := by
 unfold condsL
 induction l with
 | nil => rfl
 | cons r l ih => rw [List.flatMap_cons, List.length_append, ih]; simp; omega
theorem G32_code (c : Cd) : G32 LF c = some (codeE c) := by
 unfold G32 codeE
 simp only [G99_nm, zb]
 cases nmB c.1 with
 | false => rfl
 | true =>
  simp only [Bool.not_true, zf]
  by_cases h0 : c.2.1 = []
  ·simp [h0]
  ·have e0 : decide ((c.2.1.length : Int) = 0) = false := zd (by have := List.length_pos_iff.2 h0; omega)
   rw [if_neg h0]
   simp only [e0, zf]
   by_cases h1 : 6 < c.2.1.length ∨ 12 < c.2.2.length
   ·rw [if_pos h1]
    by_cases h2 : 6 < c.2.1.length
    ·have : decide ((c.2.1.length : Int) > 6) = true := ze (by omega)
     simp [this, jl]
    ·have a1 : decide ((c.2.1.length : Int) > 6) = false := zd (by omega)
     have a2 : decide ((c.2.2.length : Int) > 12) = true := ze (by omega)
     simp [a1, a2, jl]
   ·rw [if_neg h1]
    have a1 : decide ((c.2.1.length : Int) > 6) = false := zd (by omega)
    have a2 : decide ((c.2.2.length : Int) > 12) = false := zd (by omega)
    simp only [a1, a2, zf, jl]
    have hf6 : c.2.1.length ≤ 6 := by omega
    have hl12 : c.2.2.length ≤ 12 := by omega
    have hf : c.2.1.length < LF := by show c.2.1.length < 9223372036854775808; omega
    have hl : c.2.2.length < LF := by show c.2.2.length < 9223372036854775808; omega
    refine (iter_scan (factS c.2.1) c.2.1 (match scan (ruleS c.2.1 c.2.2) c.2.2 0 with
      | some e => some e
      | none => some (if manyL (startsL c.2.1 (condsL c.2.2)) > 4000 then 2 else 0)) ?_ ?_ hf).trans ?_
    ·intro i x hx _
     have hi := lt_of_get hx
     have hown : decide (plF c.2.1 x.1 < (i : Int)) = (c.2.1.take i).any fun y => decide (y.1 = x.1) := by
      unfold plF
      rw [idx_take]
      have : (c.2.1.any fun y => decide (y.1 = x.1)) = true := List.any_eq_true.2 ⟨x, List.mem_of_getElem? hx, by simp⟩
      rw [this]; rfl
     simp only [dlt hi, zt, getI_nat hx, zb, G99_nm, G111_plF _ _ hf, hown, G117_span x.1, succ_W (Nat.lt_of_le_of_lt hi hf)]
     unfold factS
     cases nmB x.1 with
     | false => rfl
     | true =>
      simp only [Bool.not_true, zf, jl, Bool.false_or]
      cases (c.2.1.take i).any fun y => decide (y.1 = x.1) with
      | true => rfl
      | false => simp only [zf]; cases spanB x <;> rfl
    ·intro _
     simp only [dnlt, zf]
     congr 1
     refine (iter_scan (ruleS c.2.1 c.2.2) c.2.2 (some (if manyL (startsL c.2.1 (condsL c.2.2)) > 4000 then 2 else 0)) ?_ ?_ hl).trans ?_
     ·intro i r hr _
      have hi := lt_of_get hr
      simp only [dlt hi, zt, zb, G118_rule (c.1, (c.2.1, c.2.2)) i r hr hf (show c.2.2.length ≤ 1000 by omega), succ_W (Nat.lt_of_le_of_lt hi hl)]
      unfold ruleS
      by_cases hz : ruleE c.2.1 c.2.2 i r = 0 <;> simp [hz]
     ·intro hs
      simp only [dnlt, zf]
      congr 1
      have hcl : (condsL c.2.2).length ≤ 100 := by rw [conds_len]; omega
      unfold G120
      simp only [G109_conds (c.1, (c.2.1, c.2.2)) (show c.2.2.length ≤ 1000 by omega), zb, G108_starts _ _ (show c.2.1.length ≤ 1000 by omega) hcl (conds_short hs), G119_many _ (show (startsL c.2.1 (condsL c.2.2)).length ≤ 1000 by unfold startsL; rw [List.length_map]; omega)]
      by_cases hm : manyL (startsL c.2.1 (condsL c.2.2)) > 4000 <;> simp [hm]
     ·cases scan (ruleS c.2.1 c.2.2) c.2.2 0 <;> rfl
    ·cases scan (factS c.2.1) c.2.1 0 with
     | some e => rfl
     | none => cases scan (ruleS c.2.1 c.2.2) c.2.2 0 <;> rfl
end Go.K
namespace Go.K
open Go.Sl Go.Sx Go.Proofs
def RRel (ws : List ByteArray) (pe : PE) (o : Option ((((List ByteArray) × (Int × (Int × (Cnd × Unit)))) × Int) ⊕ Int)) : Prop := match pe with
 | .inl t => o = some (.inl ((ws, ((t.1 : Int), ((0 : Int), (t.2.1, ())))), t.2.2))
 | .inr k => ∃ i ts a, o = some (.inl ((ws, (i, ((k : Int), (ts, ())))), a))
theorem rdW2 {ρ : Type} {ws : List ByteArray} {i : Nat} (h : i ≤ ws.length) : (cond (decide ((i : Int) < (ws.length : Int))) ((getI ws (i : Int)).bind fun r => some (.inl r)) (some (.inl (bts []))) : Option (ByteArray ⊕ ρ)) = some (.inl (wAt ws i)) := by
 by_cases e : i = ws.length
 ·rw [zd (by omega), e, wAt_end]; rfl
 ·rw [ze (by omega), getI_w (by omega)]; rfl
theorem rdL2 {β : Type} {ws : List ByteArray} {i : Nat} (h : i ≤ ws.length) (p : ByteArray → Bool) (hp : p (bts []) = false) (A X : Option β) : cond (decide ((i : Int) < (ws.length : Int))) ((getI ws (i : Int)).bind fun r => cond (p r) X A) A = cond (p (wAt ws i)) X A := by
 by_cases e : i = ws.length
 ·rw [zd (by omega), e, wAt_end, hp]; rfl
 ·rw [ze (by omega), getI_w (by omega)]; rfl
theorem G276_op (w : ByteArray) : G276 LF w = some (match opS w with
  | some y => (y.1, (y.2, true))
  | none => (0, (false, false))) := by
 unfold G276 opS
 simp only [q60, q6261, q6061, q62, q61, q3361]
 by_cases h1 : w = bts [60]
 ·simp only [h1, decide_true, zt, if_true]
 ·by_cases h3 : w = bts [60, 61]
  ·have n2 : ¬ bts [60, 61] = bts [62, 61] := by decide
   have n5 : ¬ bts [60, 61] = bts [60] := by decide
   simp only [h3, n2, n5, decide_true, decide_false, zt, zf, if_true, if_false]
  ·by_cases h5 : w = bts [61]
   ·have n1 : ¬ bts [61] = bts [60] := by decide
    have n2 : ¬ bts [61] = bts [62, 61] := by decide
    have n3 : ¬ bts [61] = bts [60, 61] := by decide
    have n4 : ¬ bts [61] = bts [62] := by decide
    simp only [h5, n1, n2, n3, n4, decide_true, decide_false, zt, zf, if_true, if_false]
   ·by_cases h2 : w = bts [62, 61]
    ·simp only [h1, h2, h3, h5, decide_true, decide_false, zt, zf, if_true, if_false]
     have n1 : ¬ bts [62, 61] = bts [60, 61] := by decide
     have n2 : ¬ bts [62, 61] = bts [61] := by decide
     have n0 : ¬ bts [62, 61] = bts [60] := by decide
     simp only [n0, n1, n2, decide_false, zf, if_false]
    ·by_cases h4 : w = bts [62]
     ·have n1 : ¬ bts [62] = bts [60, 61] := by decide
      have n2 : ¬ bts [62] = bts [61] := by decide
      have n3 : ¬ bts [62] = bts [62, 61] := by decide
      have n4 : ¬ bts [62] = bts [60] := by decide
      simp only [h4, n1, n2, n3, n4, decide_true, decide_false, zt, zf, if_true, if_false]
     ·by_cases h6 : w = bts [33, 61]
      ·simp only [h1, h2, h3, h4, h5, decide_false, zf, if_false]
       simp only [h6, decide_true, zt, if_true]
      ·simp only [h1, h2, h3, h4, h5, h6, decide_false, zf, if_false]
theorem num203 (w : ByteArray) : G203 LF (w, ((13 : Int), true)) = some (pairN (num 13 w.data.toList true)) := by
 have := G203_num 13 (by omega) w.data.toList true
 rwa [ofL_back] at this
theorem Q245_cmp {ws : List ByteArray} {i : Nat} {ts : Cnd} {w : ByteArray} {deep : Int} (hl : ws.length ≤ 8001) (h : i < ws.length) (ht : List.length ts ≤ 50000) : RRel ws (cmpS ws (i + 1) ts w) (Q245 LF ((ws, ((i : Int), ((0 : Int), (ts, ())))), deep) w) := by
 unfold Q245 cmpS
 simp only [succ_W (show i + 1 < 9223372036854775808 by omega), rdW2 (show i + 1 ≤ ws.length by omega), jl, G276_op, zb]
 have e2 : w64 (((i + 1 : Nat) : Int) + 1) = ((i + 1 + 1 : Nat) : Int) := succ_W (show i + 1 + 1 < 9223372036854775808 by omega)
 have e3 : w64 (((i + 1 + 1 : Nat) : Int) + 1) = ((i + 1 + 2 : Nat) : Int) := succ_W (show i + 1 + 1 + 1 < 9223372036854775808 by omega)
 simp only [e2, e3]
 cases ho : opS (wAt ws (i + 1)) with
 | none =>
  simp only [Bool.not_false, zt, decide_true]
  exact ⟨_, _, _, rfl⟩
 | some y =>
  obtain ⟨k, neg⟩ := y
  have hlt : i + 1 < ws.length := by
   refine wAt_lt fun e => ?_
   rw [e] at ho
   have hx : ∀ (a : Nat) (l : List Nat), ¬ bts [] = bts (a :: l) := fun a l e => bts_ne e.symm
   unfold opS at ho
   simp only [hx, if_false] at ho
   cases ho
  have e1 : (cond (decide (((i + 1 + 1 : Nat) : Int) < (ws.length : Int))) (((getI ws ((i + 1 + 1 : Nat) : Int))).bind fun r141 => ((G203 LF (r141, ((13 : Int), true)))).bind fun r142 => some (.inl (r142.1, r142.2))) (((G203 LF ((bts []), ((13 : Int), true)))).bind fun r143 => some (.inl (r143.1, r143.2))) : Option ((Int × Bool) ⊕ ((((List ByteArray) × (Int × (Int × (Cnd × Unit)))) × Int) ⊕ Int))) = some (.inl (pairN (num 13 (wAt ws (i + 1 + 1)).data.toList true))) := by
   by_cases e : i + 1 + 1 = ws.length
   ·rw [zd (by omega), e, wAt_end, num203]; rfl
   ·rw [ze (by omega), getI_w (by omega)]
    simp only [zt, zb, num203]
  simp only [Bool.not_true, zf]
  rw [show (jn (cond (decide (((i + 1 + 1 : Nat) : Int) < (ws.length : Int))) (((getI ws ((i + 1 + 1 : Nat) : Int))).bind fun r141 => ((G203 LF (r141, ((13 : Int), true)))).bind fun r142 => some (.inl (r142.1, r142.2))) (((G203 LF ((bts []), ((13 : Int), true)))).bind fun r143 => some (.inl (r143.1, r143.2)))) _) = _ from congrArg (fun z => jn z _) e1, jl]
  cases hn : num 13 (wAt ws (i + 1 + 1)).data.toList true with
  | none =>
   simp only [pairN, Bool.not_false, zt, jl, decide_true]
   exact ⟨_, _, _, rfl⟩
  | some n =>
   simp only [pairN, Bool.not_true, zf, G126_in, zb, jl]
   by_cases hr : -1000000000000 ≤ n ∧ n ≤ 1000000000000
   ·simp only [ze hr, Bool.not_true, zf, if_pos hr, appT (ts := ts) (show List.length ts ≤ 100000 by omega), zb, lenT (ts := ts) (show List.length ts ≤ 100000 by omega)]
    cases neg with
    | false => simp only [zf, Bool.false_eq_true, if_false]; rfl
    | true =>
     have h2 : List.length (ts ++ [(k, ((0 : Int), ((0 : Int), (w, n))))]) ≤ 100000 := by simp; omega
     simp only [zt, if_true, appT h2, zb, lenT h2]
     simp only [RRel, List.length_append, zc, zl]
     rfl
   ·simp only [zd hr, Bool.not_false, zt, if_neg hr, decide_true]
    exact ⟨_, _, _, rfl⟩
theorem iter_loopR {α ρ : Type} {wrd : ByteArray} {kind : Int} {ws : List ByteArray} {next : Nat → Cnd → PE} (hw : wrd ≠ bts []) (hn : ∀ i ts, i ≤ ws.length → GoodP ws i ts (next i ts))
  (mk : PS → α) (fin : PS → ρ) (Err : Nat → ρ → Prop) {f : α → Option (α ⊕ ρ)}
  (hf1 : ∀ s : PS, s.1 ≤ ws.length → List.length s.2.1 ≤ 2 * s.1 → ¬ wAt ws s.1 = wrd → f (mk s) = some (.inr (fin s)))
  (hf2 : ∀ s : PS, s.1 ≤ ws.length → List.length s.2.1 ≤ 2 * s.1 → wAt ws s.1 = wrd → ∀ t, next (s.1 + 1) s.2.1 = .inl t → f (mk s) = some (.inl (mk (t.1, (t.2.1 ++ [tmK kind s.2.2 t.2.2], ((List.length t.2.1 : Nat) : Int))))))
  (hf3 : ∀ s : PS, s.1 ≤ ws.length → List.length s.2.1 ≤ 2 * s.1 → wAt ws s.1 = wrd → ∀ k, next (s.1 + 1) s.2.1 = .inr k → ∃ y r, f (mk s) = some (.inl y) ∧ f y = some (.inr r) ∧ Err k r) :
  ∀ (F lf : Nat) (s : PS), s.1 ≤ ws.length → List.length s.2.1 ≤ 2 * s.1 → ws.length - s.1 < F → ws.length - s.1 + 1 < lf →
  match loopS wrd kind ws next F s with
   | .inl t => iter lf f (mk s) = some (fin t)
   | .inr k => ∃ r, iter lf f (mk s) = some r ∧ Err k r
 | 0, _, s, _, _, h, _ => by omega
 | _ + 1, 0, s, _, _, _, h => by omega
 | _ + 1, 1, s, _, _, _, h => by omega
 | F + 1, lf + 2, s, h1, h2, h3, h4 => by
  unfold loopS
  by_cases he : wAt ws s.1 = wrd
  ·rw [if_pos he]
   have hlt := wAt_lt (show wAt ws s.1 ≠ bts [] by rw [he]; exact hw)
   have hg := hn (s.1 + 1) s.2.1 (by omega)
   cases hx : next (s.1 + 1) s.2.1 with
   | inr k =>
    obtain ⟨y, r, e1, e2, e3⟩ := hf3 s h1 h2 he k hx
    exact ⟨r, by simp only [iter, e1, e2], e3⟩
   | inl t =>
    rw [hx] at hg
    obtain ⟨g1, g2, g3⟩ := hg
    have ih := iter_loopR hw hn mk fin Err hf1 hf2 hf3 F (lf + 1) (t.1, (t.2.1 ++ [tmK kind s.2.2 t.2.2], ((List.length t.2.1 : Nat) : Int))) g2 (by simp only [List.length_append, zc, zl]; omega) (by simp only; omega) (by simp only; omega)
    have e : iter (lf + 2) f (mk s) = iter (lf + 1) f (mk (t.1, (t.2.1 ++ [tmK kind s.2.2 t.2.2], ((List.length t.2.1 : Nat) : Int)))) := by
     show (match f (mk s) with | some (.inl y') => iter (lf + 1) f y' | some (.inr r) => some r | none => none) = _
     rw [hf2 s h1 h2 he t hx]
    simp only [e]
    exact ih
  ·rw [if_neg he]
   simp only [iter, hf1 s h1 h2 he]
end Go.K
namespace Go.K
open Go.Sl Go.Sx Go.Proofs
abbrev T5 := ((List ByteArray) × (Int × (Int × (Cnd × Unit)))) × Int
abbrev R4 := Int × (Cnd × ((List ByteArray) × (Int × Int)))
abbrev mk4 (ws : List ByteArray) (s : PS) : R4 := (s.2.2, (s.2.1, (ws, ((s.1 : Int), (0 : Int)))))
def Er4 (ws : List ByteArray) (k : Nat) (y : R4) : Prop := ∃ a ts i, y = (a, (ts, (ws, (i, (k : Int)))))
theorem k_ne {k : Nat} (h : 0 < k) : decide ((k : Int) = 0) = false := zd (by omega)
theorem stop_P {α ρ : Type} {P : Option ρ → Prop} {f : α → Option (α ⊕ ρ)} {y : α} {r : ρ} {lf : Nat} (h : f y = some (.inr r)) (hl : 0 < lf) (hp : P (some r)) : P (iter lf f y) := by
 obtain ⟨lf, rfl⟩ : ∃ q, lf = q + 1 := ⟨lf - 1, by omega⟩
 simp only [iter, h]; exact hp
theorem and_loopR {ρ : Type} {lf : Nat} (hlf : 100000 < lf) {ws : List ByteArray} (hl : ws.length ≤ 8001) {F n : Nat} {dp : Int} (hF : F = ws.length + 1) {one : Nat → Cnd → PE}
  (hN : ∀ i ts, i ≤ ws.length → GoodP ws i ts (one i ts))
  (hG : ∀ i ts, i ≤ ws.length → List.length ts ≤ 2 * i → RRel ws (one i ts) (G245 lf n ((ws, ((i : Int), ((0 : Int), (ts, ())))), dp)))
  (E : Int → R4 ⊕ ρ) (s : PS) (h1 : s.1 ≤ ws.length) (h2 : List.length s.2.1 ≤ 2 * s.1) :
  match loopS wAnd 5 ws one F s with
   | .inl t => iter lf (fun y112 : (Int × (Yt × ((List ByteArray) × (Int × Int)))) => cond (decide (y112.2.2.2.2 = (0 : Int))) (cond (decide (y112.2.2.2.1 < (y112.2.2.1.length : Int))) (((getI y112.2.2.1 y112.2.2.2.1)).bind fun r113 => cond (r113.data.toList == [(UInt8.ofNat 97), (UInt8.ofNat 110), (UInt8.ofNat 100)]) (((G245 lf n ((y112.2.2.1, ((w64 (y112.2.2.2.1 + (1 : Int))), (y112.2.2.2.2, (y112.2.1, ())))), dp))).bind fun r114 => sm r114 (fun r115 : (((List ByteArray) × (Int × (Int × (Yt × PUnit)))) × Int) => cond (decide (r115.1.2.2.1 = (0 : Int))) (((appC r115.1.2.2.2.1 [((5 : Int), (y112.1, (r115.2, ((bts []), (0 : Int)))))])).bind fun r116 => some (.inl ((w64 ((r116.length : Int) - (1 : Int))), (r116, (r115.1.1, (r115.1.2.1, r115.1.2.2.1)))))) (some (.inl (y112.1, (r115.1.2.2.2.1, (r115.1.1, (r115.1.2.1, r115.1.2.2.1))))))) (fun r117 : Int => some (.inr (E r117)))) (some (.inr (.inl (y112.1, (y112.2.1, (y112.2.2.1, (y112.2.2.2.1, y112.2.2.2.2)))))))) (some (.inr (.inl (y112.1, (y112.2.1, (y112.2.2.1, (y112.2.2.2.1, y112.2.2.2.2)))))))) (some (.inr (.inl (y112.1, (y112.2.1, (y112.2.2.1, (y112.2.2.2.1, y112.2.2.2.2)))))))) (mk4 ws s) = some (.inl (mk4 ws t))
   | .inr k => ∃ r, iter lf (fun y112 : (Int × (Yt × ((List ByteArray) × (Int × Int)))) => cond (decide (y112.2.2.2.2 = (0 : Int))) (cond (decide (y112.2.2.2.1 < (y112.2.2.1.length : Int))) (((getI y112.2.2.1 y112.2.2.2.1)).bind fun r113 => cond (r113.data.toList == [(UInt8.ofNat 97), (UInt8.ofNat 110), (UInt8.ofNat 100)]) (((G245 lf n ((y112.2.2.1, ((w64 (y112.2.2.2.1 + (1 : Int))), (y112.2.2.2.2, (y112.2.1, ())))), dp))).bind fun r114 => sm r114 (fun r115 : (((List ByteArray) × (Int × (Int × (Yt × PUnit)))) × Int) => cond (decide (r115.1.2.2.1 = (0 : Int))) (((appC r115.1.2.2.2.1 [((5 : Int), (y112.1, (r115.2, ((bts []), (0 : Int)))))])).bind fun r116 => some (.inl ((w64 ((r116.length : Int) - (1 : Int))), (r116, (r115.1.1, (r115.1.2.1, r115.1.2.2.1)))))) (some (.inl (y112.1, (r115.1.2.2.2.1, (r115.1.1, (r115.1.2.1, r115.1.2.2.1))))))) (fun r117 : Int => some (.inr (E r117)))) (some (.inr (.inl (y112.1, (y112.2.1, (y112.2.2.1, (y112.2.2.2.1, y112.2.2.2.2)))))))) (some (.inr (.inl (y112.1, (y112.2.1, (y112.2.2.1, (y112.2.2.2.1, y112.2.2.2.2)))))))) (some (.inr (.inl (y112.1, (y112.2.1, (y112.2.2.1, (y112.2.2.2.1, y112.2.2.2.2)))))))) (mk4 ws s) = some r ∧ ∃ y, r = .inl y ∧ Er4 ws k y := by
 refine iter_loopR (α := R4) (ρ := R4 ⊕ ρ) (wrd := wAnd) (kind := 5) (next := one) bts_ne hN (mk4 ws) (fun t => .inl (mk4 ws t)) (fun k r => ∃ y, r = .inl y ∧ Er4 ws k y) ?_ ?_ ?_ F lf s h1 h2 (by omega) (by omega)
 ·intro s s1 s2 he
  simp only [mk4, decide_true, zt, qAnd]
  rw [rdL2 s1 (fun w => decide (w = wAnd)) (by decide)]
  simp only [zd he, zf]
 ·intro s s1 s2 he t ht
  have hlt := wAt_of he
  have hr := hG (s.1 + 1) s.2.1 (by omega) (by omega)
  have hg := hN (s.1 + 1) s.2.1 (by omega)
  rw [ht] at hr hg
  obtain ⟨q1, q2, q3⟩ := hg
  have hr' : G245 lf n ((ws, (((s.1 + 1 : Nat) : Int), ((0 : Int), (s.2.1, ())))), dp) = some (.inl ((ws, ((t.1 : Int), ((0 : Int), (t.2.1, ())))), t.2.2)) := hr
  have hb : List.length t.2.1 ≤ 100000 := by omega
  simp only [mk4, decide_true, zt, qAnd]
  rw [rdL2 s1 (fun w => decide (w = wAnd)) (by decide)]
  simp only [he, decide_true, zt, succ_W (show s.1 + 1 < 9223372036854775808 by omega), hr', zb, sm, appT hb, lenT hb]
  rfl
 ·intro s s1 s2 he k hk
  have hlt := wAt_of he
  have hr := hG (s.1 + 1) s.2.1 (by omega) (by omega)
  have hg := hN (s.1 + 1) s.2.1 (by omega)
  rw [hk] at hr hg
  have h0 : 0 < k := by have := hg.1; omega
  obtain ⟨i1, ts1, a1, hr⟩ := hr
  refine ⟨(s.2.2, (ts1, (ws, (i1, (k : Int))))), .inl (s.2.2, (ts1, (ws, (i1, (k : Int))))), ?_, ?_, _, rfl, _, _, _, rfl⟩
  ·simp only [mk4, decide_true, zt, qAnd]
   rw [rdL2 s1 (fun w => decide (w = wAnd)) (by decide)]
   simp only [he, decide_true, zt, succ_W (show s.1 + 1 < 9223372036854775808 by omega), hr, zb, sm, k_ne h0, zf]
  ·simp only [k_ne h0, zf]
theorem or_loopR {ρ : Type} {lf : Nat} (hlf : 100000 < lf) {ws : List ByteArray} (hl : ws.length ≤ 8001) {F n : Nat} {dp : Int} (hF : F = ws.length + 1) {one : Nat → Cnd → PE}
  (hN : ∀ i ts, i ≤ ws.length → GoodP ws i ts (one i ts))
  (hG : ∀ i ts, i ≤ ws.length → List.length ts ≤ 2 * i → RRel ws (one i ts) (G245 lf n ((ws, ((i : Int), ((0 : Int), (ts, ())))), dp)))
  (E : Int → ρ) (s : PS) (h1 : s.1 ≤ ws.length) (h2 : List.length s.2.1 ≤ 2 * s.1) :
  match loopS wOr 6 ws (allS ws one F) F s with
   | .inl t => iter (ρ := R4 ⊕ ρ) lf (fun y120 : (Int × (Yt × ((List ByteArray) × (Int × Int)))) => cond (decide (y120.2.2.2.2 = (0 : Int))) (cond (decide (y120.2.2.2.1 < (y120.2.2.1.length : Int))) (((getI y120.2.2.1 y120.2.2.2.1)).bind fun r121 => cond (r121.data.toList == [(UInt8.ofNat 111), (UInt8.ofNat 114)]) (jn (((G245 lf n ((y120.2.2.1, ((w64 (y120.2.2.2.1 + (1 : Int))), (y120.2.2.2.2, (y120.2.1, ())))), dp))).bind fun r122 => sm r122 (fun r123 : (((List ByteArray) × (Int × (Int × (Yt × PUnit)))) × Int) => iter lf (fun y124 : (Int × (Yt × ((List ByteArray) × (Int × Int)))) => cond (decide (y124.2.2.2.2 = (0 : Int))) (cond (decide (y124.2.2.2.1 < (y124.2.2.1.length : Int))) (((getI y124.2.2.1 y124.2.2.2.1)).bind fun r125 => cond (r125.data.toList == [(UInt8.ofNat 97), (UInt8.ofNat 110), (UInt8.ofNat 100)]) (((G245 lf n ((y124.2.2.1, ((w64 (y124.2.2.2.1 + (1 : Int))), (y124.2.2.2.2, (y124.2.1, ())))), dp))).bind fun r126 => sm r126 (fun r127 : (((List ByteArray) × (Int × (Int × (Yt × PUnit)))) × Int) => cond (decide (r127.1.2.2.1 = (0 : Int))) (((appC r127.1.2.2.2.1 [((5 : Int), (y124.1, (r127.2, ((bts []), (0 : Int)))))])).bind fun r128 => some (.inl ((w64 ((r128.length : Int) - (1 : Int))), (r128, (r127.1.1, (r127.1.2.1, r127.1.2.2.1)))))) (some (.inl (y124.1, (r127.1.2.2.2.1, (r127.1.1, (r127.1.2.1, r127.1.2.2.1))))))) (fun r129 : Int => some (.inr (.inr (.inr (.inr (E r129))))))) (some (.inr (.inl (y124.1, (y124.2.1, (y124.2.2.1, (y124.2.2.2.1, y124.2.2.2.2)))))))) (some (.inr (.inl (y124.1, (y124.2.1, (y124.2.2.1, (y124.2.2.2.1, y124.2.2.2.2)))))))) (some (.inr (.inl (y124.1, (y124.2.1, (y124.2.2.1, (y124.2.2.2.1, y124.2.2.2.2)))))))) (r123.2, (r123.1.2.2.2.1, (r123.1.1, (r123.1.2.1, r123.1.2.2.1))))) (fun r130 : Int => some (.inr (.inr (.inr (E r130)))))) (fun y131 : (Int × (Yt × ((List ByteArray) × (Int × Int)))) => cond (decide (y131.2.2.2.2 = (0 : Int))) (((appC y131.2.1 [((6 : Int), (y120.1, (y131.1, ((bts []), (0 : Int)))))])).bind fun r132 => some (.inl ((w64 ((r132.length : Int) - (1 : Int))), (r132, (y131.2.2.1, (y131.2.2.2.1, y131.2.2.2.2)))))) (some (.inl (y120.1, (y131.2.1, (y131.2.2.1, (y131.2.2.2.1, y131.2.2.2.2)))))))) (some (.inr (.inl (y120.1, (y120.2.1, (y120.2.2.1, (y120.2.2.2.1, y120.2.2.2.2)))))))) (some (.inr (.inl (y120.1, (y120.2.1, (y120.2.2.1, (y120.2.2.2.1, y120.2.2.2.2)))))))) (some (.inr (.inl (y120.1, (y120.2.1, (y120.2.2.1, (y120.2.2.2.1, y120.2.2.2.2)))))))) (mk4 ws s) = some (.inl (mk4 ws t))
   | .inr k => ∃ r, iter (ρ := R4 ⊕ ρ) lf (fun y120 : (Int × (Yt × ((List ByteArray) × (Int × Int)))) => cond (decide (y120.2.2.2.2 = (0 : Int))) (cond (decide (y120.2.2.2.1 < (y120.2.2.1.length : Int))) (((getI y120.2.2.1 y120.2.2.2.1)).bind fun r121 => cond (r121.data.toList == [(UInt8.ofNat 111), (UInt8.ofNat 114)]) (jn (((G245 lf n ((y120.2.2.1, ((w64 (y120.2.2.2.1 + (1 : Int))), (y120.2.2.2.2, (y120.2.1, ())))), dp))).bind fun r122 => sm r122 (fun r123 : (((List ByteArray) × (Int × (Int × (Yt × PUnit)))) × Int) => iter lf (fun y124 : (Int × (Yt × ((List ByteArray) × (Int × Int)))) => cond (decide (y124.2.2.2.2 = (0 : Int))) (cond (decide (y124.2.2.2.1 < (y124.2.2.1.length : Int))) (((getI y124.2.2.1 y124.2.2.2.1)).bind fun r125 => cond (r125.data.toList == [(UInt8.ofNat 97), (UInt8.ofNat 110), (UInt8.ofNat 100)]) (((G245 lf n ((y124.2.2.1, ((w64 (y124.2.2.2.1 + (1 : Int))), (y124.2.2.2.2, (y124.2.1, ())))), dp))).bind fun r126 => sm r126 (fun r127 : (((List ByteArray) × (Int × (Int × (Yt × PUnit)))) × Int) => cond (decide (r127.1.2.2.1 = (0 : Int))) (((appC r127.1.2.2.2.1 [((5 : Int), (y124.1, (r127.2, ((bts []), (0 : Int)))))])).bind fun r128 => some (.inl ((w64 ((r128.length : Int) - (1 : Int))), (r128, (r127.1.1, (r127.1.2.1, r127.1.2.2.1)))))) (some (.inl (y124.1, (r127.1.2.2.2.1, (r127.1.1, (r127.1.2.1, r127.1.2.2.1))))))) (fun r129 : Int => some (.inr (.inr (.inr (.inr (E r129))))))) (some (.inr (.inl (y124.1, (y124.2.1, (y124.2.2.1, (y124.2.2.2.1, y124.2.2.2.2)))))))) (some (.inr (.inl (y124.1, (y124.2.1, (y124.2.2.1, (y124.2.2.2.1, y124.2.2.2.2)))))))) (some (.inr (.inl (y124.1, (y124.2.1, (y124.2.2.1, (y124.2.2.2.1, y124.2.2.2.2)))))))) (r123.2, (r123.1.2.2.2.1, (r123.1.1, (r123.1.2.1, r123.1.2.2.1))))) (fun r130 : Int => some (.inr (.inr (.inr (E r130)))))) (fun y131 : (Int × (Yt × ((List ByteArray) × (Int × Int)))) => cond (decide (y131.2.2.2.2 = (0 : Int))) (((appC y131.2.1 [((6 : Int), (y120.1, (y131.1, ((bts []), (0 : Int)))))])).bind fun r132 => some (.inl ((w64 ((r132.length : Int) - (1 : Int))), (r132, (y131.2.2.1, (y131.2.2.2.1, y131.2.2.2.2)))))) (some (.inl (y120.1, (y131.2.1, (y131.2.2.1, (y131.2.2.2.1, y131.2.2.2.2)))))))) (some (.inr (.inl (y120.1, (y120.2.1, (y120.2.2.1, (y120.2.2.2.1, y120.2.2.2.2)))))))) (some (.inr (.inl (y120.1, (y120.2.1, (y120.2.2.1, (y120.2.2.2.1, y120.2.2.2.2)))))))) (some (.inr (.inl (y120.1, (y120.2.1, (y120.2.2.1, (y120.2.2.2.1, y120.2.2.2.2)))))))) (mk4 ws s) = some r ∧ ∃ y, r = .inl y ∧ Er4 ws k y := by
 have hA : ∀ i ts, i ≤ ws.length → GoodP ws i ts (allS ws one F i ts) := fun i ts h => allS_good (by omega) hN i ts h
 have eA : ∀ i ts, allS ws one F i ts = match one i ts with
  | .inr k => .inr k
  | .inl s => loopS wAnd 5 ws one F s := fun _ _ => rfl
 refine iter_loopR (α := R4) (ρ := R4 ⊕ ρ) (wrd := wOr) (kind := 6) (next := allS ws one F) bts_ne hA (mk4 ws) (fun t => .inl (mk4 ws t)) (fun k r => ∃ y, r = .inl y ∧ Er4 ws k y) ?_ ?_ ?_ F lf s h1 h2 (by omega) (by omega)
 ·intro s s1 s2 he
  simp only [mk4, decide_true, zt, qOr]
  rw [rdL2 s1 (fun w => decide (w = wOr)) (by decide)]
  simp only [zd he, zf]
 ·intro s s1 s2 he t ht
  have hlt := wAt_of he
  have hr := hG (s.1 + 1) s.2.1 (by omega) (by omega)
  have hg := hN (s.1 + 1) s.2.1 (by omega)
  rw [eA] at ht
  cases hy : one (s.1 + 1) s.2.1 with
  | inr k => rw [hy] at ht; cases ht
  | inl u =>
   rw [hy] at ht hr hg
   simp only at ht
   obtain ⟨q1, q2, q3⟩ := hg
   have hr' : G245 lf n ((ws, (((s.1 + 1 : Nat) : Int), ((0 : Int), (s.2.1, ())))), dp) = some (.inl ((ws, ((u.1 : Int), ((0 : Int), (u.2.1, ())))), u.2.2)) := hr
   have hgl := loopS_good (wrd := wAnd) (kind := 5) bts_ne hN F u q2 (by omega)
   have hB := and_loopR (ρ := (R4 ⊕ (R4 ⊕ ρ))) hlf hl hF hN hG (fun e => .inr (.inr (.inr (E e)))) u q2 (by omega)
   rw [ht] at hB hgl
   obtain ⟨b1, b2, b3⟩ := hgl
   simp only at hB
   have hb : List.length t.2.1 ≤ 100000 := by omega
   simp only [mk4, decide_true, zt, qOr]
   rw [rdL2 s1 (fun w => decide (w = wOr)) (by decide)]
   simp only [he, decide_true, zt, succ_W (show s.1 + 1 < 9223372036854775808 by omega), hr', zb, sm]
   refine (congrArg (fun z => jn z _) hB).trans ?_
   simp only [jl, mk4, decide_true, zt, appT hb, zb, lenT hb]
   rfl
 ·intro s s1 s2 he k hk
  have hlt := wAt_of he
  have hr := hG (s.1 + 1) s.2.1 (by omega) (by omega)
  have hg := hN (s.1 + 1) s.2.1 (by omega)
  have hgk := hA (s.1 + 1) s.2.1 (by omega)
  rw [hk] at hgk
  have h0 : 0 < k := by have := hgk.1; omega
  rw [eA] at hk
  cases hy : one (s.1 + 1) s.2.1 with
  | inr k2 =>
   rw [hy] at hk hr
   simp only [Sum.inr.injEq] at hk
   subst hk
   obtain ⟨i1, ts1, a1, hr⟩ := hr
   refine ⟨(s.2.2, (ts1, (ws, (i1, (k2 : Int))))), .inl (s.2.2, (ts1, (ws, (i1, (k2 : Int))))), ?_, ?_, _, rfl, _, _, _, rfl⟩
   ·simp only [mk4, decide_true, zt, qOr]
    rw [rdL2 s1 (fun w => decide (w = wOr)) (by decide)]
    simp only [he, decide_true, zt, succ_W (show s.1 + 1 < 9223372036854775808 by omega), hr, zb, sm]
    refine stop_P (P := fun z => jn z _ = _) (r := .inl (a1, (ts1, (ws, (i1, (k2 : Int)))))) ?_ (by omega) ?_
    ·simp only [k_ne h0, zf]
    ·simp only [jl, k_ne h0, zf]
   ·simp only [k_ne h0, zf]
  | inl u =>
   rw [hy] at hk hr hg
   simp only at hk
   obtain ⟨q1, q2, q3⟩ := hg
   have hr' : G245 lf n ((ws, (((s.1 + 1 : Nat) : Int), ((0 : Int), (s.2.1, ())))), dp) = some (.inl ((ws, ((u.1 : Int), ((0 : Int), (u.2.1, ())))), u.2.2)) := hr
   have hB := and_loopR (ρ := (R4 ⊕ (R4 ⊕ ρ))) hlf hl hF hN hG (fun e => .inr (.inr (.inr (E e)))) u q2 (by omega)
   rw [hk] at hB
   obtain ⟨r, e1, y, e2, a1, ts1, i1, e3⟩ := hB
   subst e2 e3
   refine ⟨(s.2.2, (ts1, (ws, (i1, (k : Int))))), .inl (s.2.2, (ts1, (ws, (i1, (k : Int))))), ?_, ?_, _, rfl, _, _, _, rfl⟩
   ·simp only [mk4, decide_true, zt, qOr]
    rw [rdL2 s1 (fun w => decide (w = wOr)) (by decide)]
    simp only [he, decide_true, zt, succ_W (show s.1 + 1 < 9223372036854775808 by omega), hr', zb, sm]
    refine (congrArg (fun z => jn z _) e1).trans ?_
    simp only [jl, k_ne h0, zf]
   ·simp only [k_ne h0, zf]
theorem P245_ok {lf : Nat} (hlf : 100000 < lf) {ws : List ByteArray} (hl : ws.length ≤ 8001) {F n deep i : Nat} {ts : Cnd} (hF : F = ws.length + 1) (hd : deep < 8) (hi : i < ws.length) (hts : List.length ts ≤ 2 * i) {one : Nat → Cnd → PE}
  (hN : ∀ i ts, i ≤ ws.length → GoodP ws i ts (one i ts))
  (hG : ∀ i ts, i ≤ ws.length → List.length ts ≤ 2 * i → RRel ws (one i ts) (G245 lf n ((ws, ((i : Int), ((0 : Int), (ts, ())))), ((deep + 1 : Nat) : Int)))) :
  RRel ws (match cndS ws one F (i + 1) ts with
    | .inr k => .inr k
    | .inl t => if wAt ws t.1 = wClose then .inl (t.1 + 1, t.2) else .inr (t.1 + 1)) (P245 lf n ((ws, ((i : Int), ((0 : Int), (ts, ())))), (deep : Int))) := by
 unfold P245
 have hA : ∀ i ts, i ≤ ws.length → GoodP ws i ts (allS ws one F i ts) := fun i ts h => allS_good (by omega) hN i ts h
 simp only [succ_W (show i + 1 < 9223372036854775808 by omega), succ_W (show deep + 1 < 9223372036854775808 by omega)]
 have hg := hN (i + 1) ts (by omega)
 have hr := hG (i + 1) ts (by omega) (by omega)
 unfold cndS
 have eA : allS ws one F (i + 1) ts = match one (i + 1) ts with
  | .inr k => .inr k
  | .inl s => loopS wAnd 5 ws one F s := rfl
 rw [eA]
 cases hx : one (i + 1) ts with
 | inr k =>
  rw [hx] at hr hg
  have h0 : 0 < k := by have := hg.1; omega
  obtain ⟨i1, ts1, a1, hr⟩ := hr
  simp only [hr, zb, sm]
  refine stop_P (P := fun z => RRel ws _ (jn (jn z _) _)) (r := .inl (a1, (ts1, (ws, (i1, (k : Int)))))) ?_ (by omega) ?_
  ·simp only [k_ne h0, zf]
  simp only [jl]
  refine stop_P (P := fun z => RRel ws _ (jn z _)) (r := .inl (a1, (ts1, (ws, (i1, (k : Int)))))) ?_ (by omega) ?_
  ·simp only [k_ne h0, zf]
  simp only [jl, k_ne h0, zf]
  exact ⟨_, _, _, rfl⟩
 | inl t =>
  rw [hx] at hr hg
  obtain ⟨g1, g2, g3⟩ := hg
  have hr' : G245 lf n ((ws, (((i + 1 : Nat) : Int), ((0 : Int), (ts, ())))), ((deep + 1 : Nat) : Int)) = some (.inl ((ws, ((t.1 : Int), ((0 : Int), (t.2.1, ())))), t.2.2)) := hr
  simp only [hr', zb, sm]
  have hgl := loopS_good (wrd := wAnd) (kind := 5) bts_ne hN F t g2 (by omega)
  have hB := and_loopR (ρ := R4 ⊕ (T5 ⊕ Int)) hlf hl hF hN hG (fun e => .inr (.inr (.inr e))) t g2 (by omega)
  cases hz : loopS wAnd 5 ws one F t with
  | inr k =>
   rw [hz] at hB hgl
   have h0 : 0 < k := by have := hgl.1; omega
   obtain ⟨r, e1, y, e2, a1, ts1, i1, e3⟩ := hB
   subst e2 e3
   refine (congrArg (fun z => RRel ws _ (jn (jn z _) _)) e1).mpr ?_
   simp only [jl]
   refine stop_P (P := fun z => RRel ws _ (jn z _)) (r := .inl (a1, (ts1, (ws, (i1, (k : Int)))))) ?_ (by omega) ?_
   ·simp only [k_ne h0, zf]
   simp only [jl, k_ne h0, zf]
   exact ⟨_, _, _, rfl⟩
  | inl s0 =>
   rw [hz] at hB hgl
   obtain ⟨a1, a2, a3⟩ := hgl
   refine (congrArg (fun z => RRel ws _ (jn (jn z _) _)) hB).mpr ?_
   simp only [jl]
   have hC := or_loopR (ρ := T5 ⊕ Int) hlf hl hF hN hG (fun e => .inr e) s0 a2 (by omega)
   have hgl2 := loopS_good (wrd := wOr) (kind := 6) bts_ne hA F s0 a2 (by omega)
   cases hz2 : loopS wOr 6 ws (allS ws one F) F s0 with
   | inr k =>
    rw [hz2] at hC hgl2
    have h0 : 0 < k := by have := hgl2.1; omega
    obtain ⟨r, e1, y, e2, a1, ts1, i1, e3⟩ := hC
    subst e2 e3
    refine (congrArg (fun z => RRel ws _ (jn z _)) e1).mpr ?_
    simp only [jl, k_ne h0, zf]
    exact ⟨_, _, _, rfl⟩
   | inl s4 =>
    rw [hz2] at hC hgl2
    obtain ⟨c1, c2, c3⟩ := hgl2
    refine (congrArg (fun z => RRel ws _ (jn z _)) hC).mpr ?_
    simp only [jl, mk4, decide_true, zt]
    have e1 : (cond (decide ((s4.1 : Int) < (ws.length : Int))) (((getI ws (s4.1 : Int))).bind fun r134 => some (.inl (!(r134.data.toList == [(UInt8.ofNat 41)])))) (some (.inl true)) : Option (Bool ⊕ (T5 ⊕ Int))) = some (.inl (!decide (wAt ws s4.1 = wClose))) := by
     by_cases e : s4.1 = ws.length
     ·rw [zd (by omega), e, wAt_end]
      have : ¬ bts [] = wClose := by decide
      rw [zd this]; rfl
     ·rw [ze (by omega), getI_w (by omega)]
      simp only [zt, zb, qClose]
    refine (congrArg (fun z => RRel ws _ (jn z _)) e1).mpr ?_
    simp only [jl]
    by_cases hc : wAt ws s4.1 = wClose
    ·simp only [hc, decide_true, Bool.not_true, zf, if_true, succ_W (show s4.1 + 1 < 9223372036854775808 by omega)]
     rfl
    ·simp only [zd hc, Bool.not_false, zt, if_neg hc, succ_W (show s4.1 + 1 < 9223372036854775808 by omega)]
     exact ⟨_, _, _, rfl⟩
end Go.K
namespace Go.K
open Go.Sl Go.Sx Go.Proofs
abbrev mk5 (ws : List ByteArray) (s : PS) : T5 := ((ws, ((s.1 : Int), ((0 : Int), (s.2.1, ())))), s.2.2)
def Er5 (ws : List ByteArray) (k : Nat) (y : T5) : Prop := ∃ i ts a, y = ((ws, (i, ((k : Int), (ts, ())))), a)
theorem or_loopT {ρ : Type} {lf : Nat} (hlf : 100000 < lf) {ws : List ByteArray} (hl : ws.length ≤ 8001) {F n : Nat} {dp : Int} (hF : F = ws.length + 1) {one : Nat → Cnd → PE}
  (hN : ∀ i ts, i ≤ ws.length → GoodP ws i ts (one i ts))
  (hG : ∀ i ts, i ≤ ws.length → List.length ts ≤ 2 * i → RRel ws (one i ts) (G245 lf n ((ws, ((i : Int), ((0 : Int), (ts, ())))), dp)))
  (E : Int → ρ) (s : PS) (h1 : s.1 ≤ ws.length) (h2 : List.length s.2.1 ≤ 2 * s.1) :
  match loopS wOr 6 ws (allS ws one F) F s with
   | .inl t => iter (ρ := T5 ⊕ ρ) lf (fun y120 : (Int × (Yt × ((List ByteArray) × (Int × Int)))) => cond (decide (y120.2.2.2.2 = (0 : Int))) (cond (decide (y120.2.2.2.1 < (y120.2.2.1.length : Int))) (((getI y120.2.2.1 y120.2.2.2.1)).bind fun r121 => cond (r121.data.toList == [(UInt8.ofNat 111), (UInt8.ofNat 114)]) (jn (((G245 lf n ((y120.2.2.1, ((w64 (y120.2.2.2.1 + (1 : Int))), (y120.2.2.2.2, (y120.2.1, ())))), dp))).bind fun r122 => sm r122 (fun r123 : (((List ByteArray) × (Int × (Int × (Yt × PUnit)))) × Int) => iter lf (fun y124 : (Int × (Yt × ((List ByteArray) × (Int × Int)))) => cond (decide (y124.2.2.2.2 = (0 : Int))) (cond (decide (y124.2.2.2.1 < (y124.2.2.1.length : Int))) (((getI y124.2.2.1 y124.2.2.2.1)).bind fun r125 => cond (r125.data.toList == [(UInt8.ofNat 97), (UInt8.ofNat 110), (UInt8.ofNat 100)]) (((G245 lf n ((y124.2.2.1, ((w64 (y124.2.2.2.1 + (1 : Int))), (y124.2.2.2.2, (y124.2.1, ())))), dp))).bind fun r126 => sm r126 (fun r127 : (((List ByteArray) × (Int × (Int × (Yt × PUnit)))) × Int) => cond (decide (r127.1.2.2.1 = (0 : Int))) (((appC r127.1.2.2.2.1 [((5 : Int), (y124.1, (r127.2, ((bts []), (0 : Int)))))])).bind fun r128 => some (.inl ((w64 ((r128.length : Int) - (1 : Int))), (r128, (r127.1.1, (r127.1.2.1, r127.1.2.2.1)))))) (some (.inl (y124.1, (r127.1.2.2.2.1, (r127.1.1, (r127.1.2.1, r127.1.2.2.1))))))) (fun r129 : Int => some (.inr (.inr (.inr (.inr (E r129))))))) (some (.inr (.inl (y124.1, (y124.2.1, (y124.2.2.1, (y124.2.2.2.1, y124.2.2.2.2)))))))) (some (.inr (.inl (y124.1, (y124.2.1, (y124.2.2.1, (y124.2.2.2.1, y124.2.2.2.2)))))))) (some (.inr (.inl (y124.1, (y124.2.1, (y124.2.2.1, (y124.2.2.2.1, y124.2.2.2.2)))))))) (r123.2, (r123.1.2.2.2.1, (r123.1.1, (r123.1.2.1, r123.1.2.2.1))))) (fun r130 : Int => some (.inr (.inr (.inr (E r130)))))) (fun y131 : (Int × (Yt × ((List ByteArray) × (Int × Int)))) => cond (decide (y131.2.2.2.2 = (0 : Int))) (((appC y131.2.1 [((6 : Int), (y120.1, (y131.1, ((bts []), (0 : Int)))))])).bind fun r132 => some (.inl ((w64 ((r132.length : Int) - (1 : Int))), (r132, (y131.2.2.1, (y131.2.2.2.1, y131.2.2.2.2)))))) (some (.inl (y120.1, (y131.2.1, (y131.2.2.1, (y131.2.2.2.1, y131.2.2.2.2)))))))) (some (.inr (.inl ((y120.2.2.1, (y120.2.2.2.1, (y120.2.2.2.2, (y120.2.1, ())))), y120.1))))) (some (.inr (.inl ((y120.2.2.1, (y120.2.2.2.1, (y120.2.2.2.2, (y120.2.1, ())))), y120.1))))) (some (.inr (.inl ((y120.2.2.1, (y120.2.2.2.1, (y120.2.2.2.2, (y120.2.1, ())))), y120.1))))) (mk4 ws s) = some (.inl (mk5 ws t))
   | .inr k => ∃ r, iter (ρ := T5 ⊕ ρ) lf (fun y120 : (Int × (Yt × ((List ByteArray) × (Int × Int)))) => cond (decide (y120.2.2.2.2 = (0 : Int))) (cond (decide (y120.2.2.2.1 < (y120.2.2.1.length : Int))) (((getI y120.2.2.1 y120.2.2.2.1)).bind fun r121 => cond (r121.data.toList == [(UInt8.ofNat 111), (UInt8.ofNat 114)]) (jn (((G245 lf n ((y120.2.2.1, ((w64 (y120.2.2.2.1 + (1 : Int))), (y120.2.2.2.2, (y120.2.1, ())))), dp))).bind fun r122 => sm r122 (fun r123 : (((List ByteArray) × (Int × (Int × (Yt × PUnit)))) × Int) => iter lf (fun y124 : (Int × (Yt × ((List ByteArray) × (Int × Int)))) => cond (decide (y124.2.2.2.2 = (0 : Int))) (cond (decide (y124.2.2.2.1 < (y124.2.2.1.length : Int))) (((getI y124.2.2.1 y124.2.2.2.1)).bind fun r125 => cond (r125.data.toList == [(UInt8.ofNat 97), (UInt8.ofNat 110), (UInt8.ofNat 100)]) (((G245 lf n ((y124.2.2.1, ((w64 (y124.2.2.2.1 + (1 : Int))), (y124.2.2.2.2, (y124.2.1, ())))), dp))).bind fun r126 => sm r126 (fun r127 : (((List ByteArray) × (Int × (Int × (Yt × PUnit)))) × Int) => cond (decide (r127.1.2.2.1 = (0 : Int))) (((appC r127.1.2.2.2.1 [((5 : Int), (y124.1, (r127.2, ((bts []), (0 : Int)))))])).bind fun r128 => some (.inl ((w64 ((r128.length : Int) - (1 : Int))), (r128, (r127.1.1, (r127.1.2.1, r127.1.2.2.1)))))) (some (.inl (y124.1, (r127.1.2.2.2.1, (r127.1.1, (r127.1.2.1, r127.1.2.2.1))))))) (fun r129 : Int => some (.inr (.inr (.inr (.inr (E r129))))))) (some (.inr (.inl (y124.1, (y124.2.1, (y124.2.2.1, (y124.2.2.2.1, y124.2.2.2.2)))))))) (some (.inr (.inl (y124.1, (y124.2.1, (y124.2.2.1, (y124.2.2.2.1, y124.2.2.2.2)))))))) (some (.inr (.inl (y124.1, (y124.2.1, (y124.2.2.1, (y124.2.2.2.1, y124.2.2.2.2)))))))) (r123.2, (r123.1.2.2.2.1, (r123.1.1, (r123.1.2.1, r123.1.2.2.1))))) (fun r130 : Int => some (.inr (.inr (.inr (E r130)))))) (fun y131 : (Int × (Yt × ((List ByteArray) × (Int × Int)))) => cond (decide (y131.2.2.2.2 = (0 : Int))) (((appC y131.2.1 [((6 : Int), (y120.1, (y131.1, ((bts []), (0 : Int)))))])).bind fun r132 => some (.inl ((w64 ((r132.length : Int) - (1 : Int))), (r132, (y131.2.2.1, (y131.2.2.2.1, y131.2.2.2.2)))))) (some (.inl (y120.1, (y131.2.1, (y131.2.2.1, (y131.2.2.2.1, y131.2.2.2.2)))))))) (some (.inr (.inl ((y120.2.2.1, (y120.2.2.2.1, (y120.2.2.2.2, (y120.2.1, ())))), y120.1))))) (some (.inr (.inl ((y120.2.2.1, (y120.2.2.2.1, (y120.2.2.2.2, (y120.2.1, ())))), y120.1))))) (some (.inr (.inl ((y120.2.2.1, (y120.2.2.2.1, (y120.2.2.2.2, (y120.2.1, ())))), y120.1))))) (mk4 ws s) = some r ∧ ∃ y, r = .inl y ∧ Er5 ws k y := by
 have hA : ∀ i ts, i ≤ ws.length → GoodP ws i ts (allS ws one F i ts) := fun i ts h => allS_good (by omega) hN i ts h
 have eA : ∀ i ts, allS ws one F i ts = match one i ts with
  | .inr k => .inr k
  | .inl s => loopS wAnd 5 ws one F s := fun _ _ => rfl
 refine iter_loopR (α := R4) (ρ := T5 ⊕ ρ) (wrd := wOr) (kind := 6) (next := allS ws one F) bts_ne hA (mk4 ws) (fun t => .inl (mk5 ws t)) (fun k r => ∃ y, r = .inl y ∧ Er5 ws k y) ?_ ?_ ?_ F lf s h1 h2 (by omega) (by omega)
 ·intro s s1 s2 he
  simp only [mk4, decide_true, zt, qOr]
  rw [rdL2 s1 (fun w => decide (w = wOr)) (by decide)]
  simp only [zd he, zf]
 ·intro s s1 s2 he t ht
  have hlt := wAt_of he
  have hr := hG (s.1 + 1) s.2.1 (by omega) (by omega)
  have hg := hN (s.1 + 1) s.2.1 (by omega)
  rw [eA] at ht
  cases hy : one (s.1 + 1) s.2.1 with
  | inr k => rw [hy] at ht; cases ht
  | inl u =>
   rw [hy] at ht hr hg
   simp only at ht
   obtain ⟨q1, q2, q3⟩ := hg
   have hr' : G245 lf n ((ws, (((s.1 + 1 : Nat) : Int), ((0 : Int), (s.2.1, ())))), dp) = some (.inl ((ws, ((u.1 : Int), ((0 : Int), (u.2.1, ())))), u.2.2)) := hr
   have hgl := loopS_good (wrd := wAnd) (kind := 5) bts_ne hN F u q2 (by omega)
   have hB := and_loopR (ρ := (R4 ⊕ (T5 ⊕ ρ))) hlf hl hF hN hG (fun e => .inr (.inr (.inr (E e)))) u q2 (by omega)
   rw [ht] at hB hgl
   obtain ⟨b1, b2, b3⟩ := hgl
   simp only at hB
   have hb : List.length t.2.1 ≤ 100000 := by omega
   simp only [mk4, decide_true, zt, qOr]
   rw [rdL2 s1 (fun w => decide (w = wOr)) (by decide)]
   simp only [he, decide_true, zt, succ_W (show s.1 + 1 < 9223372036854775808 by omega), hr', zb, sm]
   refine (congrArg (fun z => jn z _) hB).trans ?_
   simp only [jl, mk4, decide_true, zt, appT hb, zb, lenT hb]
   rfl
 ·intro s s1 s2 he k hk
  have hlt := wAt_of he
  have hr := hG (s.1 + 1) s.2.1 (by omega) (by omega)
  have hg := hN (s.1 + 1) s.2.1 (by omega)
  have hgk := hA (s.1 + 1) s.2.1 (by omega)
  rw [hk] at hgk
  have h0 : 0 < k := by have := hgk.1; omega
  rw [eA] at hk
  cases hy : one (s.1 + 1) s.2.1 with
  | inr k2 =>
   rw [hy] at hk hr
   simp only [Sum.inr.injEq] at hk
   subst hk
   obtain ⟨i1, ts1, a1, hr⟩ := hr
   refine ⟨(s.2.2, (ts1, (ws, (i1, (k2 : Int))))), .inl ((ws, (i1, ((k2 : Int), (ts1, ())))), s.2.2), ?_, ?_, _, rfl, _, _, _, rfl⟩
   ·simp only [mk4, decide_true, zt, qOr]
    rw [rdL2 s1 (fun w => decide (w = wOr)) (by decide)]
    simp only [he, decide_true, zt, succ_W (show s.1 + 1 < 9223372036854775808 by omega), hr, zb, sm]
    refine stop_P (P := fun z => jn z _ = _) (r := .inl (a1, (ts1, (ws, (i1, (k2 : Int)))))) ?_ (by omega) ?_
    ·simp only [k_ne h0, zf]
    ·simp only [jl, k_ne h0, zf]
   ·simp only [k_ne h0, zf]
  | inl u =>
   rw [hy] at hk hr hg
   simp only at hk
   obtain ⟨q1, q2, q3⟩ := hg
   have hr' : G245 lf n ((ws, (((s.1 + 1 : Nat) : Int), ((0 : Int), (s.2.1, ())))), dp) = some (.inl ((ws, ((u.1 : Int), ((0 : Int), (u.2.1, ())))), u.2.2)) := hr
   have hB := and_loopR (ρ := (R4 ⊕ (T5 ⊕ ρ))) hlf hl hF hN hG (fun e => .inr (.inr (.inr (E e)))) u q2 (by omega)
   rw [hk] at hB
   obtain ⟨r, e1, y, e2, a1, ts1, i1, e3⟩ := hB
   subst e2 e3
   refine ⟨(s.2.2, (ts1, (ws, (i1, (k : Int))))), .inl ((ws, (i1, ((k : Int), (ts1, ())))), s.2.2), ?_, ?_, _, rfl, _, _, _, rfl⟩
   ·simp only [mk4, decide_true, zt, qOr]
    rw [rdL2 s1 (fun w => decide (w = wOr)) (by decide)]
    simp only [he, decide_true, zt, succ_W (show s.1 + 1 < 9223372036854775808 by omega), hr', zb, sm]
    refine (congrArg (fun z => jn z _) e1).trans ?_
    simp only [jl, k_ne h0, zf]
   ·simp only [k_ne h0, zf]
theorem G163_ok {lf : Nat} (hlf : 100000 < lf) {ws : List ByteArray} (hl : ws.length ≤ 8001) {F : Nat} (hF : F = ws.length + 1) {one : Nat → Cnd → PE}
  (hN : ∀ i ts, i ≤ ws.length → GoodP ws i ts (one i ts))
  (hG : ∀ i ts, i ≤ ws.length → List.length ts ≤ 2 * i → RRel ws (one i ts) (G245 lf lf ((ws, ((i : Int), ((0 : Int), (ts, ())))), (0 : Int)))) :
  RRel ws (cndS ws one F 0 []) (G163 lf ((ws, ((0 : Int), ((0 : Int), (([] : List (Int × (Int × (Int × (ByteArray × Int))))), ())))), (0 : Int))) := by
 unfold G163
 have hA : ∀ i ts, i ≤ ws.length → GoodP ws i ts (allS ws one F i ts) := fun i ts h => allS_good (by omega) hN i ts h
 have hg := hN 0 [] (by omega)
 have hr : RRel ws (one 0 []) (G245 lf lf ((ws, ((0 : Int), ((0 : Int), (([] : List (Int × (Int × (Int × (ByteArray × Int))))), ())))), (0 : Int))) := hG 0 [] (by omega) (by simp)
 unfold cndS
 have eA : allS ws one F 0 [] = match one 0 [] with
  | .inr k => .inr k
  | .inl s => loopS wAnd 5 ws one F s := rfl
 rw [eA]
 cases hx : one 0 [] with
 | inr k =>
  rw [hx] at hr hg
  have h0 : 0 < k := by have := hg.1; omega
  obtain ⟨i1, ts1, a1, hr⟩ := hr
  simp only [hr, zb, sm]
  refine stop_P (P := fun z => RRel ws _ (jn z _)) (r := .inl (a1, (ts1, (ws, (i1, (k : Int)))))) ?_ (by omega) ?_
  ·simp only [k_ne h0, zf]
  simp only [jl]
  refine stop_P (P := fun z => RRel ws _ z) (r := .inl ((ws, (i1, ((k : Int), (ts1, ())))), a1)) ?_ (by omega) ?_
  ·simp only [k_ne h0, zf]
  exact ⟨_, _, _, rfl⟩
 | inl t =>
  rw [hx] at hr hg
  obtain ⟨g1, g2, g3⟩ := hg
  simp only [zl] at g3
  have hr' : G245 lf lf ((ws, ((0 : Int), ((0 : Int), (([] : List (Int × (Int × (Int × (ByteArray × Int))))), ())))), (0 : Int)) = some (.inl ((ws, ((t.1 : Int), ((0 : Int), (t.2.1, ())))), t.2.2)) := hr
  simp only [hr', zb, sm]
  have hgl := loopS_good (wrd := wAnd) (kind := 5) bts_ne hN F t g2 (by omega)
  have hB := and_loopR (ρ := T5 ⊕ Int) hlf hl hF hN hG (fun e => .inr (.inr e)) t g2 (by omega)
  cases hz : loopS wAnd 5 ws one F t with
  | inr k =>
   rw [hz] at hB hgl
   have h0 : 0 < k := by have := hgl.1; omega
   obtain ⟨r, e1, y, e2, a1, ts1, i1, e3⟩ := hB
   subst e2 e3
   refine (congrArg (fun z => RRel ws _ (jn z _)) e1).mpr ?_
   simp only [jl]
   refine stop_P (P := fun z => RRel ws _ z) (r := .inl ((ws, (i1, ((k : Int), (ts1, ())))), a1)) ?_ (by omega) ?_
   ·simp only [k_ne h0, zf]
   exact ⟨_, _, _, rfl⟩
  | inl s0 =>
   rw [hz] at hB hgl
   obtain ⟨a1, a2, a3⟩ := hgl
   refine (congrArg (fun z => RRel ws _ (jn z _)) hB).mpr ?_
   simp only [jl]
   have hC := or_loopT (ρ := Int) hlf hl hF hN hG (fun e => e) s0 a2 (by omega)
   cases hz2 : loopS wOr 6 ws (allS ws one F) F s0 with
   | inr k =>
    rw [hz2] at hC
    obtain ⟨r, e1, y, e2, i1, ts1, a1, e3⟩ := hC
    subst e2 e3
    refine (congrArg (fun z => RRel ws _ z) e1).mpr ?_
    exact ⟨_, _, _, rfl⟩
   | inl s4 =>
    rw [hz2] at hC
    refine (congrArg (fun z => RRel ws _ z) hC).mpr ?_
    rfl
theorem G245_one {ws : List ByteArray} (hl : ws.length ≤ 8001) {F : Nat} (hF : F = ws.length + 1) : ∀ (n deep i : Nat) (ts : Cnd), deep ≤ 8 → 9 ≤ n + deep → i ≤ ws.length → List.length ts ≤ 2 * i →
  RRel ws (oneS ws F n deep i ts) (G245 LF n ((ws, ((i : Int), ((0 : Int), (ts, ())))), (deep : Int))) := by
 intro n
 induction n with
 | zero => intro deep i ts h1 h2; omega
 | succ n ih =>
  intro deep i ts h1 h2 h3 h4
  rw [G245_P]
  unfold oneS
  simp only [rdW2 h3, jl, qNot, qOpen, qTrue, G99_nm, zb, succ_W (show i + 1 < 9223372036854775808 by omega), succ_W (show deep + 1 < 9223372036854775808 by omega), decide_true, zt]
  by_cases hn : wAt ws i = wNot
  ·have hlt := wAt_of hn
   simp only [hn, decide_true, zt, jl, true_or, if_true]
   by_cases h8 : deep = 8
   ·subst h8
    simp only [show decide (((8 : Nat) : Int) = 8) = true by decide, zt, if_true]
    exact ⟨_, _, _, rfl⟩
   ·have e8 : decide ((deep : Int) = 8) = false := zd (by omega)
    simp only [e8, zf, if_neg h8]
    have hr := ih (deep + 1) (i + 1) ts (by omega) (by omega) (by omega) (by omega)
    have hg := oneS_good (ws := ws) (F := F) (by omega) n (deep + 1) (i + 1) ts (by omega) (by omega) (by omega)
    cases hx : oneS ws F n (deep + 1) (i + 1) ts with
    | inr k =>
     rw [hx] at hr hg
     have h0 : 0 < k := by have := hg.1; omega
     obtain ⟨i1, ts1, a1, hr⟩ := hr
     simp only [hr, zb, sm, k_ne h0, Bool.not_false, zt]
     exact ⟨_, _, _, rfl⟩
    | inl t =>
     rw [hx] at hr hg
     obtain ⟨g1, g2, g3⟩ := hg
     have hr' : G245 LF n ((ws, (((i + 1 : Nat) : Int), ((0 : Int), (ts, ())))), ((deep + 1 : Nat) : Int)) = some (.inl ((ws, ((t.1 : Int), ((0 : Int), (t.2.1, ())))), t.2.2)) := hr
     have hb : List.length t.2.1 ≤ 100000 := by omega
     simp only [hr', zb, sm, decide_true, Bool.not_true, zf, appT hb, lenT hb]
     rfl
  ·by_cases ho : wAt ws i = wOpen
   ·have hlt := wAt_of ho
    have hno : ¬ (wOpen = wNot) := by decide
    simp only [ho, hno, decide_true, decide_false, zt, zf, jl, or_true, if_true, if_false]
    by_cases h8 : deep = 8
    ·subst h8
     simp only [show decide (((8 : Nat) : Int) = 8) = true by decide, zt, if_true]
     exact ⟨_, _, _, rfl⟩
    ·have e8 : decide ((deep : Int) = 8) = false := zd (by omega)
     simp only [e8, zf, if_neg h8]
     exact P245_ok (LFpos _ (by omega)) hl hF (by omega) hlt h4 (fun i ts h => oneS_good (by omega) n (deep + 1) i ts (by omega) (by omega) h) (fun i ts h h' => ih (deep + 1) i ts (by omega) (by omega) h h')
   ·have hnn : ¬ (wAt ws i = wNot ∨ wAt ws i = wOpen) := fun h => h.elim hn ho
    simp only [zd hn, zd ho, zf, jl, if_neg hnn]
    by_cases ht : wAt ws i = wTrue
    ·have hlt := wAt_of ht
     have hb : List.length ts ≤ 100000 := by omega
     simp only [ht, decide_true, zt, if_true, appT hb, zb, lenT hb]
     rfl
    ·simp only [zd ht, zf, if_neg ht]
     cases hm : nmB (wAt ws i) with
     | false =>
      simp only [Bool.not_false, zt, if_true]
      exact ⟨_, _, _, rfl⟩
     | true =>
      have hlt : i < ws.length := wAt_lt fun e => by rw [e] at hm; exact absurd hm (by decide)
      simp only [Bool.not_true, zf, Bool.true_eq_false, if_false]
      exact Q245_cmp hl hlt (by omega)
theorem G89_parse {ws : List ByteArray} (hl : ws.length ≤ 8001) : G89 LF ws = some (parseW ws) := by
 unfold G89 parseW
 have h := G163_ok (lf := LF) (LFpos _ (by omega)) hl rfl (one := oneS ws (ws.length + 1) LF 0) (fun i ts h => oneS_good (by omega) LF 0 i ts (by omega) (by show 9 ≤ 9223372036854775808 + 0; omega) h)
   (fun i ts h h' => G245_one (by omega) rfl LF 0 i ts (by omega) (by show 9 ≤ 9223372036854775808 + 0; omega) h h')
 have hg := cndS_good (ws := ws) (one := oneS ws (ws.length + 1) LF 0) (F := ws.length + 1) (by omega) (fun i ts h => oneS_good (by omega) LF 0 i ts (by omega) (by show 9 ≤ 9223372036854775808 + 0; omega) h) 0 [] (by omega)
 cases hx : cndS ws (oneS ws (ws.length + 1) LF 0) (ws.length + 1) 0 [] with
 | inr k =>
  rw [hx] at h hg
  have h0 : 0 < k := by have := hg.1; omega
  obtain ⟨i1, ts1, a1, h⟩ := h
  simp only [h, zb, sm, k_ne h0, zf, jl, Bool.not_false, zt, condW]
 | inl t =>
  rw [hx] at h hg
  obtain ⟨g1, g2, g3⟩ := hg
  have h' : G163 LF ((ws, ((0 : Int), ((0 : Int), (([] : List (Int × (Int × (Int × (ByteArray × Int))))), ())))), (0 : Int)) = some (.inl ((ws, ((t.1 : Int), ((0 : Int), (t.2.1, ())))), t.2.2)) := h
  simp only [h', zb, sm, decide_true, zt, jl, condW, succ_W (show t.1 + 1 < 9223372036854775808 by omega)]
  by_cases hc : t.1 < ws.length
  ·simp only [ze (show (t.1 : Int) < (ws.length : Int) by omega), zt, jl, if_pos hc, k_ne (show 0 < t.1 + 1 by omega), Bool.not_false]
  ·simp only [zd (show ¬ (t.1 : Int) < (ws.length : Int) by omega), zf, jl, if_neg hc, decide_true, Bool.not_true]
   by_cases h30 : 30 < List.length t.2.1
   ·simp only [ze (show ((List.length t.2.1 : Nat) : Int) > 30 by omega), zt, if_pos h30]
   ·simp only [zd (show ¬ ((List.length t.2.1 : Nat) : Int) > 30 by omega), zf, if_neg h30]
end Go.K
set_option maxHeartbeats 0
namespace Go.K
noncomputable section
open Go.Sl Go.Sx Go.Proofs
def G141 (lf : Nat) : Nat → Int → Option (ByteArray)
 | 0, _ => none
 | n + 1, x => cond (decide (x < (-9 : Int))) (((G141 lf n (w64 (Int.tdiv x (10 : Int))))).bind fun r11 => ((catC r11 (strI [(Go.IntKind.wrap .u8 (w64 ((48 : Int) - (Int.tmod x (10 : Int)))))]))).bind fun r12 => some (r11 ++ (strI [(Go.IntKind.wrap .u8 (w64 ((48 : Int) - (Int.tmod x (10 : Int)))))]))) (cond (decide (x < (0 : Int))) (((G141 lf n (w64 ((0 : Int) - x)))).bind fun r15 => ((catC (bts [45]) r15)).bind fun r16 => some ((bts [45]) ++ r15)) (cond (decide (x < (10 : Int))) (some (strI [(Go.IntKind.wrap .u8 (w64 ((48 : Int) + x)))])) (((G141 lf n (w64 (Int.tdiv x (10 : Int))))).bind fun r17 => ((catC r17 (strI [(Go.IntKind.wrap .u8 (w64 ((48 : Int) + (Int.tmod x (10 : Int)))))]))).bind fun r18 => some (r17 ++ (strI [(Go.IntKind.wrap .u8 (w64 ((48 : Int) + (Int.tmod x (10 : Int)))))])))))
def G169 (lf : Nat) (x : ((Int × (Int × (Int × (ByteArray × Int)))) × Bool)) : Option (ByteArray) :=
 ((getI [((bts [60]), (bts [62, 61])), ((bts [60, 61]), (bts [62])), ((bts [61]), (bts [33, 61]))] (w64 (x.1.1 - (1 : Int))))).bind fun r18 => ((getI [((bts [60]), (bts [62, 61])), ((bts [60, 61]), (bts [62])), ((bts [61]), (bts [33, 61]))] (w64 (x.1.1 - (1 : Int))))).bind fun r19 => cond x.2 (((catC x.1.2.2.2.1 (bts [32]))).bind fun r20 => ((catC (x.1.2.2.2.1 ++ (bts [32])) r19.2)).bind fun r21 => ((catC ((x.1.2.2.2.1 ++ (bts [32])) ++ r19.2) (bts [32]))).bind fun r22 => ((G141 lf lf x.1.2.2.2.2)).bind fun r23 => ((catC (((x.1.2.2.2.1 ++ (bts [32])) ++ r19.2) ++ (bts [32])) r23)).bind fun r24 => some ((((x.1.2.2.2.1 ++ (bts [32])) ++ r19.2) ++ (bts [32])) ++ r23)) (((catC x.1.2.2.2.1 (bts [32]))).bind fun r25 => ((catC (x.1.2.2.2.1 ++ (bts [32])) r19.1)).bind fun r26 => ((catC ((x.1.2.2.2.1 ++ (bts [32])) ++ r19.1) (bts [32]))).bind fun r27 => ((G141 lf lf x.1.2.2.2.2)).bind fun r28 => ((catC (((x.1.2.2.2.1 ++ (bts [32])) ++ r19.1) ++ (bts [32])) r28)).bind fun r29 => some ((((x.1.2.2.2.1 ++ (bts [32])) ++ r19.1) ++ (bts [32])) ++ r28))
def G171 (lf : Nat) (x : (Int × (Int × (Int × (ByteArray × Int))))) : Option (Bool) :=
 cond (decide (x.1 = (5 : Int))) (some true) (some (decide (x.1 = (6 : Int))))
def G170 (lf : Nat) (x : ((Int × (Int × Int)) × Bool)) : Option ((Int × (Int × Int))) :=
 cond x.2 (some ((w64 (x.1.1 + (4 : Int))), ((w64 (x.1.2.1 + (1 : Int))), x.1.2.2))) (some (x.1.1, (x.1.2.1, x.1.2.2)))
def G100 (lf : Nat) (x : Yt) : Option ((List (Int × (Int × Int)))) :=
 iter lf (fun y117 : ((List (Int × (Int × Int))) × Int) => cond (decide (y117.2 < (x.length : Int))) (((getI x y117.2)).bind fun r118 => jn (jn (cond (decide (r118.1 = (1 : Int))) (some (.inl (decide (r118.1 = (1 : Int))))) (cond (decide (r118.1 = (2 : Int))) (some (.inl (decide (r118.1 = (2 : Int))))) (some (.inl (decide (r118.1 = (3 : Int))))))) (fun y119 : Bool => cond y119 (((G169 lf ((r118.1, (r118.2.1, (r118.2.2.1, (r118.2.2.2.1, r118.2.2.2.2)))), false))).bind fun r120 => some (.inl ((r120.size : Int), ((0 : Int), (1 : Int))))) (cond (decide (r118.1 = (4 : Int))) (((getI x r118.2.1)).bind fun r121 => ((G98 lf r121.1)).bind fun r122 => cond r122 (((G169 lf ((r121.1, (r121.2.1, (r121.2.2.1, (r121.2.2.2.1, r121.2.2.2.2)))), true))).bind fun r123 => some (.inl ((r123.size : Int), ((0 : Int), (2 : Int))))) (((getI y117.1 r118.2.1)).bind fun r124 => ((getI y117.1 r118.2.1)).bind fun r125 => ((G171 lf (r121.1, (r121.2.1, (r121.2.2.1, (r121.2.2.2.1, r121.2.2.2.2)))))).bind fun r126 => ((G170 lf ((r125.1, (r125.2.1, r125.2.2)), r126))).bind fun r127 => some (.inl ((w64 (r127.1 + (4 : Int))), ((w64 (r127.2.1 + (1 : Int))), (w64 (r127.2.2 + (1 : Int)))))))) (jn (cond (decide (r118.1 = (5 : Int))) (some (.inl (decide (r118.1 = (5 : Int))))) (some (.inl (decide (r118.1 = (6 : Int)))))) (fun y131 : Bool => cond y131 (((getI x r118.2.1)).bind fun r132 => ((getI x r118.2.2.1)).bind fun r133 => ((getI y117.1 r118.2.1)).bind fun r134 => ((getI y117.1 r118.2.1)).bind fun r135 => cond (decide (r118.1 = (5 : Int))) (((G170 lf ((r135.1, (r135.2.1, r135.2.2)), (decide (r132.1 = (6 : Int)))))).bind fun r136 => ((getI y117.1 r118.2.2.1)).bind fun r137 => ((getI y117.1 r118.2.2.1)).bind fun r138 => cond (decide (r118.1 = (5 : Int))) (((G171 lf (r133.1, (r133.2.1, (r133.2.2.1, (r133.2.2.2.1, r133.2.2.2.2)))))).bind fun r139 => cond r139 (((G170 lf ((r138.1, (r138.2.1, r138.2.2)), true))).bind fun r140 => jn (cond (decide (r118.1 = (6 : Int))) (some (.inl (4 : Int))) (some (.inl (5 : Int)))) (fun y141 : Int => some (.inl ((w64 ((w64 (r136.1 + y141)) + r140.1)), ((if r140.2.1 > r136.2.1 then r140.2.1 else r136.2.1), (w64 ((w64 (r136.2.2 + r140.2.2)) + (1 : Int)))))))) (((G170 lf ((r138.1, (r138.2.1, r138.2.2)), (decide (r133.1 = (6 : Int)))))).bind fun r144 => jn (cond (decide (r118.1 = (6 : Int))) (some (.inl (4 : Int))) (some (.inl (5 : Int)))) (fun y145 : Int => some (.inl ((w64 ((w64 (r136.1 + y145)) + r144.1)), ((if r144.2.1 > r136.2.1 then r144.2.1 else r136.2.1), (w64 ((w64 (r136.2.2 + r144.2.2)) + (1 : Int))))))))) (((G170 lf ((r138.1, (r138.2.1, r138.2.2)), (decide (r133.1 = (6 : Int)))))).bind fun r153 => jn (cond (decide (r118.1 = (6 : Int))) (some (.inl (4 : Int))) (some (.inl (5 : Int)))) (fun y154 : Int => some (.inl ((w64 ((w64 (r136.1 + y154)) + r153.1)), ((if r153.2.1 > r136.2.1 then r153.2.1 else r136.2.1), (w64 ((w64 (r136.2.2 + r153.2.2)) + (1 : Int))))))))) (((G170 lf ((r135.1, (r135.2.1, r135.2.2)), false))).bind fun r182 => ((getI y117.1 r118.2.2.1)).bind fun r183 => ((getI y117.1 r118.2.2.1)).bind fun r184 => cond (decide (r118.1 = (5 : Int))) (((G171 lf (r133.1, (r133.2.1, (r133.2.2.1, (r133.2.2.2.1, r133.2.2.2.2)))))).bind fun r185 => cond r185 (((G170 lf ((r184.1, (r184.2.1, r184.2.2)), true))).bind fun r186 => jn (cond (decide (r118.1 = (6 : Int))) (some (.inl (4 : Int))) (some (.inl (5 : Int)))) (fun y187 : Int => some (.inl ((w64 ((w64 (r182.1 + y187)) + r186.1)), ((if r186.2.1 > r182.2.1 then r186.2.1 else r182.2.1), (w64 ((w64 (r182.2.2 + r186.2.2)) + (1 : Int)))))))) (((G170 lf ((r184.1, (r184.2.1, r184.2.2)), (decide (r133.1 = (6 : Int)))))).bind fun r190 => jn (cond (decide (r118.1 = (6 : Int))) (some (.inl (4 : Int))) (some (.inl (5 : Int)))) (fun y191 : Int => some (.inl ((w64 ((w64 (r182.1 + y191)) + r190.1)), ((if r190.2.1 > r182.2.1 then r190.2.1 else r182.2.1), (w64 ((w64 (r182.2.2 + r190.2.2)) + (1 : Int))))))))) (((G170 lf ((r184.1, (r184.2.1, r184.2.2)), (decide (r133.1 = (6 : Int)))))).bind fun r199 => jn (cond (decide (r118.1 = (6 : Int))) (some (.inl (4 : Int))) (some (.inl (5 : Int)))) (fun y200 : Int => some (.inl ((w64 ((w64 (r182.1 + y200)) + r199.1)), ((if r199.2.1 > r182.2.1 then r199.2.1 else r182.2.1), (w64 ((w64 (r182.2.2 + r199.2.2)) + (1 : Int)))))))))) (some (.inl ((4 : Int), ((0 : Int), (1 : Int)))))))))) (fun y228 : (Int × (Int × Int)) => ((appC y117.1 [((if (8001 : Int) < y228.1 then (8001 : Int) else y228.1), (y228.2.1, (if (31 : Int) < y228.2.2 then (31 : Int) else y228.2.2)))])).bind fun r229 => some (.inl (r229, (w64 (y117.2 + (1 : Int))))))) (some (.inr y117.1))) (([] : List (Int × (Int × Int))), (0 : Int))
def G172 (lf : Nat) (x : (ByteArray × Bool)) : Option (ByteArray) :=
 cond x.2 (((catC (bts [40, 32]) x.1)).bind fun r4 => ((catC ((bts [40, 32]) ++ x.1) (bts [32, 41]))).bind fun r5 => some (((bts [40, 32]) ++ x.1) ++ (bts [32, 41]))) (some x.1)
def G101 (lf : Nat) : Nat → (Yt × Int) → Option (ByteArray)
 | 0, _ => none
 | n + 1, x => ((getI x.1 x.2)).bind fun r26 => cond (decide (r26.1 = (0 : Int))) (some (bts [116, 114, 117, 101])) (cond (decide (r26.1 = (4 : Int))) (((getI x.1 r26.2.1)).bind fun r27 => ((G98 lf r27.1)).bind fun r28 => cond r28 (((G169 lf ((r27.1, (r27.2.1, (r27.2.2.1, (r27.2.2.2.1, r27.2.2.2.2)))), true))).bind fun r29 => some r29) (((G101 lf n (x.1, r26.2.1))).bind fun r30 => ((G171 lf (r27.1, (r27.2.1, (r27.2.2.1, (r27.2.2.2.1, r27.2.2.2.2)))))).bind fun r31 => ((G172 lf (r30, r31))).bind fun r32 => ((catC (bts [110, 111, 116, 32]) r32)).bind fun r33 => some ((bts [110, 111, 116, 32]) ++ r32))) (cond (decide (r26.1 = (5 : Int))) (((getI x.1 r26.2.1)).bind fun r34 => ((getI x.1 r26.2.2.1)).bind fun r35 => ((G101 lf n (x.1, r26.2.1))).bind fun r36 => ((G172 lf (r36, (decide (r34.1 = (6 : Int)))))).bind fun r37 => ((catC r37 (bts [32, 97, 110, 100, 32]))).bind fun r38 => ((G101 lf n (x.1, r26.2.2.1))).bind fun r39 => ((G171 lf (r35.1, (r35.2.1, (r35.2.2.1, (r35.2.2.2.1, r35.2.2.2.2)))))).bind fun r40 => ((G172 lf (r39, r40))).bind fun r41 => ((catC (r37 ++ (bts [32, 97, 110, 100, 32])) r41)).bind fun r42 => some ((r37 ++ (bts [32, 97, 110, 100, 32])) ++ r41)) (cond (decide (r26.1 = (6 : Int))) (((getI x.1 r26.2.2.1)).bind fun r43 => ((G101 lf n (x.1, r26.2.1))).bind fun r44 => ((catC r44 (bts [32, 111, 114, 32]))).bind fun r45 => ((G101 lf n (x.1, r26.2.2.1))).bind fun r46 => ((G172 lf (r46, (decide (r43.1 = (6 : Int)))))).bind fun r47 => ((catC (r44 ++ (bts [32, 111, 114, 32])) r47)).bind fun r48 => some ((r44 ++ (bts [32, 111, 114, 32])) ++ r47)) (((G169 lf ((r26.1, (r26.2.1, (r26.2.2.1, (r26.2.2.2.1, r26.2.2.2.2)))), false))).bind fun r49 => some r49))))
def G20 (lf : Nat) (x : Yt) : Option ((ByteArray × Int)) :=
 jn (cond (decide ((x.length : Int) = (0 : Int))) (some (.inl true)) (some (.inl (decide ((x.length : Int) > (30 : Int)))))) (fun y12 : Bool => cond y12 (some ((bts []), (41 : Int))) (iter lf (fun y13 : Int => cond (decide (y13 < (x.length : Int))) (((getI x y13)).bind fun r14 => jn (((G97 lf ((r14.1, (r14.2.1, (r14.2.2.1, (r14.2.2.2.1, r14.2.2.2.2)))), y13))).bind fun r15 => cond (!r15) (some (.inl true)) (((G98 lf r14.1)).bind fun r16 => cond r16 (((G99 lf r14.2.2.2.1)).bind fun r17 => some (.inl (!r17))) (some (.inl false)))) (fun y18 : Bool => cond y18 (some (.inr ((bts []), (41 : Int)))) (some (.inl (w64 (y13 + (1 : Int))))))) (outR (((G100 lf x)).bind fun r19 => ((getI r19 (w64 ((x.length : Int) - (1 : Int))))).bind fun r20 => cond (decide (r20.2.1 > (8 : Int))) (some ((bts []), (41 : Int))) (jn (cond (decide (r20.1 > (8000 : Int))) (some (.inl true)) (some (.inl (decide (r20.2.2 > (30 : Int)))))) (fun y21 : Bool => cond y21 (some ((bts []), (2 : Int))) (((G101 lf lf (x, (w64 ((x.length : Int) - (1 : Int)))))).bind fun r22 => some (r22, (0 : Int)))))))) (0 : Int)))
end
end Go.K
namespace Go.K
open Go.Sl Go.Sx Go.Proofs
theorem cond_if {α : Type} (b : Prop) [Decidable b] (x y : α) : cond (decide b) x y = if b then x else y := by by_cases h : b <;> simp [h]
theorem G141_pos (lf : Nat) : ∀ (k u : Nat), u < 10 ^ (k + 1) → u < 10000000000000000 → G141 lf (k + 1) (u : Int) = some ⟨(Lib.decDigits u).toArray⟩
 | k, u, h1, h2 => by
  rw [G141.eq_2]
  have c1 : ¬ ((u : Int) < -9) := by omega
  have c2 : ¬ ((u : Int) < 0) := by omega
  simp only [cond_if, c1, c2, if_false]
  by_cases h : u < 10
  ·have c3 : (u : Int) < 10 := by omega
   simp only [c3, if_true]
   rw [dig_one h, dec_small h]
  ·have c3 : ¬ (u : Int) < 10 := by omega
   simp only [c3, if_false, agree_self]
   cases k with
   | zero => omega
   | succ k =>
    have e1 : w64 (Int.tdiv (u : Int) 10) = ((u / 10 : Nat) : Int) := by
     rw [show Int.tdiv (u : Int) 10 = ((u / 10 : Nat) : Int) from rfl, w64_id (by omega) (by omega)]
    have e2 : Int.tmod (u : Int) 10 = ((u % 10 : Nat) : Int) := rfl
    have hp : 10 ^ (k + 1 + 1) = 10 ^ (k + 1) * 10 := Nat.pow_succ ..
    rw [e1, e2, G141_pos lf k (u / 10) (by omega) (by omega), dig_one (Nat.mod_lt _ (by decide)), dec_big h]
    have := (dec_len (u / 10)).2
    simp only [zb, cat_of _ _ (show (Lib.decDigits (u / 10)).length + [UInt8.ofNat (48 + u % 10)].length ≤ 9223372036854775807 by simp; omega), app_L]
theorem G141_neg (lf : Nat) : ∀ (k u : Nat), 1 ≤ u → u < 10 ^ (k + 1) → u < 10000000000000000 → G141 lf (k + 2) (-(u : Int)) = some ⟨(45 :: Lib.decDigits u).toArray⟩
 | k, u, h0, h1, h2 => by
  rw [G141.eq_2]
  by_cases h : u < 10
  ·have c1 : ¬ (-(u : Int) < -9) := by omega
   have c2 : -(u : Int) < 0 := by omega
   have e : w64 ((0 : Int) - -(u : Int)) = (u : Int) := by rw [w64_id (by omega) (by omega)]; omega
   simp only [cond_if, c1, c2, if_false, if_true, e]
   rw [G141_pos lf k u h1 h2]
   have := (dec_len u).2
   have hb : bts [45] = ⟨[(45 : UInt8)].toArray⟩ := rfl
   rw [hb]
   simp only [zb, cat_of _ _ (show [(45 : UInt8)].length + (Lib.decDigits u).length ≤ 9223372036854775807 by simp; omega), app_L]
   rfl
  ·have c1 : -(u : Int) < -9 := by omega
   simp only [cond_if, c1, if_true, agree_self]
   cases k with
   | zero => omega
   | succ k =>
    have e1 : w64 (Int.tdiv (-(u : Int)) 10) = -((u / 10 : Nat) : Int) := by
     rw [Int.neg_tdiv, show Int.tdiv (u : Int) 10 = ((u / 10 : Nat) : Int) from rfl, w64_id (by omega) (by omega)]
    have e2 : (48 : Int) - Int.tmod (-(u : Int)) 10 = (48 : Int) + ((u % 10 : Nat) : Int) := by
     rw [Int.neg_tmod, show Int.tmod (u : Int) 10 = ((u % 10 : Nat) : Int) from rfl]; omega
    have hp : 10 ^ (k + 1 + 1) = 10 ^ (k + 1) * 10 := Nat.pow_succ ..
    rw [e1, e2, G141_neg lf k (u / 10) (by omega) (by omega) (by omega), dig_one (Nat.mod_lt _ (by decide)), dec_big h]
    have := (dec_len (u / 10)).2
    simp only [zb, cat_of _ _ (show (45 :: Lib.decDigits (u / 10)).length + [UInt8.ofNat (48 + u % 10)].length ≤ 9223372036854775807 by simp; omega), app_L]
    rfl
theorem G141_it (lf m : Nat) (hm : 16 ≤ m) {n : Int} (h : -1000000000000 ≤ n ∧ n ≤ 1000000000000) : G141 lf m n = some (It n) := by
 obtain ⟨k, rfl⟩ : ∃ k, m = k + 2 := ⟨m - 2, by omega⟩
 have hp : 10 ^ 13 ≤ 10 ^ (k + 1) * 10 ^ 0 := by
  rw [Nat.pow_zero, Nat.mul_one]; exact Nat.pow_le_pow_right (by decide) (by omega)
 simp only [Nat.pow_zero, Nat.mul_one] at hp
 have e10 : 10 ^ 13 = 10000000000000 := by decide
 have hp2 : 10 ^ (k + 1 + 1) = 10 ^ (k + 1) * 10 := Nat.pow_succ ..
 unfold It Lib.itoa
 by_cases hn : n < 0
 ·rw [if_pos hn]
  obtain ⟨u, hu⟩ : ∃ u : Nat, n = -(u : Int) := ⟨n.natAbs, by omega⟩
  subst hu
  have : (-(u : Int)).natAbs = u := by omega
  rw [this]
  exact G141_neg lf k u (by omega) (by omega) (by omega)
 ·rw [if_neg hn]
  obtain ⟨u, hu⟩ : ∃ u : Nat, n = (u : Int) := ⟨n.toNat, by omega⟩
  subst hu
  exact G141_pos lf (k + 1) u (by omega) (by omega)
theorem itoaC_it {n : Int} (h : -1000000000000 ≤ n ∧ n ≤ 1000000000000) : itoaC n = some (It n) := by
 unfold itoaC It; rw [if_pos (by omega)]
theorem It_size {n : Int} (h : -1000000000000 ≤ n ∧ n ≤ 1000000000000) : (It n).size ≤ 14 := by
 rw [size_len]
 unfold It
 rw [ofL_data]
 unfold Lib.itoa
 have e : (10 : Nat) ^ (12 + 1) = 10000000000000 := by decide
 have h1 := dec_len10 12 n.natAbs (by omega)
 have h2 := dec_len10 12 n.toNat (by omega)
 split
 ·simp only [zc]; omega
 ·omega
abbrev tm0 : Tm := (0, (0, (0, (bts [], 0))))
def getT (c : Cnd) (i : Nat) : Tm := c.getD i tm0
theorem getT_I {c : Cnd} {i : Nat} (h : i < List.length c) : getI c (i : Int) = some (getT c i) := by
 refine getI_nat ?_
 unfold getT
 rw [List.getD_eq_getElem?_getD, List.getElem?_eq_getElem h]; rfl
def Shd (c : Cnd) : Prop := ∀ i, i < List.length c → shp (getT c i) i = true ∧ (cmpK (getT c i).1 = true → nmB (getT c i).2.2.2.1 = true)
theorem Shd_4 {c : Cnd} (hc : Shd c) {i : Nat} (hi : i < List.length c) (h : (getT c i).1 = 4) : ∃ a : Nat, (getT c i).2.1 = (a : Int) ∧ a < i := by
 have := (hc i hi).1
 unfold shp at this
 rw [if_neg (by omega), if_neg (by omega), if_pos h] at this
 have := of_decide_eq_true this
 exact ⟨(getT c i).2.1.toNat, by omega, by omega⟩
theorem Shd_5 {c : Cnd} (hc : Shd c) {i : Nat} (hi : i < List.length c) (h : (getT c i).1 = 5 ∨ (getT c i).1 = 6) : ∃ a b : Nat, (getT c i).2.1 = (a : Int) ∧ (getT c i).2.2.1 = (b : Int) ∧ a < i ∧ b < i := by
 have := (hc i hi).1
 unfold shp at this
 rw [if_neg (by omega), if_neg (by omega), if_neg (by omega), if_pos h] at this
 have := of_decide_eq_true this
 exact ⟨(getT c i).2.1.toNat, (getT c i).2.2.1.toNat, by omega, by omega, by omega, by omega⟩
theorem Shd_c {c : Cnd} (hc : Shd c) {i : Nat} (hi : i < List.length c) (h : cmpK (getT c i).1 = true) : (getT c i).2.2.2.1.size ≤ 12 ∧ -1000000000000 ≤ (getT c i).2.2.2.2 ∧ (getT c i).2.2.2.2 ≤ 1000000000000 := by
 have h1 := (hc i hi).1
 have h2 := (hc i hi).2 h
 have h3 := of_decide_eq_true h
 unfold shp at h1
 rw [if_neg (by omega), if_pos h3] at h1
 have h1 := of_decide_eq_true h1
 unfold nmB at h2
 simp only [za, decide_eq_true_eq] at h2
 exact ⟨h2.1.1.2, h1.2.2.1, h1.2.2.2⟩
theorem Shd_k {c : Cnd} (hc : Shd c) {i : Nat} (hi : i < List.length c) : (getT c i).1 = 0 ∨ cmpK (getT c i).1 = true ∨ (getT c i).1 = 4 ∨ (getT c i).1 = 5 ∨ (getT c i).1 = 6 := by
 have h1 := (hc i hi).1
 unfold shp at h1
 by_cases a0 : (getT c i).1 = 0
 ·exact .inl a0
 ·rw [if_neg a0] at h1
  by_cases a1 : 1 ≤ (getT c i).1 ∧ (getT c i).1 ≤ 3
  ·exact .inr (.inl (ze a1))
  ·rw [if_neg a1] at h1
   by_cases a4 : (getT c i).1 = 4
   ·exact .inr (.inr (.inl a4))
   ·rw [if_neg a4] at h1
    by_cases a5 : (getT c i).1 = 5 ∨ (getT c i).1 = 6
    ·exact .inr (.inr (.inr a5))
    ·rw [if_neg a5] at h1; cases h1
def opT (k : Int) (neg : Bool) : ByteArray :=
 bif neg then (if k = 1 then bts [62, 61] else if k = 2 then bts [62] else bts [33, 61]) else (if k = 1 then bts [60] else if k = 2 then bts [60, 61] else bts [61])
def cmpT (t : Tm) (neg : Bool) : ByteArray := (((t.2.2.2.1 ++ bts [32]) ++ opT t.1 neg) ++ bts [32]) ++ It t.2.2.2.2
def rdT (s : ByteArray) (b : Bool) : ByteArray := bif b then (bts [40, 32] ++ s) ++ bts [32, 41] else s
def jnK (k : Int) : Bool := decide (k = 5 ∨ k = 6)
def prT (c : Cnd) : Nat → Nat → ByteArray
 | 0, _ => bts []
 | n + 1, i =>
  if (getT c i).1 = 0 then bts [116, 114, 117, 101]
  else if (getT c i).1 = 4 then
   (if cmpK (getT c (getT c i).2.1.toNat).1 = true then cmpT (getT c (getT c i).2.1.toNat) true
    else bts [110, 111, 116, 32] ++ rdT (prT c n (getT c i).2.1.toNat) (jnK (getT c (getT c i).2.1.toNat).1))
  else if (getT c i).1 = 5 then
   (rdT (prT c n (getT c i).2.1.toNat) (decide ((getT c (getT c i).2.1.toNat).1 = 6)) ++ bts [32, 97, 110, 100, 32]) ++ rdT (prT c n (getT c i).2.2.1.toNat) (jnK (getT c (getT c i).2.2.1.toNat).1)
  else if (getT c i).1 = 6 then
   (prT c n (getT c i).2.1.toNat ++ bts [32, 111, 114, 32]) ++ rdT (prT c n (getT c i).2.2.1.toNat) (decide ((getT c (getT c i).2.2.1.toNat).1 = 6))
  else cmpT (getT c i) false
theorem opT_size (k : Int) (neg : Bool) : (opT k neg).size ≤ 2 := by
 unfold opT
 cases neg <;> simp only [zt, zf] <;> split <;> (try split) <;> decide
theorem cmpT_size {c : Cnd} (hc : Shd c) {i : Nat} (hi : i < List.length c) (h : cmpK (getT c i).1 = true) (neg : Bool) : (cmpT (getT c i) neg).size ≤ 30 := by
 obtain ⟨h1, h2, h3⟩ := Shd_c hc hi h
 unfold cmpT
 have := It_size ⟨h2, h3⟩
 have := opT_size (getT c i).1 neg
 simp only [size_app, bts_size, zc, zl]; omega
theorem rdT_size (s : ByteArray) (b : Bool) : (rdT s b).size ≤ s.size + 4 := by
 unfold rdT
 cases b <;> simp only [zt, zf, size_app, bts_size, zc, zl] <;> omega
theorem prT_size {c : Cnd} (hc : Shd c) : ∀ (n i : Nat), i < List.length c → (prT c n i).size + 20 ≤ 64 * 2 ^ i
 | 0, i, _ => by
  have : 1 ≤ 2 ^ i := Nat.one_le_two_pow
  unfold prT; rw [bts_size]; simp only [zl]; omega
 | n + 1, i, hi => by
  have hp : 1 ≤ 2 ^ i := Nat.one_le_two_pow
  have hd : ∀ a, a < i → 2 * 2 ^ a ≤ 2 ^ i := fun a h => by
   have h2 : 2 ^ (a + 1) ≤ 2 ^ i := Nat.pow_le_pow_right (by omega) h
   rw [Nat.pow_succ] at h2; omega
  unfold prT
  by_cases a0 : (getT c i).1 = 0
  ·rw [if_pos a0, bts_size]; simp only [zc, zl]; omega
  rw [if_neg a0]
  by_cases a4 : (getT c i).1 = 4
  ·obtain ⟨a, e, ha⟩ := Shd_4 hc hi a4
   have h2 := hd a ha
   rw [if_pos a4, e, Int.toNat_natCast]
   by_cases hk : cmpK (getT c a).1 = true
   ·rw [if_pos hk]
    have := cmpT_size hc (show a < List.length c by omega) hk true
    omega
   ·rw [if_neg hk]
    have h1 := prT_size hc n a (by omega)
    have h3 := rdT_size (prT c n a) (jnK (getT c a).1)
    simp only [size_app, bts_size, zc, zl]; omega
  rw [if_neg a4]
  by_cases a5 : (getT c i).1 = 5
  ·obtain ⟨a, b, e, e2, ha, hb⟩ := Shd_5 hc hi (.inl a5)
   have h2 := hd a ha
   have h2b := hd b hb
   rw [if_pos a5, e, e2, Int.toNat_natCast, Int.toNat_natCast]
   have h1 := prT_size hc n a (by omega)
   have h1b := prT_size hc n b (by omega)
   have h3 := rdT_size (prT c n a) (decide ((getT c a).1 = 6))
   have h3b := rdT_size (prT c n b) (jnK (getT c b).1)
   simp only [size_app, bts_size, zc, zl]; omega
  rw [if_neg a5]
  by_cases a6 : (getT c i).1 = 6
  ·obtain ⟨a, b, e, e2, ha, hb⟩ := Shd_5 hc hi (.inr a6)
   have h2 := hd a ha
   have h2b := hd b hb
   rw [if_pos a6, e, e2, Int.toNat_natCast, Int.toNat_natCast]
   have h1 := prT_size hc n a (by omega)
   have h1b := prT_size hc n b (by omega)
   have h3b := rdT_size (prT c n b) (decide ((getT c b).1 = 6))
   simp only [size_app, bts_size, zc, zl]; omega
  rw [if_neg a6]
  have hk : cmpK (getT c i).1 = true := by rcases Shd_k hc hi with h | h | h | h | h <;> first | exact h | omega
  have := cmpT_size hc hi hk false
  omega
end Go.K
namespace Go.K
open Go.Sl Go.Sx Go.Proofs
theorem peta {α β : Type} (p : α × β) : (p.1, p.2) = p := rfl
theorem opI {k : Int} (h : cmpK k = true) : getI [((bts [60]), (bts [62, 61])), ((bts [60, 61]), (bts [62])), ((bts [61]), (bts [33, 61]))] (w64 (k - (1 : Int))) = some (opT k false, opT k true) := by
 have h := of_decide_eq_true h
 have : k = 1 ∨ k = 2 ∨ k = 3 := by omega
 rcases this with e | e | e <;> subst e <;> rfl
theorem cmp_cats {t : Tm} {neg : Bool} (h : t.2.2.2.1.size ≤ 12 ∧ -1000000000000 ≤ t.2.2.2.2 ∧ t.2.2.2.2 ≤ 1000000000000) : catC t.2.2.2.1 (bts [32]) = some () ∧ catC (t.2.2.2.1 ++ bts [32]) (opT t.1 neg) = some () ∧ catC ((t.2.2.2.1 ++ bts [32]) ++ opT t.1 neg) (bts [32]) = some () ∧ catC (((t.2.2.2.1 ++ bts [32]) ++ opT t.1 neg) ++ bts [32]) (It t.2.2.2.2) = some () := by
 have := It_size h.2
 have := opT_size t.1 neg
 have := h.1
 refine ⟨catC_of ?_, catC_of ?_, catC_of ?_, catC_of ?_⟩ <;> simp only [size_app, bts_size, zc, zl] <;> omega
theorem G169_t {t : Tm} {neg : Bool} (hk : cmpK t.1 = true) (h : t.2.2.2.1.size ≤ 12 ∧ -1000000000000 ≤ t.2.2.2.2 ∧ t.2.2.2.2 ≤ 1000000000000) : G169 LF (t, neg) = some (cmpT t neg) := by
 have hc := fun neg => cmp_cats (t := t) (neg := neg) h
 unfold G169
 simp only [opI hk, zb]
 cases neg with
 | true =>
  obtain ⟨c1, c2, c3, c4⟩ := hc true
  simp only [zt, c1, c2, c3, c4, zb, G141_it LF LF (LFpos 16 (by omega) |> Nat.le_of_lt) h.2]
  rfl
 | false =>
  obtain ⟨c1, c2, c3, c4⟩ := hc false
  simp only [zf, c1, c2, c3, c4, zb, G141_it LF LF (LFpos 16 (by omega) |> Nat.le_of_lt) h.2]
  rfl
theorem G171_j (t : Tm) : G171 LF t = some (jnK t.1) := by
 unfold G171 jnK
 by_cases h : t.1 = 5
 ·simp only [h, decide_true, zt, true_or]
 ·simp only [h, decide_false, zf, false_or]
theorem rd_cats {s : ByteArray} (h : s.size ≤ 1099511627776) : catC (bts [40, 32]) s = some () ∧ catC (bts [40, 32] ++ s) (bts [32, 41]) = some () := by
 refine ⟨catC_of ?_, catC_of ?_⟩ <;> simp only [size_app, bts_size, zc, zl] <;> omega
theorem G172_r {s : ByteArray} (b : Bool) (h : s.size ≤ 1099511627776) : G172 LF (s, b) = some (rdT s b) := by
 unfold G172 rdT
 obtain ⟨c1, c2⟩ := rd_cats h
 cases b with
 | true => simp only [zt, c1, c2, zb]
 | false => simp only [zf]
theorem pr_small {c : Cnd} (hc : Shd c) (h30 : List.length c ≤ 30) (n : Nat) {i : Nat} (hi : i < List.length c) : (prT c n i).size ≤ 68719476736 := by
 have h1 := prT_size hc n i hi
 have h2 : 2 ^ i ≤ 2 ^ 30 := Nat.pow_le_pow_right (by omega) (by omega)
 have e : (2 : Nat) ^ 30 = 1073741824 := by decide
 omega
theorem cat_small {a b : ByteArray} (ha : a.size ≤ 1099511627776) (hb : b.size ≤ 1099511627776) : catC a b = some () := catC_of (by omega)
theorem G101_pr {c : Cnd} (hc : Shd c) (h30 : List.length c ≤ 30) : ∀ (n i : Nat), i < n → i < List.length c → G101 LF n (c, (i : Int)) = some (prT c n i)
 | 0, i, h, _ => by omega
 | n + 1, i, h, hi => by
  rw [G101.eq_2]
  unfold prT
  simp only [getT_I hi, zb, peta, G171_j, G98_cmp]
  by_cases a0 : (getT c i).1 = 0
  ·simp only [a0, decide_true, zt, if_true]
  simp only [a0, decide_false, zf, if_false]
  by_cases a4 : (getT c i).1 = 4
  ·obtain ⟨a, e, ha⟩ := Shd_4 hc hi a4
   have hal : a < List.length c := by omega
   have ih := G101_pr hc h30 n a (by omega) hal
   have sm := pr_small hc h30 n hal
   have sr := rdT_size (prT c n a) (jnK (getT c a).1)
   simp only [a4, decide_true, zt, if_true, e, getT_I hal, zb, Int.toNat_natCast]
   cases hk : cmpK (getT c a).1 with
   | true => simp only [zt, if_true, G169_t hk (Shd_c hc hal hk), zb]
   | false =>
    have hb : (bts [110, 111, 116, 32]).size ≤ 1099511627776 := by rw [bts_size]; simp
    simp only [zf, Bool.false_eq_true, if_false, ih, zb, G172_r (jnK (getT c a).1) (show (prT c n a).size ≤ 1099511627776 by omega), cat_small hb (show (rdT (prT c n a) (jnK (getT c a).1)).size ≤ 1099511627776 by omega)]
  simp only [a4, decide_false, zf, if_false]
  by_cases a5 : (getT c i).1 = 5
  ·obtain ⟨a, b, e, e2, ha, hb⟩ := Shd_5 hc hi (.inl a5)
   have hal : a < List.length c := by omega
   have hbl : b < List.length c := by omega
   have iha := G101_pr hc h30 n a (by omega) hal
   have ihb := G101_pr hc h30 n b (by omega) hbl
   have sma := pr_small hc h30 n hal
   have smb := pr_small hc h30 n hbl
   have sra := rdT_size (prT c n a) (decide ((getT c a).1 = 6))
   have srb := rdT_size (prT c n b) (jnK (getT c b).1)
   have hw : (bts [32, 97, 110, 100, 32]).size = 5 := by rw [bts_size]; rfl
   have hx : (rdT (prT c n a) (decide ((getT c a).1 = 6)) ++ bts [32, 97, 110, 100, 32]).size ≤ 1099511627776 := by rw [size_app, hw]; omega
   simp only [a5, decide_true, zt, if_true, e, e2, getT_I hal, getT_I hbl, zb, Int.toNat_natCast, iha, ihb,
    G172_r (decide ((getT c a).1 = 6)) (show (prT c n a).size ≤ 1099511627776 by omega), G172_r (jnK (getT c b).1) (show (prT c n b).size ≤ 1099511627776 by omega),
    cat_small (show (rdT (prT c n a) (decide ((getT c a).1 = 6))).size ≤ 1099511627776 by omega) (show (bts [32, 97, 110, 100, 32]).size ≤ 1099511627776 by omega),
    cat_small hx (show (rdT (prT c n b) (jnK (getT c b).1)).size ≤ 1099511627776 by omega)]
  simp only [a5, decide_false, zf, if_false]
  by_cases a6 : (getT c i).1 = 6
  ·obtain ⟨a, b, e, e2, ha, hb⟩ := Shd_5 hc hi (.inr a6)
   have hal : a < List.length c := by omega
   have hbl : b < List.length c := by omega
   have iha := G101_pr hc h30 n a (by omega) hal
   have ihb := G101_pr hc h30 n b (by omega) hbl
   have sma := pr_small hc h30 n hal
   have smb := pr_small hc h30 n hbl
   have srb := rdT_size (prT c n b) (decide ((getT c b).1 = 6))
   have hw : (bts [32, 111, 114, 32]).size = 4 := by rw [bts_size]; rfl
   have hx : (prT c n a ++ bts [32, 111, 114, 32]).size ≤ 1099511627776 := by rw [size_app, hw]; omega
   simp only [a6, decide_true, zt, if_true, e, e2, getT_I hal, getT_I hbl, zb, Int.toNat_natCast, iha, ihb,
    G172_r (decide ((getT c b).1 = 6)) (show (prT c n b).size ≤ 1099511627776 by omega),
    cat_small (show (prT c n a).size ≤ 1099511627776 by omega) (show (bts [32, 111, 114, 32]).size ≤ 1099511627776 by omega),
    cat_small hx (show (rdT (prT c n b) (decide ((getT c b).1 = 6))).size ≤ 1099511627776 by omega)]
  simp only [a6, decide_false, zf, if_false]
  have hk : cmpK (getT c i).1 = true := by rcases Shd_k hc hi with h | h | h | h | h <;> first | exact h | omega
  simp only [G169_t hk (Shd_c hc hi hk), zb]
abbrev P3 := ByteArray × (Int × Bool)
def pcsT (c : Cnd) (i : Nat) : List P3 :=
 if (getT c i).1 = 0 then [(bts [116, 114, 117, 101], (0, false))]
 else if (getT c i).1 = 4 then
  (if cmpK (getT c (getT c i).2.1.toNat).1 = true then [(cmpT (getT c (getT c i).2.1.toNat) true, (0, false))]
   else [(bts [110, 111, 116], (0, false)), (bts [], ((getT c i).2.1, jnK (getT c (getT c i).2.1.toNat).1))])
 else if (getT c i).1 = 5 then [(bts [], ((getT c i).2.1, decide ((getT c (getT c i).2.1.toNat).1 = 6))), (bts [97, 110, 100], (0, false)), (bts [], ((getT c i).2.2.1, jnK (getT c (getT c i).2.2.1.toNat).1))]
 else if (getT c i).1 = 6 then [(bts [], ((getT c i).2.1, false)), (bts [111, 114], (0, false)), (bts [], ((getT c i).2.2.1, decide ((getT c (getT c i).2.2.1.toNat).1 = 6)))]
 else [(cmpT (getT c i) false, (0, false))]
theorem G246_op {k : Int} (neg : Bool) (h : cmpK k = true) : G246 LF (k, neg) = some (opT k neg) := by
 have h := of_decide_eq_true h
 have : k = 1 ∨ k = 2 ∨ k = 3 := by omega
 rcases this with e | e | e <;> subst e <;> cases neg <;> rfl
theorem G220_t {c : Cnd} {i : Nat} (hi : i < List.length c) {neg : Bool} (hk : cmpK (getT c i).1 = true) (h : (getT c i).2.2.2.1.size ≤ 12 ∧ -1000000000000 ≤ (getT c i).2.2.2.2 ∧ (getT c i).2.2.2.2 ≤ 1000000000000) : G220 LF (c, ((i : Int), neg)) = some (cmpT (getT c i) neg) := by
 unfold G220
 obtain ⟨c1, c2, c3, c4⟩ := cmp_cats (t := getT c i) (neg := neg) h
 simp only [getT_I hi, zb, G246_op neg hk, c1, c2, c3, c4, itoaC_it h.2]
 rfl
theorem G167_k {c : Cnd} {i : Nat} (hi : i < List.length c) : G167 LF (c, (i : Int)) = some (getT c i).1 := by
 unfold G167
 simp only [getT_I hi, zb]
theorem G166_pcs {c : Cnd} (hc : Shd c) {i : Nat} (hi : i < List.length c) : G166 LF (c, (i : Int)) = some (pcsT c i) := by
 unfold G166 pcsT
 simp only [getT_I hi, zb]
 by_cases a0 : (getT c i).1 = 0
 ·simp only [a0, decide_true, zt, if_true]
 simp only [a0, decide_false, zf, if_false]
 by_cases a4 : (getT c i).1 = 4
 ·obtain ⟨a, e, ha⟩ := Shd_4 hc hi a4
  have hal : a < List.length c := by omega
  simp only [a4, decide_true, zt, if_true, e, G167_k hal, zb, Int.toNat_natCast, G93_cmp]
  cases hk : cmpK (getT c a).1 with
  | true => simp only [zt, if_true, G220_t hal hk (Shd_c hc hal hk), zb]
  | false =>
   simp only [zf, Bool.false_eq_true, if_false, jnK]
   by_cases h5 : (getT c a).1 = 5
   ·simp only [h5, decide_true, zt, true_or]
   ·simp only [h5, decide_false, zf, false_or]
 simp only [a4, decide_false, zf, if_false]
 by_cases a5 : (getT c i).1 = 5
 ·obtain ⟨a, b, e, e2, ha, hb⟩ := Shd_5 hc hi (.inl a5)
  have hal : a < List.length c := by omega
  have hbl : b < List.length c := by omega
  simp only [a5, decide_true, zt, if_true, e, e2, G167_k hal, G167_k hbl, zb, Int.toNat_natCast, jnK]
  by_cases h5 : (getT c b).1 = 5
  ·simp only [h5, decide_true, zt, true_or]
  ·simp only [h5, decide_false, zf, false_or]
 simp only [a5, decide_false, zf, if_false]
 by_cases a6 : (getT c i).1 = 6
 ·obtain ⟨a, b, e, e2, ha, hb⟩ := Shd_5 hc hi (.inr a6)
  have hbl : b < List.length c := by omega
  simp only [a6, decide_true, zt, if_true, e, e2, G167_k hbl, zb, Int.toNat_natCast]
 simp only [a6, decide_false, zf, if_false]
 have hk : cmpK (getT c i).1 = true := by rcases Shd_k hc hi with h | h | h | h | h <;> first | exact h | omega
 simp only [G220_t hi hk (Shd_c hc hi hk), zb]
end Go.K
namespace Go.K
open Go.Sl Go.Sx Go.Proofs
theorem ne_empty {s : ByteArray} (h : 0 < s.size) : (s.data.toList == ([] : List UInt8)) = false := by
 rw [size_len] at h
 cases e : s.data.toList with
 | nil => rw [e] at h; simp at h
 | cons a l => rfl
theorem cmpT_ne (t : Tm) (neg : Bool) : ((cmpT t neg).data.toList == ([] : List UInt8)) = false := by
 apply ne_empty
 unfold cmpT
 simp only [size_app, bts_size, zc, zl]; omega
theorem pcs_mem {c : Cnd} (hc : Shd c) {i : Nat} (hi : i < List.length c) : ∀ p ∈ pcsT c i, (p.1.data.toList == ([] : List UInt8)) = false ∨ ((p.1.data.toList == ([] : List UInt8)) = true ∧ ∃ a : Nat, p.2.1 = (a : Int) ∧ a < i) := by
 intro p hp
 unfold pcsT at hp
 by_cases a0 : (getT c i).1 = 0
 ·rw [if_pos a0] at hp
  rcases List.mem_singleton.1 hp with rfl
  exact .inl rfl
 rw [if_neg a0] at hp
 by_cases a4 : (getT c i).1 = 4
 ·obtain ⟨a, e, ha⟩ := Shd_4 hc hi a4
  rw [if_pos a4, e] at hp
  split at hp
  ·rcases List.mem_singleton.1 hp with rfl
   exact .inl (cmpT_ne _ _)
  ·rcases List.mem_cons.1 hp with rfl | hp
   ·exact .inl rfl
   ·rcases List.mem_singleton.1 hp with rfl
    exact .inr ⟨rfl, a, rfl, ha⟩
 rw [if_neg a4] at hp
 by_cases a5 : (getT c i).1 = 5
 ·obtain ⟨a, b, e, e2, ha, hb⟩ := Shd_5 hc hi (.inl a5)
  rw [if_pos a5, e, e2] at hp
  rcases List.mem_cons.1 hp with rfl | hp
  ·exact .inr ⟨rfl, a, rfl, ha⟩
  ·rcases List.mem_cons.1 hp with rfl | hp
   ·exact .inl rfl
   ·rcases List.mem_singleton.1 hp with rfl
    exact .inr ⟨rfl, b, rfl, hb⟩
 rw [if_neg a5] at hp
 by_cases a6 : (getT c i).1 = 6
 ·obtain ⟨a, b, e, e2, ha, hb⟩ := Shd_5 hc hi (.inr a6)
  rw [if_pos a6, e, e2] at hp
  rcases List.mem_cons.1 hp with rfl | hp
  ·exact .inr ⟨rfl, a, rfl, ha⟩
  ·rcases List.mem_cons.1 hp with rfl | hp
   ·exact .inl rfl
   ·rcases List.mem_singleton.1 hp with rfl
    exact .inr ⟨rfl, b, rfl, hb⟩
 rw [if_neg a6] at hp
 rcases List.mem_singleton.1 hp with rfl
 exact .inl (cmpT_ne _ _)
theorem pcs_len (c : Cnd) (i : Nat) : (pcsT c i).length ≤ 3 := by
 unfold pcsT
 split
 ·simp
 ·split
  ·split <;> simp
  ·split
   ·simp
   ·split <;> simp
theorem join1 {a : ByteArray} (h : a.size ≤ 274877906944) : joinC (bts [32]) [a] = some a := by
 unfold joinC
 rw [if_pos (by simp only [List.foldl, bts_size, zc, zl]; omega)]; rfl
theorem join2 {a b : ByteArray} (h : a.size ≤ 274877906944) (h2 : b.size ≤ 274877906944) : joinC (bts [32]) [a, b] = some (a ++ bts [32] ++ b) := by
 unfold joinC
 rw [if_pos (by simp only [List.foldl, bts_size, zc, zl]; omega)]; rfl
theorem join3 {a b d : ByteArray} (h : a.size ≤ 274877906944) (h2 : b.size ≤ 274877906944) (h3 : d.size ≤ 274877906944) : joinC (bts [32]) [a, b, d] = some (a ++ bts [32] ++ b ++ bts [32] ++ d) := by
 unfold joinC
 rw [if_pos (by simp only [List.foldl, bts_size, zc, zl]; omega)]; rfl
theorem word_not : bts [110, 111, 116] ++ bts [32] = bts [110, 111, 116, 32] := ext_data (by rw [app_data]; rfl)
theorem word_and (x : ByteArray) : x ++ bts [32] ++ bts [97, 110, 100] ++ bts [32] = x ++ bts [32, 97, 110, 100, 32] := by
 apply ext_data; simp only [app_data, List.append_assoc]; rfl
theorem word_or (x : ByteArray) : x ++ bts [32] ++ bts [111, 114] ++ bts [32] = x ++ bts [32, 111, 114, 32] := by
 apply ext_data; simp only [app_data, List.append_assoc]; rfl
def vP (c : Cnd) (n : Nat) (p : P3) : ByteArray := bif p.1.data.toList == ([] : List UInt8) then rdT (prT c n p.2.1.toNat) p.2.2 else p.1
theorem G96_pr {c : Cnd} (hc : Shd c) (h30 : List.length c ≤ 30) : ∀ (n i : Nat), i < n → i < List.length c → G96 LF n (c, (i : Int)) = some (prT c n i)
 | 0, i, h, _ => by omega
 | n + 1, i, h, hi => by
  rw [G96.eq_2]
  have hlen := pcs_len c i
  simp only [G166_pcs hc hi, zb]
  refine (iter_app (fun k a => (a, k)) (fun p => [vP c n p]) (pcsT c i) (fun a => (joinC (bts [32]) a).bind fun r24 => some r24) 1 (fun _ _ => by simp) [] ?_ ?_ (by show (pcsT c i).length < 9223372036854775808; omega)).trans ?_
  ·intro k p a hp ha hk
   have hm := pcs_mem hc hi p (List.mem_of_getElem? hp)
   have hab : List.length a ≤ 100 := by simp only [zl] at ha; omega
   have happ : ∀ v : ByteArray, appC a [v] = some (a ++ [v]) := fun v => appC_of (by simp; omega)
   simp only [dlt hk, zt, getI_nat hp, zb, succ_W (show k + 1 < 9223372036854775808 by omega)]
   unfold vP
   rcases hm with e | ⟨e, b, e2, hb⟩
   ·simp only [e, Bool.not_false, zt, zf, happ, zb]
   ·have ih := G96_pr hc h30 n b (by omega) (by omega)
    have hs := pr_small hc h30 n (show b < List.length c by omega)
    obtain ⟨c1, c2⟩ := rd_cats (show (prT c n b).size ≤ 1099511627776 by omega)
    simp only [e, Bool.not_true, zf, zt, e2, ih, zb, Int.toNat_natCast, rdT]
    cases p.2.2 with
    | true => simp only [zt, c1, c2, happ, zb]
    | false => simp only [zf, happ, zb]
  ·intro a _
   simp only [dnlt, zf]
  ·rw [List.nil_append]
   have hfm : ∀ l : List P3, l.flatMap (fun p => [vP c n p]) = l.map (vP c n) := fun l => by
    induction l with
    | nil => rfl
    | cons x l ih => rw [List.flatMap_cons, ih]; rfl
   rw [hfm]
   have hbind : ∀ o : Option ByteArray, (o.bind fun r24 => some r24) = o := fun o => by cases o <;> rfl
   rw [hbind]
   unfold pcsT prT
   by_cases a0 : (getT c i).1 = 0
   ·rw [if_pos a0, if_pos a0]
    exact join1 (a := bts [116, 114, 117, 101]) (by rw [bts_size]; simp)
   rw [if_neg a0, if_neg a0]
   have hk3 : (bts [97, 110, 100]).size ≤ 274877906944 := by rw [bts_size]; simp
   have hk2 : (bts [111, 114]).size ≤ 274877906944 := by rw [bts_size]; simp
   have hkn : (bts [110, 111, 116]).size ≤ 274877906944 := by rw [bts_size]; simp
   have hrd : ∀ (a : Nat) (b : Bool), a < List.length c → (rdT (prT c n a) b).size ≤ 274877906944 := fun a b h => by
    have := rdT_size (prT c n a) b
    have := pr_small hc h30 n h
    omega
   have hcv : ∀ (t : Tm) (neg : Bool), vP c n (cmpT t neg, (0, false)) = cmpT t neg := fun t neg => by unfold vP; simp only [cmpT_ne, zf]
   by_cases a4 : (getT c i).1 = 4
   ·obtain ⟨a, e, ha⟩ := Shd_4 hc hi a4
    rw [if_pos a4, if_pos a4, e, Int.toNat_natCast]
    by_cases hk : cmpK (getT c a).1 = true
    ·rw [if_pos hk, if_pos hk]
     have := cmpT_size hc (show a < List.length c by omega) hk true
     refine (congrArg (fun z => joinC (bts [32]) [z]) (hcv _ _)).trans (join1 (by omega))
    ·rw [if_neg hk, if_neg hk]
     refine (join2 hkn (hrd a (jnK (getT c a).1) (by omega))).trans ?_
     rw [word_not]
   rw [if_neg a4, if_neg a4]
   by_cases a5 : (getT c i).1 = 5
   ·obtain ⟨a, b, e, e2, ha, hb⟩ := Shd_5 hc hi (.inl a5)
    rw [if_pos a5, if_pos a5, e, e2, Int.toNat_natCast, Int.toNat_natCast]
    refine (join3 (hrd a (decide ((getT c a).1 = 6)) (by omega)) hk3 (hrd b (jnK (getT c b).1) (by omega))).trans ?_
    rw [word_and]
   rw [if_neg a5, if_neg a5]
   by_cases a6 : (getT c i).1 = 6
   ·obtain ⟨a, b, e, e2, ha, hb⟩ := Shd_5 hc hi (.inr a6)
    rw [if_pos a6, if_pos a6, e, e2, Int.toNat_natCast, Int.toNat_natCast]
    refine (join3 (hrd a false (by omega)) hk2 (hrd b (decide ((getT c b).1 = 6)) (by omega))).trans ?_
    rw [word_or]; rfl
   rw [if_neg a6, if_neg a6]
   have hk : cmpK (getT c i).1 = true := by rcases Shd_k hc hi with h | h | h | h | h <;> first | exact h | omega
   have := cmpT_size hc hi hk false
   exact (congrArg (fun z => joinC (bts [32]) [z]) (hcv _ _)).trans (join1 (by omega))
end Go.K
namespace Go.K
open Go.Sl Go.Sx Go.Proofs
abbrev Sz3 := Int × (Int × Int)
def rdS (s : Sz3) (b : Bool) : Sz3 := bif b then (s.1 + 4, (s.2.1 + 1, s.2.2)) else s
def mx (a b : Int) : Int := if b > a then b else a
def two (w : Int) (x y : Sz3) : Sz3 := (x.1 + w + y.1, (mx x.2.1 y.2.1, x.2.2 + y.2.2 + 1))
def capS (r : Sz3) : Sz3 := (if 8001 < r.1 then 8001 else r.1, (r.2.1, if 31 < r.2.2 then 31 else r.2.2))
def getS (out : List Sz3) (a : Nat) : Sz3 := out.getD a (0, (0, 0))
def szR (c : Cnd) (out : List Sz3) (i : Nat) : Sz3 :=
 if cmpK (getT c i).1 = true then (((cmpT (getT c i) false).size : Int), (0, 1))
 else if (getT c i).1 = 4 then
  (if cmpK (getT c (getT c i).2.1.toNat).1 = true then (((cmpT (getT c (getT c i).2.1.toNat) true).size : Int), (0, 2))
   else ((rdS (getS out (getT c i).2.1.toNat) (jnK (getT c (getT c i).2.1.toNat).1)).1 + 4, ((rdS (getS out (getT c i).2.1.toNat) (jnK (getT c (getT c i).2.1.toNat).1)).2.1 + 1, (rdS (getS out (getT c i).2.1.toNat) (jnK (getT c (getT c i).2.1.toNat).1)).2.2 + 1)))
 else if (getT c i).1 = 5 then two 5 (rdS (getS out (getT c i).2.1.toNat) (decide ((getT c (getT c i).2.1.toNat).1 = 6))) (rdS (getS out (getT c i).2.2.1.toNat) (jnK (getT c (getT c i).2.2.1.toNat).1))
 else if (getT c i).1 = 6 then two 4 (rdS (getS out (getT c i).2.1.toNat) false) (rdS (getS out (getT c i).2.2.1.toNat) (decide ((getT c (getT c i).2.2.1.toNat).1 = 6)))
 else (4, (0, 1))
def szL (c : Cnd) : Nat → List Sz3
 | 0 => []
 | i + 1 => szL c i ++ [capS (szR c (szL c i) i)]
def OkS (i : Nat) (s : Sz3) : Prop := 0 ≤ s.1 ∧ s.1 ≤ 8001 ∧ 0 ≤ s.2.1 ∧ s.2.1 ≤ 2 * (i + 1) ∧ 0 ≤ s.2.2 ∧ s.2.2 ≤ 31
theorem szL_len (c : Cnd) : ∀ i, (szL c i).length = i
 | 0 => rfl
 | i + 1 => by unfold szL; rw [List.length_append, szL_len c i]; rfl
theorem getS_I {c : Cnd} {i a : Nat} (h : a < i) : getI (szL c i) (a : Int) = some (getS (szL c i) a) := by
 refine getI_nat ?_
 have hl := szL_len c i
 unfold getS
 rw [List.getD_eq_getElem?_getD, List.getElem?_eq_getElem (by omega)]; rfl
theorem rdS_ok {s : Sz3} {a : Nat} (b : Bool) (h : OkS a s) : 0 ≤ (rdS s b).1 ∧ (rdS s b).1 ≤ 8005 ∧ 0 ≤ (rdS s b).2.1 ∧ (rdS s b).2.1 ≤ 2 * (a + 1) + 1 ∧ 0 ≤ (rdS s b).2.2 ∧ (rdS s b).2.2 ≤ 31 := by
 obtain ⟨h1, h2, h3, h4, h5, h6⟩ := h
 unfold rdS
 cases b <;> simp only [zt, zf] <;> omega
theorem capS_ok {s : Sz3} {a : Nat} (h1 : 0 ≤ s.1) (h2 : 0 ≤ s.2.1 ∧ s.2.1 ≤ 2 * (a + 1)) (h3 : 0 ≤ s.2.2) : OkS a (capS s) := by
 unfold OkS capS
 refine ⟨?_, ?_, h2.1, h2.2, ?_, ?_⟩ <;> simp only <;> split <;> omega
theorem szR_ok {c : Cnd} (hc : Shd c) {i : Nat} (hi : i < List.length c) {out : List Sz3} (ho : ∀ a, a < i → OkS a (getS out a)) : 0 ≤ (szR c out i).1 ∧ (0 ≤ (szR c out i).2.1 ∧ (szR c out i).2.1 ≤ 2 * (i + 1)) ∧ 0 ≤ (szR c out i).2.2 := by
 unfold szR
 by_cases hk : cmpK (getT c i).1 = true
 ·rw [if_pos hk]; exact ⟨by simp only; omega, ⟨by simp only; omega, by simp only; omega⟩, by simp only; omega⟩
 rw [if_neg hk]
 by_cases a4 : (getT c i).1 = 4
 ·obtain ⟨a, e, ha⟩ := Shd_4 hc hi a4
  rw [if_pos a4, e, Int.toNat_natCast]
  by_cases hk2 : cmpK (getT c a).1 = true
  ·rw [if_pos hk2]; exact ⟨by simp only; omega, ⟨by simp only; omega, by simp only; omega⟩, by simp only; omega⟩
  ·rw [if_neg hk2]
   obtain ⟨h1, h2, h3, h4, h5, h6⟩ := rdS_ok (jnK (getT c a).1) (ho a ha)
   exact ⟨by simp only; omega, ⟨by simp only; omega, by simp only; omega⟩, by simp only; omega⟩
 rw [if_neg a4]
 by_cases a5 : (getT c i).1 = 5
 ·obtain ⟨a, b, e, e2, ha, hb⟩ := Shd_5 hc hi (.inl a5)
  rw [if_pos a5, e, e2, Int.toNat_natCast, Int.toNat_natCast]
  obtain ⟨h1, h2, h3, h4, h5, h6⟩ := rdS_ok (decide ((getT c a).1 = 6)) (ho a ha)
  obtain ⟨k1, k2, k3, k4, k5, k6⟩ := rdS_ok (jnK (getT c b).1) (ho b hb)
  unfold two mx
  refine ⟨by simp only; omega, ⟨?_, ?_⟩, by simp only; omega⟩ <;> simp only <;> split <;> omega
 rw [if_neg a5]
 by_cases a6 : (getT c i).1 = 6
 ·obtain ⟨a, b, e, e2, ha, hb⟩ := Shd_5 hc hi (.inr a6)
  rw [if_pos a6, e, e2, Int.toNat_natCast, Int.toNat_natCast]
  obtain ⟨h1, h2, h3, h4, h5, h6⟩ := rdS_ok false (ho a ha)
  obtain ⟨k1, k2, k3, k4, k5, k6⟩ := rdS_ok (decide ((getT c b).1 = 6)) (ho b hb)
  unfold two mx
  refine ⟨by simp only; omega, ⟨?_, ?_⟩, by simp only; omega⟩ <;> simp only <;> split <;> omega
 rw [if_neg a6]
 exact ⟨by simp only; omega, ⟨by simp only; omega, by simp only; omega⟩, by simp only; omega⟩
theorem szL_ok {c : Cnd} (hc : Shd c) : ∀ i, i ≤ List.length c → ∀ a, a < i → OkS a (getS (szL c i) a)
 | 0, _, a, h => by omega
 | i + 1, hi, a, h => by
  have hl := szL_len c i
  have ih := szL_ok hc i (by omega)
  by_cases e : a < i
  ·have := ih a e
   unfold getS at this ⊢
   unfold szL
   rw [List.getD_eq_getElem?_getD, List.getElem?_append_left (by omega)]
   rwa [List.getD_eq_getElem?_getD] at this
  ·have ea : a = i := by omega
   subst ea
   have hr := szR_ok hc (show a < List.length c by omega) ih
   unfold getS szL
   rw [List.getD_eq_getElem?_getD, List.getElem?_append_right (by omega), hl, Nat.sub_self]
   exact capS_ok hr.1 hr.2.1 hr.2.2
theorem iter_cnt {α ρ : Type} {f : α → Option (α ⊕ ρ)} (mk : Nat → α) (r : ρ) (N : Nat) (h1 : ∀ i, i < N → f (mk i) = some (.inl (mk (i + 1)))) (h2 : f (mk N) = some (.inr r)) : ∀ (m k lf : Nat), N = k + m → m < lf → iter lf f (mk k) = some r
 | 0, k, 0, _, h => by omega
 | m + 1, k, 0, _, h => by omega
 | 0, k, lf + 1, e, _ => by
  have : k = N := by omega
  subst this
  simp only [iter, h2]
 | m + 1, k, lf + 1, e, h => by
  simp only [iter, h1 k (by omega)]
  exact iter_cnt mk r N h1 h2 m (k + 1) lf (by omega) (by omega)
theorem cmp3 {ρ : Type} (k : Int) : (cond (decide (k = (1 : Int))) (some (.inl (decide (k = (1 : Int))))) (cond (decide (k = (2 : Int))) (some (.inl (decide (k = (2 : Int))))) (some (.inl (decide (k = (3 : Int)))))) : Option (Bool ⊕ ρ)) = some (.inl (cmpK k)) := by
 unfold cmpK
 by_cases h1 : k = 1
 ·subst h1; rfl
 ·by_cases h2 : k = 2
  ·subst h2; rfl
  ·by_cases h3 : k = 3
   ·subst h3; rfl
   ·simp only [h1, h2, h3, decide_false, zf]
    rw [zd (by omega)]
theorem jn2 {ρ : Type} (k : Int) : (cond (decide (k = (5 : Int))) (some (.inl (decide (k = (5 : Int))))) (some (.inl (decide (k = (6 : Int))))) : Option (Bool ⊕ ρ)) = some (.inl (jnK k)) := by
 unfold jnK
 by_cases h : k = 5
 ·simp only [h, decide_true, zt, true_or]
 ·simp only [h, decide_false, zf, false_or]
theorem G170_r {s : Sz3} (b : Bool) {a : Nat} (h : OkS a s) (ha : a ≤ 1000) : G170 LF (s, b) = some (rdS s b) := by
 obtain ⟨h1, h2, h3, h4, h5, h6⟩ := h
 unfold G170 rdS
 cases b with
 | true =>
  have e1 : w64 (s.1 + 4) = s.1 + 4 := w64_id (by omega) (by omega)
  have e2 : w64 (s.2.1 + 1) = s.2.1 + 1 := w64_id (by omega) (by omega)
  simp only [zt, e1, e2]
 | false => rfl
theorem appS {out : List Sz3} {s : Sz3} (h : out.length ≤ 100000) : appC (out : List (Int × (Int × Int))) [s] = some (out ++ [s]) := appC_of (by simp; omega)
theorem G100_sz {c : Cnd} (hc : Shd c) (h30 : List.length c ≤ 30) : G100 LF c = some (szL c (List.length c)) := by
 unfold G100
 refine iter_cnt (fun i => (szL c i, (i : Int))) _ (List.length c) ?_ ?_ (List.length c) 0 LF (by omega) (by show List.length c < 9223372036854775808; omega)
 ·intro i hi
  have hok := szL_ok hc i (by omega)
  have hlen := szL_len c i
  have happ := fun s => appS (out := szL c i) (s := s) (by omega)
  simp only [dlt hi, zt, getT_I hi, zb, peta, cmp3, jl, G98_cmp, G171_j]
  have key : ∀ {ρ : Type} (o : Option (Sz3 ⊕ ρ)) (K : Sz3 → Option ρ), o = some (.inl (szR c (szL c i) i)) → jn o K = K (szR c (szL c i) i) := fun o K e => by rw [e]; rfl
  refine (key _ _ ?_).trans ?_
  ·unfold szR
   cases hk : cmpK (getT c i).1 with
   | true => simp only [zt, if_true, G169_t hk (Shd_c hc hi hk), zb]
   | false =>
    simp only [zf, Bool.false_eq_true, if_false]
    by_cases a4 : (getT c i).1 = 4
    ·obtain ⟨a, e, ha⟩ := Shd_4 hc hi a4
     have hal : a < List.length c := by omega
     simp only [ze a4, zt, if_pos a4, e, getT_I hal, zb, Int.toNat_natCast]
     cases hk2 : cmpK (getT c a).1 with
     | true => simp only [zt, if_true, G169_t hk2 (Shd_c hc hal hk2), zb]
     | false =>
      obtain ⟨h1, h2, h3, h4, h5, h6⟩ := rdS_ok (jnK (getT c a).1) (hok a ha)
      simp only [zf, Bool.false_eq_true, if_false, getS_I ha, zb, G170_r (jnK (getT c a).1) (hok a ha) (by omega),
       w64_id (show -9223372036854775808 ≤ (rdS (getS (szL c i) a) (jnK (getT c a).1)).1 + 4 by omega) (by omega),
       w64_id (show -9223372036854775808 ≤ (rdS (getS (szL c i) a) (jnK (getT c a).1)).2.1 + 1 by omega) (by omega),
       w64_id (show -9223372036854775808 ≤ (rdS (getS (szL c i) a) (jnK (getT c a).1)).2.2 + 1 by omega) (by omega)]
    simp only [zd a4, zf, if_neg a4, jn2, jl]
    by_cases a5 : (getT c i).1 = 5
    ·obtain ⟨a, b, e, e2, ha, hb⟩ := Shd_5 hc hi (.inl a5)
     have hal : a < List.length c := by omega
     have hbl : b < List.length c := by omega
     have n6 : ¬ (getT c i).1 = 6 := by omega
     have ej : jnK (getT c i).1 = true := ze (.inl a5)
     obtain ⟨h1, h2, h3, h4, h5, h6⟩ := rdS_ok (decide ((getT c a).1 = 6)) (hok a ha)
     obtain ⟨k1, k2, k3, k4, k5, k6⟩ := rdS_ok (jnK (getT c b).1) (hok b hb)
     have w1 := w64_id (show -9223372036854775808 ≤ (rdS (getS (szL c i) a) (decide ((getT c a).1 = 6))).1 + 5 by omega) (by omega)
     have w2 := w64_id (show -9223372036854775808 ≤ (rdS (getS (szL c i) a) (decide ((getT c a).1 = 6))).1 + 5 + (rdS (getS (szL c i) b) (jnK (getT c b).1)).1 by omega) (by omega)
     have w3 := w64_id (show -9223372036854775808 ≤ (rdS (getS (szL c i) a) (decide ((getT c a).1 = 6))).2.2 + (rdS (getS (szL c i) b) (jnK (getT c b).1)).2.2 by omega) (by omega)
     have w4 := w64_id (show -9223372036854775808 ≤ (rdS (getS (szL c i) a) (decide ((getT c a).1 = 6))).2.2 + (rdS (getS (szL c i) b) (jnK (getT c b).1)).2.2 + 1 by omega) (by omega)
     simp only [ej, zt, e, e2, getT_I hal, getT_I hbl, getS_I ha, getS_I hb, zb, Int.toNat_natCast, ze a5, zd n6, zf, if_pos a5, jl,
      G170_r (decide ((getT c a).1 = 6)) (hok a ha) (by omega)]
     cases hj : jnK (getT c b).1 with
     | true =>
      rw [hj] at w2 w3 w4
      simp only [zt, G170_r true (hok b hb) (by omega), zb, jl, w1, w2, w3, w4]
      rfl
     | false =>
      have hj6 : ¬ (getT c b).1 = 6 := fun h => by have := of_decide_eq_false hj; exact this (.inr h)
      rw [hj] at w2 w3 w4
      simp only [zf, zd hj6, G170_r false (hok b hb) (by omega), zb, jl, w1, w2, w3, w4]
      rfl
    simp only [zd a5, zf, if_neg a5]
    by_cases a6 : (getT c i).1 = 6
    ·obtain ⟨a, b, e, e2, ha, hb⟩ := Shd_5 hc hi (.inr a6)
     have hal : a < List.length c := by omega
     have hbl : b < List.length c := by omega
     have ej : jnK (getT c i).1 = true := ze (.inr a6)
     obtain ⟨h1, h2, h3, h4, h5, h6⟩ := rdS_ok false (hok a ha)
     obtain ⟨k1, k2, k3, k4, k5, k6⟩ := rdS_ok (decide ((getT c b).1 = 6)) (hok b hb)
     have w1 := w64_id (show -9223372036854775808 ≤ (rdS (getS (szL c i) a) false).1 + 4 by omega) (by omega)
     have w2 := w64_id (show -9223372036854775808 ≤ (rdS (getS (szL c i) a) false).1 + 4 + (rdS (getS (szL c i) b) (decide ((getT c b).1 = 6))).1 by omega) (by omega)
     have w3 := w64_id (show -9223372036854775808 ≤ (rdS (getS (szL c i) a) false).2.2 + (rdS (getS (szL c i) b) (decide ((getT c b).1 = 6))).2.2 by omega) (by omega)
     have w4 := w64_id (show -9223372036854775808 ≤ (rdS (getS (szL c i) a) false).2.2 + (rdS (getS (szL c i) b) (decide ((getT c b).1 = 6))).2.2 + 1 by omega) (by omega)
     simp only [ej, zt, e, e2, getT_I hal, getT_I hbl, getS_I ha, getS_I hb, zb, Int.toNat_natCast, ze a6, if_pos a6, jl,
      G170_r false (hok a ha) (by omega), G170_r (decide ((getT c b).1 = 6)) (hok b hb) (by omega), w1, w2, w3, w4]
     rfl
    have ej : jnK (getT c i).1 = false := zd (by omega)
    simp only [ej, zf, if_neg a6]
  ·refine (congrArg (fun z => Option.bind z _) (happ (capS (szR c (szL c i) i)))).trans ?_
   simp only [zb, succ_W (show i + 1 < 9223372036854775808 by omega)]
   rfl
 ·simp only [dnlt, zf]
end Go.K
namespace Go.K
open Go.Sl Go.Sx Go.Proofs
theorem pcs_sz {c : Cnd} (hc : Shd c) {i : Nat} (hi : i < List.length c) : ∀ p ∈ pcsT c i, p.1.size ≤ 30 := by
 intro p hp
 unfold pcsT at hp
 by_cases a0 : (getT c i).1 = 0
 ·rw [if_pos a0] at hp
  rcases List.mem_singleton.1 hp with rfl
  rw [bts_size]; simp
 rw [if_neg a0] at hp
 by_cases a4 : (getT c i).1 = 4
 ·obtain ⟨a, e, ha⟩ := Shd_4 hc hi a4
  rw [if_pos a4, e, Int.toNat_natCast] at hp
  by_cases hk : cmpK (getT c a).1 = true
  ·rw [if_pos hk] at hp
   rcases List.mem_singleton.1 hp with rfl
   exact cmpT_size hc (by omega) hk true
  ·rw [if_neg hk] at hp
   rcases List.mem_cons.1 hp with rfl | hp
   ·rw [bts_size]; simp
   ·rcases List.mem_singleton.1 hp with rfl
    rw [bts_size]; simp
 rw [if_neg a4] at hp
 by_cases a5 : (getT c i).1 = 5
 ·rw [if_pos a5] at hp
  rcases List.mem_cons.1 hp with rfl | hp
  ·rw [bts_size]; simp
  ·rcases List.mem_cons.1 hp with rfl | hp
   ·rw [bts_size]; simp
   ·rcases List.mem_singleton.1 hp with rfl
    rw [bts_size]; simp
 rw [if_neg a5] at hp
 by_cases a6 : (getT c i).1 = 6
 ·rw [if_pos a6] at hp
  rcases List.mem_cons.1 hp with rfl | hp
  ·rw [bts_size]; simp
  ·rcases List.mem_cons.1 hp with rfl | hp
   ·rw [bts_size]; simp
   ·rcases List.mem_singleton.1 hp with rfl
    rw [bts_size]; simp
 rw [if_neg a6] at hp
 rcases List.mem_singleton.1 hp with rfl
 have hk : cmpK (getT c i).1 = true := by rcases Shd_k hc hi with h | h | h | h | h <;> first | exact h | omega
 exact cmpT_size hc hi hk false
def stQ (out : List Sz3) (p : P3) (s : Sz3) : Sz3 :=
 bif p.1.data.toList == ([] : List UInt8) then
  (bif p.2.2 then (s.1 + 1 + (getS out p.2.1.toNat).1 + 4, (s.2.1 + (getS out p.2.1.toNat).2.2, mx s.2.2 ((getS out p.2.1.toNat).2.1 + 1)))
   else (s.1 + 1 + (getS out p.2.1.toNat).1, (s.2.1 + (getS out p.2.1.toNat).2.2, mx s.2.2 (getS out p.2.1.toNat).2.1)))
 else (s.1 + 1 + (p.1.size : Int), s.2)
def fnQ (c : Cnd) (i : Nat) (a : Sz3) : Sz3 :=
 if (getT c i).1 = 4 then (if cmpK (getT c (getT c i).2.1.toNat).1 = true then (a.1, (a.2.2, 2)) else (a.1, (a.2.2 + 1, a.2.1))) else (a.1, (a.2.2, a.2.1))
theorem mx_le {a b n : Int} (h1 : a ≤ n) (h2 : b ≤ n) : mx a b ≤ n := by unfold mx; split <;> omega
theorem mx_ge {a b : Int} (h1 : 0 ≤ a) (h2 : 0 ≤ b) : 0 ≤ mx a b := by unfold mx; split <;> omega
theorem mx_0 {b : Int} (h : 0 ≤ b) : mx 0 b = b := by unfold mx; split <;> omega
theorem fn_szR {c : Cnd} (hc : Shd c) {i : Nat} (hi : i < List.length c) {out : List Sz3} (ho : ∀ a, a < i → OkS a (getS out a)) : fnQ c i (foldI (fun p _ s => stQ out p s) (pcsT c i) 0 ((-1 : Int), ((1 : Int), (0 : Int)))) = szR c out i := by
 have hcm : ∀ (t : Tm) (neg : Bool) (s : Sz3), stQ out (cmpT t neg, (0, false)) s = (s.1 + 1 + ((cmpT t neg).size : Int), s.2) := fun t neg s => by unfold stQ; simp only [cmpT_ne, zf]
 have hst : ∀ (a : Nat) (b : Bool) (s : Sz3), a < i → stQ out (bts [], ((a : Int), b)) s = (s.1 + 1 + (rdS (getS out a) b).1, (s.2.1 + (rdS (getS out a) b).2.2, mx s.2.2 (rdS (getS out a) b).2.1)) := fun a b s _ => by
  unfold stQ rdS
  cases b with
  | true =>
   have e : ((bts []).data.toList == ([] : List UInt8)) = true := rfl
   simp only [e, zt, Int.toNat_natCast, Prod.mk.injEq, and_true]; omega
  | false => rfl
 unfold szR pcsT fnQ
 by_cases a0 : (getT c i).1 = 0
 ·have hk : ¬ cmpK (getT c i).1 = true := fun h => by have := of_decide_eq_true h; omega
  have n4 : ¬ (getT c i).1 = 4 := by omega
  have n5 : ¬ (getT c i).1 = 5 := by omega
  have n6 : ¬ (getT c i).1 = 6 := by omega
  rw [if_pos a0, if_neg hk, if_neg n4, if_neg n4, if_neg n5, if_neg n6]; rfl
 rw [if_neg a0]
 by_cases a4 : (getT c i).1 = 4
 ·have hk : ¬ cmpK (getT c i).1 = true := fun h => by have := of_decide_eq_true h; omega
  obtain ⟨a, e, ha⟩ := Shd_4 hc hi a4
  rw [if_pos a4, if_pos a4, if_pos a4, if_neg hk, e, Int.toNat_natCast]
  by_cases hk2 : cmpK (getT c a).1 = true
  ·rw [if_pos hk2, if_pos hk2, if_pos hk2]
   simp only [foldI, hcm, Prod.mk.injEq, and_true]; omega
  ·rw [if_neg hk2, if_neg hk2, if_neg hk2]
   obtain ⟨h1, h2, h3, h4, h5, h6⟩ := rdS_ok (jnK (getT c a).1) (ho a ha)
   have e1 : ∀ s : Sz3, stQ out (bts [110, 111, 116], (0, false)) s = (s.1 + 1 + 3, s.2) := fun _ => rfl
   simp only [foldI, e1, hst _ _ _ ha, mx_0 h3, Prod.mk.injEq]
   refine ⟨by omega, trivial, by omega⟩
 rw [if_neg a4, if_neg a4, if_neg a4]
 by_cases a5 : (getT c i).1 = 5
 ·have hk : ¬ cmpK (getT c i).1 = true := fun h => by have := of_decide_eq_true h; omega
  obtain ⟨a, b, e, e2, ha, hb⟩ := Shd_5 hc hi (.inl a5)
  rw [if_pos a5, if_pos a5, if_neg hk, e, e2, Int.toNat_natCast, Int.toNat_natCast]
  obtain ⟨h1, h2, h3, h4, h5, h6⟩ := rdS_ok (decide ((getT c a).1 = 6)) (ho a ha)
  have e1 : ∀ s : Sz3, stQ out (bts [97, 110, 100], (0, false)) s = (s.1 + 1 + 3, s.2) := fun _ => rfl
  simp only [foldI, e1, hst _ _ _ ha, hst _ _ _ hb, mx_0 h3, two, Prod.mk.injEq]
  refine ⟨by omega, trivial, by omega⟩
 rw [if_neg a5, if_neg a5]
 by_cases a6 : (getT c i).1 = 6
 ·have hk : ¬ cmpK (getT c i).1 = true := fun h => by have := of_decide_eq_true h; omega
  obtain ⟨a, b, e, e2, ha, hb⟩ := Shd_5 hc hi (.inr a6)
  rw [if_pos a6, if_pos a6, if_neg hk, e, e2, Int.toNat_natCast, Int.toNat_natCast]
  obtain ⟨h1, h2, h3, h4, h5, h6⟩ := rdS_ok false (ho a ha)
  have e1 : ∀ s : Sz3, stQ out (bts [111, 114], (0, false)) s = (s.1 + 1 + 2, s.2) := fun _ => rfl
  simp only [foldI, e1, hst _ _ _ ha, hst _ _ _ hb, mx_0 h3, two, Prod.mk.injEq]
  refine ⟨by omega, trivial, by omega⟩
 have hk : cmpK (getT c i).1 = true := by rcases Shd_k hc hi with h | h | h | h | h <;> first | exact h | omega
 rw [if_neg a6, if_pos hk]
 simp only [foldI, hcm, Prod.mk.injEq, and_true]; omega
theorem szL_map {β : Type} {c : Cnd} {i a : Nat} (f : Sz3 → β) (h : a < i) : getI ((szL c i).map f) (a : Int) = some (f (getS (szL c i) a)) := by
 refine getI_nat ?_
 have hl := szL_len c i
 unfold getS
 rw [List.getElem?_map, List.getD_eq_getElem?_getD, List.getElem?_eq_getElem (by omega)]; rfl
abbrev mk95 (c : Cnd) (i : Nat) : (List Int) × ((List Int) × ((List Int) × Int)) := ((szL c i).map (·.1), ((szL c i).map (·.2.2), ((szL c i).map (·.2.1), (i : Int))))
theorem G95_sz {c : Cnd} (hc : Shd c) (h30 : List.length c ≤ 30) : G95 LF c = some ((szL c (List.length c)).map (·.1), ((szL c (List.length c)).map (·.2.2), (szL c (List.length c)).map (·.2.1))) := by
 unfold G95
 refine iter_cnt (mk95 c) _ (List.length c) ?_ ?_ (List.length c) 0 LF (by omega) (by show List.length c < 9223372036854775808; omega)
 ·intro i hi
  have hok := szL_ok hc i (by omega)
  have hlen := szL_len c i
  have hpl := pcs_len c i
  have happ : ∀ (f : Sz3 → Int) (v : Int), appC ((szL c i).map f) [v] = some ((szL c i).map f ++ [v]) := fun f v => appC_of (by rw [List.length_map]; simp; omega)
  simp only [mk95, dlt hi, zt, G166_pcs hc hi, zb]
  refine (iter_foldI (fun k (s : Sz3) => (s.1, (s.2.1, (s.2.2, k)))) (fun p _ s => stQ (szL c i) p s) (fun k s => -1 ≤ s.1 ∧ s.1 ≤ 10000 * k ∧ 1 ≤ s.2.1 ∧ s.2.1 ≤ 1 + 31 * k ∧ 0 ≤ s.2.2 ∧ s.2.2 ≤ 100) (pcsT c i)
   (fun a => some (Sum.inl ((szL c i).map (·.1) ++ [(capS (fnQ c i a)).1], ((szL c i).map (·.2.2) ++ [(capS (fnQ c i a)).2.2], ((szL c i).map (·.2.1) ++ [(capS (fnQ c i a)).2.1], ((i + 1 : Nat) : Int)))))) ((-1 : Int), ((1 : Int), (0 : Int))) ?_ ?_ ?_ (by show (pcsT c i).length < 9223372036854775808; omega) ⟨by simp, by simp, by simp, by simp, by simp, by simp⟩).trans ?_
  ·intro k p s hp hg
   obtain ⟨g1, g2, g3, g4, g5, g6⟩ := hg
   have hk := (List.getElem?_eq_some_iff.1 hp).1
   have hm := pcs_mem hc hi p (List.mem_of_getElem? hp)
   have hz := pcs_sz hc hi p (List.mem_of_getElem? hp)
   have w1 : w64 (s.1 + 1) = s.1 + 1 := w64_id (by omega) (by omega)
   simp only [dlt hk, zt, getI_nat hp, zb, succ_W (show k + 1 < 9223372036854775808 by omega), w1, stQ]
   rcases hm with e | ⟨e, b, e2, hb⟩
   ·have w2 : w64 (s.1 + 1 + (p.1.size : Int)) = s.1 + 1 + (p.1.size : Int) := w64_id (by omega) (by omega)
    simp only [e, Bool.not_false, zt, zf, w2]
   ·obtain ⟨h1, h2, h3, h4, h5, h6⟩ := hok b hb
    have w2 : w64 (s.1 + 1 + (getS (szL c i) b).1) = s.1 + 1 + (getS (szL c i) b).1 := w64_id (by omega) (by omega)
    have w3 : w64 (s.1 + 1 + (getS (szL c i) b).1 + 4) = s.1 + 1 + (getS (szL c i) b).1 + 4 := w64_id (by omega) (by omega)
    have w4 : w64 (s.2.1 + (getS (szL c i) b).2.2) = s.2.1 + (getS (szL c i) b).2.2 := w64_id (by omega) (by omega)
    have w5 : w64 ((getS (szL c i) b).2.1 + 1) = (getS (szL c i) b).2.1 + 1 := w64_id (by omega) (by omega)
    simp only [e, Bool.not_true, zf, zt, e2, szL_map (c := c) _ hb, zb, Int.toNat_natCast, w2, w3, w4, w5]
    cases p.2.2 with
    | true => simp only [zt, mx]
    | false => simp only [zf, mx]
  ·intro k p s hp hg
   obtain ⟨g1, g2, g3, g4, g5, g6⟩ := hg
   have hk := (List.getElem?_eq_some_iff.1 hp).1
   have hm := pcs_mem hc hi p (List.mem_of_getElem? hp)
   have hz := pcs_sz hc hi p (List.mem_of_getElem? hp)
   simp only [stQ]
   rcases hm with e | ⟨e, b, e2, hb⟩
   ·simp only [e, zf]
    refine ⟨by omega, by omega, by omega, by omega, by omega, by omega⟩
   ·obtain ⟨h1, h2, h3, h4, h5, h6⟩ := hok b hb
    simp only [e, zt, e2, Int.toNat_natCast]
    cases p.2.2 with
    | true =>
     simp only [zt]
     exact ⟨by omega, by omega, by omega, by omega, mx_ge g5 (by omega), mx_le g6 (by omega)⟩
    | false =>
     simp only [zf]
     exact ⟨by omega, by omega, by omega, by omega, mx_ge g5 (by omega), mx_le g6 (by omega)⟩
  ·intro s hg
   obtain ⟨g1, g2, g3, g4, g5, g6⟩ := hg
   simp only [dnlt, zf, G167_k hi, zb, fnQ, succ_W (show i + 1 < 9223372036854775808 by omega)]
   by_cases a4 : (getT c i).1 = 4
   ·obtain ⟨a, e, ha⟩ := Shd_4 hc hi a4
    have hal : a < List.length c := by omega
    have w1 : w64 (s.2.2 + 1) = s.2.2 + 1 := w64_id (by omega) (by omega)
    simp only [ze a4, Bool.not_true, zf, if_pos a4, getT_I hi, e, G167_k hal, zb, G93_cmp, Int.toNat_natCast]
    cases hk : cmpK (getT c a).1 with
    | true => simp only [zt, if_true, jl, happ, zb, capS, outR]
    | false => simp only [zf, Bool.false_eq_true, if_false, jl, happ, zb, capS, outR, w1]
   ·simp only [zd a4, Bool.not_false, zt, if_neg a4, jl, happ, zb, capS, outR]
  ·have es : szL c (i + 1) = szL c i ++ [capS (szR c (szL c i) i)] := rfl
   simp only [fn_szR hc hi hok, es, List.map_append, List.map_cons, List.map_nil]
 ·simp only [mk95, dnlt, zf]
end Go.K
namespace Go.K
open Go.Sl Go.Sx Go.Proofs
def prS (t : Tm) (i : Nat) : Option (ByteArray × Int) := bif !shp t i || (cmpK t.1 && !nmB t.2.2.2.1) then some (bts [], 41) else none
def printW (c : Cnd) : ByteArray × Int :=
 if (getS (szL c (List.length c)) (List.length c - 1)).2.1 > 8 then (bts [], 41)
 else if (getS (szL c (List.length c)) (List.length c - 1)).1 > 8000 ∨ (getS (szL c (List.length c)) (List.length c - 1)).2.2 > 30 then (bts [], 2)
 else (prT c LF (List.length c - 1), 0)
def printB (c : Cnd) : ByteArray × Int :=
 if List.length c = 0 ∨ 30 < List.length c then (bts [], 41)
 else (scan prS c 0).getD (printW c)
theorem scan_noneW {σ ρ : Type} (g : σ → Nat → Option ρ) : ∀ (l : List σ) (k : Nat), scan g l k = none → ∀ (i : Nat) (x : σ), l[i]? = some x → g x (k + i) = none
 | [], k, _, i, x, hx => by simp at hx
 | a :: l, k, h, i, x, hx => by
  unfold scan at h
  cases ha : g a k with
  | some y => rw [ha] at h; cases h
  | none =>
   rw [ha] at h
   cases i with
   | zero => simp only [List.getElem?_cons_zero, zi] at hx; subst hx; exact ha
   | succ i =>
    have := scan_noneW g l (k + 1) h i x (by simpa using hx)
    rwa [show k + (i + 1) = k + 1 + i by omega]
theorem Shd_of {c : Cnd} (h : scan prS c 0 = none) : Shd c := by
 intro i hi
 have hx : c[i]? = some (getT c i) := by
  unfold getT; rw [List.getD_eq_getElem?_getD, List.getElem?_eq_getElem hi]; rfl
 have := scan_noneW prS c 0 h i _ hx
 rw [Nat.zero_add] at this
 unfold prS at this
 cases h1 : shp (getT c i) i with
 | false => rw [h1] at this; cases this
 | true =>
  rw [h1] at this
  refine ⟨rfl, fun hk => ?_⟩
  rw [hk] at this
  cases h2 : nmB (getT c i).2.2.2.1 with
  | true => rfl
  | false => rw [h2] at this; cases this
theorem pred_W {n : Nat} (h : 1 ≤ n) (h2 : n ≤ 1000) : w64 ((n : Int) - 1) = ((n - 1 : Nat) : Int) := by
 rw [w64_id (by omega) (by omega)]; omega
theorem G19_print (c : Cnd) : G19 LF c = some (printB c) := by
 unfold G19 printB
 simp only [G91_in, zb]
 by_cases hr : List.length c = 0 ∨ 30 < List.length c
 ·rw [if_pos hr, zd (by omega)]; rfl
 rw [if_neg hr, ze (by omega)]
 simp only [Bool.not_true, zf]
 refine (iter_scan prS c (some (printW c)) ?_ ?_ (by show List.length c < 9223372036854775808; omega)).trans ?_
 ·intro i t ht _
  have hi := (List.getElem?_eq_some_iff.1 ht).1
  simp only [dlt hi, zt, getI_nat ht, zb, peta, G92_shp t i (by show i < 9223372036854775808; omega), G93_cmp, G94_nm, succ_W (show i + 1 < 9223372036854775808 by omega)]
  unfold prS
  cases shp t i with
  | false => rfl
  | true =>
   cases cmpK t.1 with
   | false => rfl
   | true => cases nmB t.2.2.2.1 <;> rfl
 ·intro hs
  have hc := Shd_of hs
  have h30 : List.length c ≤ 30 := by omega
  have hl : List.length c - 1 < List.length c := by omega
  simp only [dnlt, zf, G95_sz hc h30, zb, pred_W (show 1 ≤ List.length c by omega) (by omega), szL_map _ hl, G96_pr hc h30 LF (List.length c - 1) (by show List.length c - 1 < 9223372036854775808; omega) hl]
  unfold printW
  by_cases h8 : (getS (szL c (List.length c)) (List.length c - 1)).2.1 > 8
  ·simp only [ze h8, zt, if_pos h8]
  ·simp only [zd h8, zf, if_neg h8]
   by_cases h1 : (getS (szL c (List.length c)) (List.length c - 1)).1 > 8000
   ·simp only [ze h1, zt, jl, if_pos (Or.inl h1 : _ ∨ (getS (szL c (List.length c)) (List.length c - 1)).2.2 > 30)]
   ·simp only [zd h1, zf, jl]
    by_cases h2 : (getS (szL c (List.length c)) (List.length c - 1)).2.2 > 30
    ·simp only [ze h2, zt, if_pos (Or.inr h2 : (getS (szL c (List.length c)) (List.length c - 1)).1 > 8000 ∨ _)]
    ·simp only [zd h2, zf, if_neg (fun h => h.elim h1 h2 : ¬ ((getS (szL c (List.length c)) (List.length c - 1)).1 > 8000 ∨ (getS (szL c (List.length c)) (List.length c - 1)).2.2 > 30))]
 ·cases scan prS c 0 <;> rfl
theorem G20_print (c : Cnd) : G20 LF c = some (printB c) := by
 unfold G20 printB
 by_cases hr : List.length c = 0 ∨ 30 < List.length c
 ·rw [if_pos hr]
  by_cases h0 : List.length c = 0
  ·simp only [h0, ze (show ((0 : Nat) : Int) = 0 by omega), zt, jl]
  ·simp only [zd (show ¬ ((List.length c : Nat) : Int) = 0 by omega), zf, jl, ze (show ((List.length c : Nat) : Int) > 30 by omega), zt]
 rw [if_neg hr]
 simp only [zd (show ¬ ((List.length c : Nat) : Int) = 0 by omega), zf, jl, zd (show ¬ ((List.length c : Nat) : Int) > 30 by omega)]
 refine (iter_scan prS c (some (printW c)) ?_ ?_ (by show List.length c < 9223372036854775808; omega)).trans ?_
 ·intro i t ht _
  have hi := (List.getElem?_eq_some_iff.1 ht).1
  simp only [dlt hi, zt, getI_nat ht, zb, peta, G97_shp t i (by show i < 9223372036854775808; omega), G98_cmp, G99_nm, succ_W (show i + 1 < 9223372036854775808 by omega)]
  unfold prS
  cases shp t i with
  | false => rfl
  | true =>
   cases cmpK t.1 with
   | false => rfl
   | true => cases nmB t.2.2.2.1 <;> rfl
 ·intro hs
  have hc := Shd_of hs
  have h30 : List.length c ≤ 30 := by omega
  have hl : List.length c - 1 < List.length c := by omega
  simp only [dnlt, zf, G100_sz hc h30, zb, pred_W (show 1 ≤ List.length c by omega) (by omega), getS_I hl, G101_pr hc h30 LF (List.length c - 1) (by show List.length c - 1 < 9223372036854775808; omega) hl]
  unfold printW
  by_cases h8 : (getS (szL c (List.length c)) (List.length c - 1)).2.1 > 8
  ·simp only [ze h8, zt, if_pos h8]
  ·simp only [zd h8, zf, if_neg h8]
   by_cases h1 : (getS (szL c (List.length c)) (List.length c - 1)).1 > 8000
   ·simp only [ze h1, zt, jl, if_pos (Or.inl h1 : _ ∨ (getS (szL c (List.length c)) (List.length c - 1)).2.2 > 30)]
   ·simp only [zd h1, zf, jl]
    by_cases h2 : (getS (szL c (List.length c)) (List.length c - 1)).2.2 > 30
    ·simp only [ze h2, zt, if_pos (Or.inr h2 : (getS (szL c (List.length c)) (List.length c - 1)).1 > 8000 ∨ _)]
    ·simp only [zd h2, zf, if_neg (fun h => h.elim h1 h2 : ¬ ((getS (szL c (List.length c)) (List.length c - 1)).1 > 8000 ∨ (getS (szL c (List.length c)) (List.length c - 1)).2.2 > 30))]
 ·cases scan prS c 0 <;> rfl
end Go.K
namespace Go.K
open Go.Sl Go.Sx Go.Proofs
def mnB (x : Nat) : Int := if 8001 < x then 8001 else (x : Int)
theorem getS_szW (c : Cnd) : ∀ (N a : Nat), a < N → getS (szL c N) a = capS (szR c (szL c a) a)
 | 0, a, h => by omega
 | N + 1, a, h => by
  have hl := szL_len c N
  by_cases e : a < N
  ·have ih := getS_szW c N a e
   unfold getS at ih ⊢
   have es : szL c (N + 1) = szL c N ++ [capS (szR c (szL c N) N)] := rfl
   rw [es, List.getD_eq_getElem?_getD, List.getElem?_append_left (by omega)]
   rwa [List.getD_eq_getElem?_getD] at ih
  ·have ea : a = N := by omega
   subst ea
   unfold getS
   have es : szL c (a + 1) = szL c a ++ [capS (szR c (szL c a) a)] := rfl
   rw [es, List.getD_eq_getElem?_getD, List.getElem?_append_right (by omega), hl, Nat.sub_self]; rfl
theorem rd_sz (s : Sz3) (t : ByteArray) (b : Bool) (h : s.1 = mnB t.size) : (rdS s b).1 = mnB t.size + ((rdT t b).size - t.size : Nat) ∧ t.size ≤ (rdT t b).size ∧ (rdT t b).size ≤ t.size + 4 := by
 unfold rdS rdT
 cases b with
 | true =>
  simp only [zt, size_app, bts_size, zc, zl, h]
  refine ⟨by omega, by omega, by omega⟩
 | false =>
  simp only [zf, h]
  refine ⟨by omega, by omega, by omega⟩
theorem sz_true {c : Cnd} (hc : Shd c) : ∀ (n i N : Nat), i < n → i < N → i < List.length c → (getS (szL c N) i).1 = mnB (prT c n i).size
 | 0, i, N, h, _, _ => by omega
 | n + 1, i, N, hn, hN, hi => by
  rw [getS_szW c N i hN]
  have hcap : ∀ r : Sz3, (capS r).1 = if 8001 < r.1 then 8001 else r.1 := fun _ => rfl
  rw [hcap]
  unfold szR prT
  by_cases hk : cmpK (getT c i).1 = true
  ·have hk' := of_decide_eq_true hk
   have n0 : ¬ (getT c i).1 = 0 := by omega
   have n4 : ¬ (getT c i).1 = 4 := by omega
   have n5 : ¬ (getT c i).1 = 5 := by omega
   have n6 : ¬ (getT c i).1 = 6 := by omega
   rw [if_pos hk, if_neg n0, if_neg n4, if_neg n5, if_neg n6]
   unfold mnB; simp only; split <;> split <;> omega
  rw [if_neg hk]
  by_cases a4 : (getT c i).1 = 4
  ·obtain ⟨a, e, ha⟩ := Shd_4 hc hi a4
   have n0 : ¬ (getT c i).1 = 0 := by omega
   rw [if_pos a4, if_neg n0, if_pos a4, e, Int.toNat_natCast]
   by_cases hk2 : cmpK (getT c a).1 = true
   ·rw [if_pos hk2, if_pos hk2]
    unfold mnB; simp only; split <;> split <;> omega
   ·rw [if_neg hk2, if_neg hk2]
    have ih := sz_true hc n a i (by omega) ha (by omega)
    obtain ⟨h1, h2, h3⟩ := rd_sz _ _ (jnK (getT c a).1) ih
    simp only [h1, size_app, bts_size, zc, zl]
    unfold mnB; split <;> split <;> split at * <;> omega
  rw [if_neg a4]
  by_cases a5 : (getT c i).1 = 5
  ·obtain ⟨a, b, e, e2, ha, hb⟩ := Shd_5 hc hi (.inl a5)
   have n0 : ¬ (getT c i).1 = 0 := by omega
   rw [if_pos a5, if_neg n0, if_neg a4, if_pos a5, e, e2, Int.toNat_natCast, Int.toNat_natCast]
   obtain ⟨h1, h2, h3⟩ := rd_sz _ _ (decide ((getT c a).1 = 6)) (sz_true hc n a i (by omega) ha (by omega))
   obtain ⟨k1, k2, k3⟩ := rd_sz _ _ (jnK (getT c b).1) (sz_true hc n b i (by omega) hb (by omega))
   unfold two
   simp only [h1, k1, size_app, bts_size, zc, zl]
   unfold mnB; split <;> split <;> split <;> split <;> omega
  rw [if_neg a5]
  by_cases a6 : (getT c i).1 = 6
  ·obtain ⟨a, b, e, e2, ha, hb⟩ := Shd_5 hc hi (.inr a6)
   have n0 : ¬ (getT c i).1 = 0 := by omega
   rw [if_pos a6, if_neg n0, if_neg a4, if_neg a5, if_pos a6, e, e2, Int.toNat_natCast, Int.toNat_natCast]
   obtain ⟨h1, h2, h3⟩ := rd_sz _ _ false (sz_true hc n a i (by omega) ha (by omega))
   obtain ⟨k1, k2, k3⟩ := rd_sz _ _ (decide ((getT c b).1 = 6)) (sz_true hc n b i (by omega) hb (by omega))
   have hf : (rdT (prT c n a) false) = prT c n a := rfl
   rw [hf] at h1
   unfold two
   simp only [h1, k1, size_app, bts_size, zc, zl]
   unfold mnB; split <;> split <;> split <;> split <;> omega
  have a0 : (getT c i).1 = 0 := by rcases Shd_k hc hi with h | h | h | h | h <;> first | exact h | omega | exact absurd h hk
  rw [if_neg a6, if_pos a0]
  unfold mnB
  simp only [bts_size, zc, zl]
  split <;> split <;> omega
theorem printB_size (c : Cnd) : (printB c).1.size ≤ 8000 := by
 unfold printB
 by_cases hr : List.length c = 0 ∨ 30 < List.length c
 ·rw [if_pos hr]; simp only [bts_size]; simp
 ·rw [if_neg hr]
  cases hs : scan prS c 0 with
  | some y =>
   have : y = (bts [], 41) := by
    have hx : ∀ (l : Cnd) (k : Nat), scan prS l k = some y → y = (bts [], 41) := by
     intro l
     induction l with
     | nil => intro k h; cases h
     | cons t l ih =>
      intro k h
      unfold scan at h
      cases hp : prS t k with
      | some z =>
       rw [hp] at h
       cases h
       unfold prS at hp
       cases hb : (!shp t k || (cmpK t.1 && !nmB t.2.2.2.1)) with
       | true => rw [hb] at hp; cases hp; rfl
       | false => rw [hb] at hp; cases hp
      | none => rw [hp] at h; exact ih (k + 1) h
    exact hx c 0 hs
   subst this
   show (bts []).size ≤ 8000
   rw [bts_size]; simp
  | none =>
   show (printW c).1.size ≤ 8000
   unfold printW
   split
   ·rw [bts_size]; simp
   ·split
    ·rw [bts_size]; simp
    ·rename_i h8 h1
     have := sz_true (Shd_of hs) LF (List.length c - 1) (List.length c) (by show List.length c - 1 < 9223372036854775808; omega) (by omega) (by omega)
     have h2 : ¬ (getS (szL c (List.length c)) (List.length c - 1)).1 > 8000 := fun h => h1 (.inl h)
     rw [this] at h2
     unfold mnB at h2
     show (prT c LF (List.length c - 1)).size ≤ 8000
     split at h2 <;> omega
end Go.K
namespace Go.K
open Go.Sl Go.Sx Go.Proofs
theorem hasR_mem {l : List Rl} {s : ByteArray} (h : hasR l s = true) : ∃ r ∈ l, r.1 = s := by
 unfold hasR at h
 obtain ⟨r, h1, h2⟩ := List.any_eq_true.1 h
 exact ⟨r, h1, of_decide_eq_true h2⟩
theorem factS_none {f : List Fct} {x : Fct} {i : Nat} (h : factS f x i = none) : nmB x.1 = true ∧ -1000000000000 ≤ x.2.1 ∧ x.2.1 ≤ x.2.2 ∧ x.2.2 ≤ 1000000000000 := by
 unfold factS at h
 cases hb : (!nmB x.1 || (f.take i).any (fun y => decide (y.1 = x.1))) with
 | true => rw [hb] at h; cases h
 | false =>
  rw [hb] at h
  cases hs : spanB x with
  | false => rw [hs] at h; cases h
  | true =>
   have := of_decide_eq_true hs
   refine ⟨?_, this⟩
   cases hn : nmB x.1 with
   | true => rfl
   | false => rw [hn] at hb; cases hb
theorem ruleE_zero {f : List Fct} {l : List Rl} {i : Nat} {r : Rl} (h : ruleE f l i r = 0) : nmB r.1 = true ∧ 0 ≤ r.2.1 ∧ r.2.1 ≤ r.2.2.1 ∧ r.2.2.1 ≤ 100000 ∧ r.2.2.2.2.2.length ≤ 6 ∧ ∀ (k : Nat) (u : ByteArray), r.2.2.2.2.2[k]? = some u → hasR (l.take i) u = true := by
 unfold ruleE at h
 cases hb : (!nmB r.1 || hasR (l.take i) r.1) with
 | true => rw [hb] at h; cases h
 | false =>
  rw [hb] at h
  simp only [zf] at h
  have hn : nmB r.1 = true := by
   cases hn : nmB r.1 with
   | true => rfl
   | false => rw [hn] at hb; cases hb
  split at h
  ·cases h
  split at h
  ·omega
  split at h
  ·omega
  split at h
  ·cases h
  rename_i g1 g2 g3 g4
  refine ⟨hn, by omega, by omega, by omega, by omega, fun k u hu => ?_⟩
  have hs : scan (unlS (l.take i) r.2.2.2.2.2) r.2.2.2.2.2 0 = none := by
   cases hs : scan (unlS (l.take i) r.2.2.2.2.2) r.2.2.2.2.2 0 with
   | none => rfl
   | some e =>
    rw [hs] at h
    have he : ∀ (m : List ByteArray) (j : Nat), scan (unlS (l.take i) r.2.2.2.2.2) m j = some e → e = 42 := by
     intro m
     induction m with
     | nil => intro j hj; cases hj
     | cons a m ih =>
      intro j hj
      unfold scan at hj
      cases ha : unlS (l.take i) r.2.2.2.2.2 a j with
      | none => rw [ha] at hj; exact ih _ hj
      | some z =>
       rw [ha] at hj
       cases hj
       unfold unlS at ha
       cases hc : (!hasR (l.take i) a || (r.2.2.2.2.2.take j).any fun x => decide (x = a)) with
       | true => rw [hc] at ha; cases ha; rfl
       | false => rw [hc] at ha; cases ha
    have := he _ _ hs
    subst this
    cases h
  have := scan_noneW _ _ 0 hs k u hu
  unfold unlS at this
  cases hh : hasR (l.take i) u with
  | true => rfl
  | false => rw [hh] at this; cases this
theorem codeE_ok {c : Cd} (h : codeE c = 0) : nmB c.1 = true ∧ c.2.1.length ≤ 6 ∧ c.2.2.length ≤ 12 ∧
  (∀ (i : Nat) (x : Fct), c.2.1[i]? = some x → nmB x.1 = true ∧ -1000000000000 ≤ x.2.1 ∧ x.2.1 ≤ x.2.2 ∧ x.2.2 ≤ 1000000000000) ∧
  (∀ (i : Nat) (r : Rl), c.2.2[i]? = some r → nmB r.1 = true ∧ 0 ≤ r.2.1 ∧ r.2.1 ≤ r.2.2.1 ∧ r.2.2.1 ≤ 100000 ∧ r.2.2.2.2.2.length ≤ 6 ∧ ∀ (k : Nat) (u : ByteArray), r.2.2.2.2.2[k]? = some u → nmB u = true) := by
 unfold codeE at h
 cases hn : nmB c.1 with
 | false => rw [hn] at h; cases h
 | true =>
  rw [hn] at h
  simp only [Bool.not_true, zf] at h
  split at h
  ·cases h
  split at h
  ·cases h
  rename_i g1 g2
  cases hf : scan (factS c.2.1) c.2.1 0 with
  | some e =>
   rw [hf] at h
   simp only at h
   subst h
   have he : ∀ (m : List Fct) (j : Nat), scan (factS c.2.1) m j = some 0 → False := by
    intro m
    induction m with
    | nil => intro j hj; cases hj
    | cons a m ih =>
     intro j hj
     unfold scan at hj
     cases ha : factS c.2.1 a j with
     | none => rw [ha] at hj; exact ih _ hj
     | some z =>
      rw [ha] at hj
      cases hj
      unfold factS at ha
      cases hc : (!nmB a.1 || (c.2.1.take j).any (fun y => decide (y.1 = a.1))) with
      | true => rw [hc] at ha; cases ha
      | false =>
       rw [hc] at ha
       cases hs : spanB a with
       | true => rw [hs] at ha; cases ha
       | false => rw [hs] at ha; cases ha
   exact (he _ _ hf).elim
  | none =>
   rw [hf] at h
   simp only at h
   cases hr : scan (ruleS c.2.1 c.2.2) c.2.2 0 with
   | some e =>
    rw [hr] at h
    simp only at h
    subst h
    have he : ∀ (m : List Rl) (j : Nat), scan (ruleS c.2.1 c.2.2) m j = some 0 → False := by
     intro m
     induction m with
     | nil => intro j hj; cases hj
     | cons a m ih =>
      intro j hj
      unfold scan at hj
      cases ha : ruleS c.2.1 c.2.2 a j with
      | none => rw [ha] at hj; exact ih _ hj
      | some z =>
       rw [ha] at hj
       cases hj
       unfold ruleS at ha
       split at ha
       ·rename_i hz
        exact hz (Option.some.inj ha)
       ·cases ha
    exact (he _ _ hr).elim
   | none =>
    have hrule : ∀ (i : Nat) (r : Rl), c.2.2[i]? = some r → ruleE c.2.1 c.2.2 i r = 0 := by
     intro i r hi
     have := scan_noneW _ _ 0 hr i r hi
     rw [Nat.zero_add] at this
     unfold ruleS at this
     split at this
     ·cases this
     ·rename_i hz; simpa using hz
    refine ⟨rfl, by omega, by omega, fun i x hx => ?_, fun i r hi => ?_⟩
    ·exact factS_none (scan_noneW _ _ 0 hf i x hx)
    ·obtain ⟨r1, r2, r3, r4, r5, r6⟩ := ruleE_zero (hrule i r hi)
     refine ⟨r1, r2, r3, r4, r5, fun k u hu => ?_⟩
     obtain ⟨q, q1, q2⟩ := hasR_mem (r6 k u hu)
     obtain ⟨j, hj⟩ := List.getElem?_of_mem (List.mem_of_mem_take q1)
     have := (ruleE_zero (hrule j q hj)).1
     rwa [q2] at this
end Go.K
namespace Go.K
noncomputable section
open Go.Sl Go.Sx Go.Proofs
def G136 (lf : Nat) (x : ByteArray) : Option ((List ByteArray)) :=
 iter lf (fun y9 : ((List ByteArray) × (Int × Int)) => cond (decide (y9.2.2 < (x.size : Int))) (((byteAt x y9.2.2)).bind fun r10 => cond (decide (r10 = (10 : Int))) (((cutC x y9.2.1 y9.2.2)).bind fun r11 => ((appC y9.1 [(ByteArray.extract x (Int.toNat y9.2.1) (Int.toNat y9.2.2))])).bind fun r12 => some (.inl (r12, ((w64 (y9.2.2 + (1 : Int))), (w64 (y9.2.2 + (1 : Int))))))) (some (.inl (y9.1, (y9.2.1, (w64 (y9.2.2 + (1 : Int)))))))) (outR (cond (decide (y9.2.1 < (x.size : Int))) (((cutC x y9.2.1 (x.size : Int))).bind fun r13 => ((appC y9.1 [(ByteArray.extract x (Int.toNat y9.2.1) (Int.toNat (x.size : Int)))])).bind fun r14 => some r14) (some y9.1)))) (([] : List ByteArray), ((0 : Int), (0 : Int)))
def G137 (lf : Nat) (x : (List ByteArray)) : Option (((ByteArray × (Int × Int)) × Bool)) :=
 jn (cond (!(decide ((x.length : Int) = (4 : Int)))) (some (.inl true)) (((getI x (1 : Int))).bind fun r9 => ((G99 lf r9)).bind fun r10 => some (.inl (!r10)))) (fun y11 : Bool => cond y11 (some (((bts []), ((0 : Int), (0 : Int))), false)) (((getI x (2 : Int))).bind fun r12 => ((G203 lf (r12, ((13 : Int), true)))).bind fun r13 => ((getI x (3 : Int))).bind fun r14 => ((G203 lf (r14, ((13 : Int), true)))).bind fun r15 => ((getI x (1 : Int))).bind fun r16 => cond r13.2 (some ((r16, (r13.1, r15.1)), r15.2)) (some ((r16, (r13.1, r15.1)), false))))
def G204 (lf : Nat) (x : ((List ByteArray) × (ByteArray × Int))) : Option (Int) :=
 iter lf (fun y5 : Int => cond (decide (y5 < (x.1.length : Int))) (((getI x.1 y5)).bind fun r6 => cond (r6.data.toList == x.2.1.data.toList) (some (.inr y5)) (some (.inl (w64 (y5 + (1 : Int)))))) (some (.inr (x.1.length : Int)))) x.2.2
def G138 (lf : Nat) (x : (List ByteArray)) : Option (((ByteArray × (Int × (Int × (Yt × (Yt × (List ByteArray)))))) × Bool)) :=
 ((G204 lf (x, ((bts [109, 117, 115, 116]), (5 : Int))))).bind fun r23 => ((G204 lf (x, ((bts [117, 110, 108, 101, 115, 115]), r23)))).bind fun r24 => jn (cond (decide ((x.length : Int) < (5 : Int))) (some (.inl true)) (((getI x (1 : Int))).bind fun r25 => ((G99 lf r25)).bind fun r26 => cond (!r26) (some (.inl true)) (((getI x (4 : Int))).bind fun r27 => cond (!(r27.data.toList == [(UInt8.ofNat 119), (UInt8.ofNat 104), (UInt8.ofNat 101), (UInt8.ofNat 110)])) (some (.inl true)) (cond (decide (r23 = (x.length : Int))) (some (.inl true)) (some (.inl (decide (r24 = (w64 ((x.length : Int) - (1 : Int))))))))))) (fun y28 : Bool => cond y28 (some (((bts []), ((0 : Int), ((0 : Int), (([] : List (Int × (Int × (Int × (ByteArray × Int))))), (([] : List (Int × (Int × (Int × (ByteArray × Int))))), ([] : List ByteArray)))))), false)) (((getI x (2 : Int))).bind fun r29 => ((G203 lf (r29, ((13 : Int), false)))).bind fun r30 => ((getI x (3 : Int))).bind fun r31 => ((G203 lf (r31, ((13 : Int), false)))).bind fun r32 => ((subI x (5 : Int) r23)).bind fun r33 => ((G89 lf r33)).bind fun r34 => ((subI x (w64 (r23 + (1 : Int))) r24)).bind fun r35 => ((G89 lf r35)).bind fun r36 => ((getI x (1 : Int))).bind fun r37 => jn (cond (decide (r24 < (x.length : Int))) (((subI x (w64 (r24 + (1 : Int))) (x.length : Int))).bind fun r38 => ((appC ([] : List ByteArray) r38)).bind fun r39 => some (.inl r39)) (some (.inl ([] : List ByteArray)))) (fun y40 : (List ByteArray) => iter lf (fun y41 : Int => cond (decide (y41 < (y40.length : Int))) (((getI y40 y41)).bind fun r42 => ((getI y40 y41)).bind fun r43 => ((G99 lf r43)).bind fun r44 => cond (!r44) (some (.inr (((bts []), ((0 : Int), ((0 : Int), (([] : List (Int × (Int × (Int × (ByteArray × Int))))), (([] : List (Int × (Int × (Int × (ByteArray × Int))))), ([] : List ByteArray)))))), false))) (some (.inl (w64 (y41 + (1 : Int)))))) (outR (cond r30.2 (cond r32.2 (cond (decide (r34.2.2 = (0 : Int))) (some ((r37, (r30.1, (r32.1, (r34.1, (r36.1, y40))))), (decide (r36.2.2 = (0 : Int))))) (some ((r37, (r30.1, (r32.1, (r34.1, (r36.1, y40))))), false))) (some ((r37, (r30.1, (r32.1, (r34.1, (r36.1, y40))))), false))) (some ((r37, (r30.1, (r32.1, (r34.1, (r36.1, y40))))), false))))) (0 : Int))))
def G50 (lf : Nat) (x : ByteArray) : Option (((ByteArray × (Yf × Yr)) × (Int × Int))) :=
 cond (decide ((x.size : Int) > (8000 : Int))) (some (((bts []), (([] : List (ByteArray × (Int × Int))), ([] : List (ByteArray × (Int × (Int × (Yt × (Yt × (List ByteArray))))))))), ((0 : Int), (2 : Int)))) (((G136 lf x)).bind fun r48 => iter lf (fun y49 : (Bool × (Int × (ByteArray × (Yf × Yr)))) => cond (decide (y49.2.1 < (r48.length : Int))) (((getI r48 y49.2.1)).bind fun r50 => ((G90 lf r50)).bind fun r51 => cond (decide ((r51.length : Int) = (0 : Int))) (some (.inl (y49.1, ((w64 (y49.2.1 + (1 : Int))), (y49.2.2.1, (y49.2.2.2.1, y49.2.2.2.2)))))) (((byteAt r50 (0 : Int))).bind fun r52 => cond (decide (r52 = (35 : Int))) (some (.inl (y49.1, ((w64 (y49.2.1 + (1 : Int))), (y49.2.2.1, (y49.2.2.2.1, y49.2.2.2.2)))))) (jn (cond (!y49.1) (jn (cond (decide ((r51.length : Int) = (2 : Int))) (((getI r51 (0 : Int))).bind fun r53 => cond (r53.data.toList == [(UInt8.ofNat 99), (UInt8.ofNat 111), (UInt8.ofNat 100), (UInt8.ofNat 101)]) (((getI r51 (1 : Int))).bind fun r54 => ((G99 lf r54)).bind fun r55 => some (.inl r55)) (some (.inl false))) (some (.inl false))) (fun y56 : Bool => ((getI r51 (w64 ((r51.length : Int) - (1 : Int))))).bind fun r57 => some (.inl (y56, (true, (r57, (y49.2.2.2.1, y49.2.2.2.2))))))) (((getI r51 (0 : Int))).bind fun r58 => cond (r58.data.toList == [(UInt8.ofNat 102), (UInt8.ofNat 97), (UInt8.ofNat 99), (UInt8.ofNat 116)]) (((G137 lf r51)).bind fun r59 => ((appC y49.2.2.2.1 [(r59.1.1, (r59.1.2.1, r59.1.2.2))])).bind fun r60 => some (.inl (r59.2, (y49.1, (y49.2.2.1, (r60, y49.2.2.2.2)))))) (((getI r51 (0 : Int))).bind fun r61 => cond (r61.data.toList == [(UInt8.ofNat 114), (UInt8.ofNat 117), (UInt8.ofNat 108), (UInt8.ofNat 101)]) (((G138 lf r51)).bind fun r62 => ((appC y49.2.2.2.2 [(r62.1.1, (r62.1.2.1, (r62.1.2.2.1, (r62.1.2.2.2.1, (r62.1.2.2.2.2.1, r62.1.2.2.2.2.2)))))])).bind fun r63 => some (.inl (r62.2, (y49.1, (y49.2.2.1, (y49.2.2.2.1, r63)))))) (some (.inl (false, (y49.1, (y49.2.2.1, (y49.2.2.2.1, y49.2.2.2.2))))))))) (fun y64 : (Bool × (Bool × (ByteArray × (Yf × Yr)))) => cond (!y64.1) (some (.inr (((bts []), (([] : List (ByteArray × (Int × Int))), ([] : List (ByteArray × (Int × (Int × (Yt × (Yt × (List ByteArray))))))))), ((w64 (y49.2.1 + (1 : Int))), (46 : Int))))) (some (.inl (y64.2.1, ((w64 (y49.2.1 + (1 : Int))), (y64.2.2.1, (y64.2.2.2.1, y64.2.2.2.2)))))))))) (outR (cond (!y49.1) (some (((bts []), (([] : List (ByteArray × (Int × Int))), ([] : List (ByteArray × (Int × (Int × (Yt × (Yt × (List ByteArray))))))))), ((w64 ((r48.length : Int) + (1 : Int))), (46 : Int)))) (((G32 lf (y49.2.2.1, (y49.2.2.2.1, y49.2.2.2.2)))).bind fun r65 => cond (!(decide (r65 = (0 : Int)))) (some (((bts []), (([] : List (ByteArray × (Int × Int))), ([] : List (ByteArray × (Int × (Int × (Yt × (Yt × (List ByteArray))))))))), ((0 : Int), r65))) (some ((y49.2.2.1, (y49.2.2.2.1, y49.2.2.2.2)), ((0 : Int), (0 : Int)))))))) (false, ((0 : Int), ((bts []), (([] : List (ByteArray × (Int × Int))), ([] : List (ByteArray × (Int × (Int × (Yt × (Yt × (List ByteArray))))))))))))
def G51 (lf : Nat) (x : (ByteArray × (Yf × Yr))) : Option ((ByteArray × Int)) :=
 ((G31 lf (x.1, (x.2.1, x.2.2)))).bind fun r52 => cond (!(decide (r52 = (0 : Int)))) (some ((bts []), r52)) (((catC (bts [99, 111, 100, 101, 32]) x.1)).bind fun r53 => iter lf (fun y54 : ((List ByteArray) × Int) => cond (decide (y54.2 < (x.2.1.length : Int))) (((getI x.2.1 y54.2)).bind fun r55 => ((catC (bts [102, 97, 99, 116, 32]) r55.1)).bind fun r56 => ((catC ((bts [102, 97, 99, 116, 32]) ++ r55.1) (bts [32]))).bind fun r57 => ((itoaC r55.2.1)).bind fun r58 => ((catC (((bts [102, 97, 99, 116, 32]) ++ r55.1) ++ (bts [32])) r58)).bind fun r59 => ((catC ((((bts [102, 97, 99, 116, 32]) ++ r55.1) ++ (bts [32])) ++ r58) (bts [32]))).bind fun r60 => ((itoaC r55.2.2)).bind fun r61 => ((catC (((((bts [102, 97, 99, 116, 32]) ++ r55.1) ++ (bts [32])) ++ r58) ++ (bts [32])) r61)).bind fun r62 => ((appC y54.1 [((((((bts [102, 97, 99, 116, 32]) ++ r55.1) ++ (bts [32])) ++ r58) ++ (bts [32])) ++ r61)])).bind fun r63 => some (.inl (r63, (w64 (y54.2 + (1 : Int)))))) (outR (iter lf (fun y64 : (Bool × ((List ByteArray) × Int)) => cond (decide (y64.2.2 < (x.2.2.length : Int))) (((getI x.2.2 y64.2.2)).bind fun r65 => ((catC (bts [114, 117, 108, 101, 32]) r65.1)).bind fun r66 => ((catC ((bts [114, 117, 108, 101, 32]) ++ r65.1) (bts [32]))).bind fun r67 => ((itoaC r65.2.1)).bind fun r68 => ((catC (((bts [114, 117, 108, 101, 32]) ++ r65.1) ++ (bts [32])) r68)).bind fun r69 => ((catC ((((bts [114, 117, 108, 101, 32]) ++ r65.1) ++ (bts [32])) ++ r68) (bts [32]))).bind fun r70 => ((itoaC r65.2.2.1)).bind fun r71 => ((catC (((((bts [114, 117, 108, 101, 32]) ++ r65.1) ++ (bts [32])) ++ r68) ++ (bts [32])) r71)).bind fun r72 => iter lf (fun y73 : (Bool × (ByteArray × Int)) => cond (decide (y73.2.2 < (2 : Int))) (jn (cond (decide (y73.2.2 = (0 : Int))) (((G19 lf r65.2.2.2.1)).bind fun r74 => cond (decide (r74.2 = (41 : Int))) (some (.inr (.inr (.inr ((bts []), r74.2))))) (jn (cond y73.1 (some (.inl true)) (some (.inl (!(decide (r74.2 = (0 : Int))))))) (fun y75 : Bool => cond (decide (y73.2.2 = (0 : Int))) (((catC (bts [32, 119, 104, 101, 110, 32]) r74.1)).bind fun r76 => ((catC y73.2.1 ((bts [32, 119, 104, 101, 110, 32]) ++ r74.1))).bind fun r77 => some (.inl (y75, (y73.2.1 ++ ((bts [32, 119, 104, 101, 110, 32]) ++ r74.1))))) (cond (decide (y73.2.2 = (1 : Int))) (((catC (bts [32, 109, 117, 115, 116, 32]) r74.1)).bind fun r78 => ((catC y73.2.1 ((bts [32, 109, 117, 115, 116, 32]) ++ r74.1))).bind fun r79 => some (.inl (y75, (y73.2.1 ++ ((bts [32, 109, 117, 115, 116, 32]) ++ r74.1))))) ((outI)))))) (cond (decide (y73.2.2 = (1 : Int))) (((G19 lf r65.2.2.2.2.1)).bind fun r80 => cond (decide (r80.2 = (41 : Int))) (some (.inr (.inr (.inr ((bts []), r80.2))))) (jn (cond y73.1 (some (.inl true)) (some (.inl (!(decide (r80.2 = (0 : Int))))))) (fun y81 : Bool => cond (decide (y73.2.2 = (0 : Int))) (((catC (bts [32, 119, 104, 101, 110, 32]) r80.1)).bind fun r82 => ((catC y73.2.1 ((bts [32, 119, 104, 101, 110, 32]) ++ r80.1))).bind fun r83 => some (.inl (y81, (y73.2.1 ++ ((bts [32, 119, 104, 101, 110, 32]) ++ r80.1))))) (cond (decide (y73.2.2 = (1 : Int))) (((catC (bts [32, 109, 117, 115, 116, 32]) r80.1)).bind fun r84 => ((catC y73.2.1 ((bts [32, 109, 117, 115, 116, 32]) ++ r80.1))).bind fun r85 => some (.inl (y81, (y73.2.1 ++ ((bts [32, 109, 117, 115, 116, 32]) ++ r80.1))))) ((outI)))))) ((outI)))) (fun y86 : (Bool × ByteArray) => some (.inl (y86.1, (y86.2, (w64 (y73.2.2 + (1 : Int)))))))) (outR (cond (decide ((r65.2.2.2.2.2.length : Int) > (0 : Int))) (((joinC (bts [32]) r65.2.2.2.2.2)).bind fun r87 => ((catC (bts [32, 117, 110, 108, 101, 115, 115, 32]) r87)).bind fun r88 => ((catC y73.2.1 ((bts [32, 117, 110, 108, 101, 115, 115, 32]) ++ r87))).bind fun r89 => ((appC y64.2.1 [(y73.2.1 ++ ((bts [32, 117, 110, 108, 101, 115, 115, 32]) ++ r87))])).bind fun r90 => some (.inl (y73.1, (r90, (w64 (y64.2.2 + (1 : Int))))))) (((appC y64.2.1 [y73.2.1])).bind fun r91 => some (.inl (y73.1, (r91, (w64 (y64.2.2 + (1 : Int)))))))))) (y64.1, (((((((bts [114, 117, 108, 101, 32]) ++ r65.1) ++ (bts [32])) ++ r68) ++ (bts [32])) ++ r71), (0 : Int)))) (outR (((joinC (bts [10]) y64.2.1)).bind fun r92 => ((catC r92 (bts [10]))).bind fun r93 => jn (cond y64.1 (some (.inl true)) (some (.inl (decide (((r92 ++ (bts [10])).size : Int) > (8000 : Int)))))) (fun y94 : Bool => cond y94 (some ((bts []), (2 : Int))) (some ((r92 ++ (bts [10])), (0 : Int))))))) (false, (y54.1, (0 : Int)))))) ([((bts [99, 111, 100, 101, 32]) ++ x.1)], (0 : Int)))
def G52 (lf : Nat) (x : (ByteArray × (Yf × Yr))) : Option ((ByteArray × Int)) :=
 ((G32 lf (x.1, (x.2.1, x.2.2)))).bind fun r48 => cond (!(decide (r48 = (0 : Int)))) (some ((bts []), r48)) (((catC (bts [99, 111, 100, 101, 32]) x.1)).bind fun r49 => ((catC ((bts [99, 111, 100, 101, 32]) ++ x.1) (bts [10]))).bind fun r50 => iter lf (fun y51 : (ByteArray × Int) => cond (decide (y51.2 < (x.2.1.length : Int))) (((getI x.2.1 y51.2)).bind fun r52 => ((catC (bts [102, 97, 99, 116, 32]) r52.1)).bind fun r53 => ((catC ((bts [102, 97, 99, 116, 32]) ++ r52.1) (bts [32]))).bind fun r54 => ((G141 lf lf r52.2.1)).bind fun r55 => ((catC (((bts [102, 97, 99, 116, 32]) ++ r52.1) ++ (bts [32])) r55)).bind fun r56 => ((catC ((((bts [102, 97, 99, 116, 32]) ++ r52.1) ++ (bts [32])) ++ r55) (bts [32]))).bind fun r57 => ((G141 lf lf r52.2.2)).bind fun r58 => ((catC (((((bts [102, 97, 99, 116, 32]) ++ r52.1) ++ (bts [32])) ++ r55) ++ (bts [32])) r58)).bind fun r59 => ((catC ((((((bts [102, 97, 99, 116, 32]) ++ r52.1) ++ (bts [32])) ++ r55) ++ (bts [32])) ++ r58) (bts [10]))).bind fun r60 => ((catC y51.1 (((((((bts [102, 97, 99, 116, 32]) ++ r52.1) ++ (bts [32])) ++ r55) ++ (bts [32])) ++ r58) ++ (bts [10])))).bind fun r61 => some (.inl ((y51.1 ++ (((((((bts [102, 97, 99, 116, 32]) ++ r52.1) ++ (bts [32])) ++ r55) ++ (bts [32])) ++ r58) ++ (bts [10]))), (w64 (y51.2 + (1 : Int)))))) (outR (iter lf (fun y62 : (Bool × (ByteArray × Int)) => cond (decide (y62.2.2 < (x.2.2.length : Int))) (((getI x.2.2 y62.2.2)).bind fun r63 => ((G20 lf r63.2.2.2.1)).bind fun r64 => ((G20 lf r63.2.2.2.2.1)).bind fun r65 => jn (cond (decide (r64.2 = (41 : Int))) (some (.inl true)) (some (.inl (decide (r65.2 = (41 : Int)))))) (fun y66 : Bool => cond y66 (some (.inr ((bts []), (41 : Int)))) (jn (cond y62.1 (some (.inl true)) (cond (!(decide (r64.2 = (0 : Int)))) (some (.inl true)) (some (.inl (!(decide (r65.2 = (0 : Int)))))))) (fun y67 : Bool => ((catC (bts [114, 117, 108, 101, 32]) r63.1)).bind fun r68 => ((catC ((bts [114, 117, 108, 101, 32]) ++ r63.1) (bts [32]))).bind fun r69 => ((G141 lf lf r63.2.1)).bind fun r70 => ((catC (((bts [114, 117, 108, 101, 32]) ++ r63.1) ++ (bts [32])) r70)).bind fun r71 => ((catC ((((bts [114, 117, 108, 101, 32]) ++ r63.1) ++ (bts [32])) ++ r70) (bts [32]))).bind fun r72 => ((G141 lf lf r63.2.2.1)).bind fun r73 => ((catC (((((bts [114, 117, 108, 101, 32]) ++ r63.1) ++ (bts [32])) ++ r70) ++ (bts [32])) r73)).bind fun r74 => ((catC ((((((bts [114, 117, 108, 101, 32]) ++ r63.1) ++ (bts [32])) ++ r70) ++ (bts [32])) ++ r73) (bts [32, 119, 104, 101, 110, 32]))).bind fun r75 => ((catC (((((((bts [114, 117, 108, 101, 32]) ++ r63.1) ++ (bts [32])) ++ r70) ++ (bts [32])) ++ r73) ++ (bts [32, 119, 104, 101, 110, 32])) r64.1)).bind fun r76 => ((catC ((((((((bts [114, 117, 108, 101, 32]) ++ r63.1) ++ (bts [32])) ++ r70) ++ (bts [32])) ++ r73) ++ (bts [32, 119, 104, 101, 110, 32])) ++ r64.1) (bts [32, 109, 117, 115, 116, 32]))).bind fun r77 => ((catC (((((((((bts [114, 117, 108, 101, 32]) ++ r63.1) ++ (bts [32])) ++ r70) ++ (bts [32])) ++ r73) ++ (bts [32, 119, 104, 101, 110, 32])) ++ r64.1) ++ (bts [32, 109, 117, 115, 116, 32])) r65.1)).bind fun r78 => ((catC y62.2.1 ((((((((((bts [114, 117, 108, 101, 32]) ++ r63.1) ++ (bts [32])) ++ r70) ++ (bts [32])) ++ r73) ++ (bts [32, 119, 104, 101, 110, 32])) ++ r64.1) ++ (bts [32, 109, 117, 115, 116, 32])) ++ r65.1))).bind fun r79 => iter lf (fun y80 : (ByteArray × Int) => cond (decide (y80.2 < (r63.2.2.2.2.2.length : Int))) (((getI r63.2.2.2.2.2 y80.2)).bind fun r81 => cond (decide (y80.2 = (0 : Int))) (((catC y80.1 (bts [32, 117, 110, 108, 101, 115, 115]))).bind fun r82 => ((catC (bts [32]) r81)).bind fun r83 => ((catC (y80.1 ++ (bts [32, 117, 110, 108, 101, 115, 115])) ((bts [32]) ++ r81))).bind fun r84 => some (.inl (((y80.1 ++ (bts [32, 117, 110, 108, 101, 115, 115])) ++ ((bts [32]) ++ r81)), (w64 (y80.2 + (1 : Int)))))) (((catC (bts [32]) r81)).bind fun r85 => ((catC y80.1 ((bts [32]) ++ r81))).bind fun r86 => some (.inl ((y80.1 ++ ((bts [32]) ++ r81)), (w64 (y80.2 + (1 : Int))))))) (outR (((catC y80.1 (bts [10]))).bind fun r87 => some (.inl (y67, ((y80.1 ++ (bts [10])), (w64 (y62.2.2 + (1 : Int))))))))) ((y62.2.1 ++ ((((((((((bts [114, 117, 108, 101, 32]) ++ r63.1) ++ (bts [32])) ++ r70) ++ (bts [32])) ++ r73) ++ (bts [32, 119, 104, 101, 110, 32])) ++ r64.1) ++ (bts [32, 109, 117, 115, 116, 32])) ++ r65.1)), (0 : Int)))))) (outR (jn (cond y62.1 (some (.inl true)) (some (.inl (decide ((y62.2.1.size : Int) > (8000 : Int)))))) (fun y88 : Bool => cond y88 (some ((bts []), (2 : Int))) (some (y62.2.1, (0 : Int))))))) (false, (y51.1, (0 : Int)))))) ((((bts [99, 111, 100, 101, 32]) ++ x.1) ++ (bts [10])), (0 : Int)))
def G10 (lf : Nat) (x : (ByteArray × (ByteArray × (Yf × Yr)))) : Option (Bool) :=
 ((cutC x.1 (0 : Int) (if (4000 : Int) < (x.1.size : Int) then (4000 : Int) else (x.1.size : Int)))).bind fun r11 => ((G49 lf (ByteArray.extract x.1 0 (Int.toNat (if (4000 : Int) < (x.1.size : Int) then (4000 : Int) else (x.1.size : Int)))))).bind fun r12 => ((G50 lf (ByteArray.extract x.1 0 (Int.toNat (if (4000 : Int) < (x.1.size : Int) then (4000 : Int) else (x.1.size : Int)))))).bind fun r13 => ((G51 lf (x.2.1, (x.2.2.1, x.2.2.2)))).bind fun r14 => ((G52 lf (x.2.1, (x.2.2.1, x.2.2.2)))).bind fun r15 => ((G53 lf ((r12.1.1, (r12.1.2.1, r12.1.2.2)), (r13.1.1, (r13.1.2.1, r13.1.2.2))))).bind fun r16 => cond r16 (cond (decide (r12.2.1 = r13.2.1)) (cond (decide (r12.2.2 = r13.2.2)) (cond (r14.1.data.toList == r15.1.data.toList) (cond (decide (r14.2 = r15.2)) (((G22 lf ())).bind fun r17 => some r17) (some false)) (some false)) (some false)) (some false)) (some false)
end
end Go.K
namespace Go.K
open Go.Sl Go.Sx Go.Proofs
def fcT (f : Fct) : ByteArray := (((((bts [102, 97, 99, 116, 32]) ++ f.1) ++ (bts [32])) ++ It f.2.1) ++ (bts [32])) ++ It f.2.2
def hdT (r : Rl) : ByteArray := (((((bts [114, 117, 108, 101, 32]) ++ r.1) ++ (bts [32])) ++ It r.2.1) ++ (bts [32])) ++ It r.2.2.1
def rlT (r : Rl) : ByteArray := (((hdT r ++ (bts [32, 119, 104, 101, 110, 32])) ++ (printB r.2.2.2.1).1) ++ (bts [32, 109, 117, 115, 116, 32])) ++ (printB r.2.2.2.2.1).1
def unT (x : ByteArray) (i : Nat) (a : ByteArray) : ByteArray := if i = 0 then (a ++ (bts [32, 117, 110, 108, 101, 115, 115])) ++ ((bts [32]) ++ x) else a ++ ((bts [32]) ++ x)
def badR (r : Rl) : Bool := decide ((printB r.2.2.2.1).2 = 41) || decide ((printB r.2.2.2.2.1).2 = 41)
def longR (r : Rl) : Bool := !decide ((printB r.2.2.2.1).2 = 0) || !decide ((printB r.2.2.2.2.1).2 = 0)
def rlS (r : Rl) (_ : Nat) (a : Bool × ByteArray) : (Bool × ByteArray) ⊕ (ByteArray × Int) :=
 if badR r = true then .inr (bts [], 41) else .inl (a.1 || longR r, foldI unT r.2.2.2.2.2 0 (a.2 ++ rlT r) ++ bts [10])
def printC (c : Cd) : ByteArray × Int :=
 if codeE c ≠ 0 then (bts [], codeE c) else
  match foldS rlS c.2.2 0 (false, foldI (fun f _ a => a ++ (fcT f ++ bts [10])) c.2.1 0 (((bts [99, 111, 100, 101, 32]) ++ c.1) ++ bts [10])) with
  | .inr e => e
  | .inl a => if a.1 = true ∨ 8000 < a.2.size then (bts [], 2) else (a.2, 0)
theorem nm_size {w : ByteArray} (h : nmB w = true) : w.size ≤ 12 := by
 unfold nmB at h
 simp only [za, decide_eq_true_eq] at h
 exact h.1.1.2
theorem cat_sm {a b : ByteArray} (ha : a.size ≤ 1000000) (hb : b.size ≤ 1000000) : catC a b = some () := catC_of (by omega)
theorem fcT_size {f : Fct} (h : nmB f.1 = true ∧ -1000000000000 ≤ f.2.1 ∧ f.2.1 ≤ f.2.2 ∧ f.2.2 ≤ 1000000000000) : (fcT f).size ≤ 60 := by
 have := nm_size h.1
 have := It_size (n := f.2.1) (by omega)
 have := It_size (n := f.2.2) (by omega)
 unfold fcT
 simp only [size_app, bts_size, zc, zl]; omega
theorem rlT_size {r : Rl} (h : nmB r.1 = true ∧ 0 ≤ r.2.1 ∧ r.2.1 ≤ r.2.2.1 ∧ r.2.2.1 ≤ 100000) : (hdT r).size ≤ 60 ∧ (rlT r).size ≤ 16080 := by
 have := nm_size h.1
 have := It_size (n := r.2.1) (by omega)
 have := It_size (n := r.2.2.1) (by omega)
 have := printB_size r.2.2.2.1
 have := printB_size r.2.2.2.2.1
 unfold rlT hdT
 simp only [size_app, bts_size, zc, zl]; omega
theorem unT_size (l : List ByteArray) (hl : ∀ u ∈ l, u.size ≤ 12) : ∀ (i : Nat) (a : ByteArray), (foldI unT l i a).size ≤ a.size + 20 * l.length := by
 induction l with
 | nil => intro i a; unfold foldI; simp
 | cons u l ih =>
  intro i a
  unfold foldI
  have h1 := ih (fun x hx => hl x (List.mem_cons_of_mem _ hx)) (i + 1) (unT u i a)
  have h2 := hl u (List.mem_cons_self ..)
  have h3 : (unT u i a).size ≤ a.size + 20 := by
   unfold unT
   split <;> simp only [size_app, bts_size, zc, zl] <;> omega
  rw [zc]; omega
theorem G52_print (c : Cd) : G52 LF c = some (printC c) := by
 unfold G52 printC
 simp only [G32_code, zb]
 by_cases h0 : codeE c = 0
 ·obtain ⟨b1, b2, b3, b4, b5⟩ := codeE_ok h0
  have hn := nm_size b1
  have s1 : ((bts [99, 111, 100, 101, 32]) ++ c.1).size ≤ 17 := by simp only [size_app, bts_size, zc, zl]; omega
  have hlit : ∀ l : List Nat, l.length ≤ 100 → (bts l).size ≤ 1000000 := fun l h => by rw [bts_size]; omega
  have k1 : catC (bts [99, 111, 100, 101, 32]) c.1 = some () := cat_sm (hlit _ (by simp)) (by omega)
  have k2 : catC ((bts [99, 111, 100, 101, 32]) ++ c.1) (bts [10]) = some () := cat_sm (by omega) (hlit _ (by simp))
  have nn : ¬ (codeE c ≠ 0) := fun h => h h0
  have s2 : (((bts [99, 111, 100, 101, 32]) ++ c.1) ++ bts [10]).size ≤ 18 := by rw [size_app, bts_size]; simp only [zc, zl]; omega
  simp only [ze h0, Bool.not_true, zf, k1, k2, zb, if_neg nn]
  refine (iter_foldI (fun i a => (a, i)) (fun f _ a => a ++ (fcT f ++ bts [10])) (fun i a => a.size ≤ 18 + 61 * i) c.2.1
   (fun s => match foldS rlS c.2.2 0 (false, s) with
    | .inr e => some e
    | .inl a => some (if a.1 = true ∨ 8000 < a.2.size then (bts [], 2) else (a.2, 0))) _ ?_ ?_ ?_ (by show c.2.1.length < 9223372036854775808; omega) (by show _ ≤ 18 + 61 * 0; omega)).trans ?_
  ·intro i f a hf hg
   have hi := (List.getElem?_eq_some_iff.1 hf).1
   have hb := b4 i f hf
   have z := fcT_size hb
   have z1 := nm_size hb.1
   have z2 := It_size (n := f.2.1) (by omega)
   have z3 := It_size (n := f.2.2) (by omega)
   have c1 : catC (bts [102, 97, 99, 116, 32]) f.1 = some () := cat_sm (hlit _ (by simp)) (by omega)
   have c2 : catC ((bts [102, 97, 99, 116, 32]) ++ f.1) (bts [32]) = some () := cat_sm (by simp only [size_app, bts_size, zc, zl]; omega) (hlit _ (by simp))
   have c3 : catC (((bts [102, 97, 99, 116, 32]) ++ f.1) ++ (bts [32])) (It f.2.1) = some () := cat_sm (by simp only [size_app, bts_size, zc, zl]; omega) (by omega)
   have c4 : catC ((((bts [102, 97, 99, 116, 32]) ++ f.1) ++ (bts [32])) ++ It f.2.1) (bts [32]) = some () := cat_sm (by simp only [size_app, bts_size, zc, zl]; omega) (hlit _ (by simp))
   have c5 : catC (((((bts [102, 97, 99, 116, 32]) ++ f.1) ++ (bts [32])) ++ It f.2.1) ++ (bts [32])) (It f.2.2) = some () := cat_sm (by simp only [size_app, bts_size, zc, zl]; omega) (by omega)
   have c6 : catC ((((((bts [102, 97, 99, 116, 32]) ++ f.1) ++ (bts [32])) ++ It f.2.1) ++ (bts [32])) ++ It f.2.2) (bts [10]) = some () := cat_sm (by simp only [size_app, bts_size, zc, zl]; omega) (hlit _ (by simp))
   have c7 : catC a (((((((bts [102, 97, 99, 116, 32]) ++ f.1) ++ (bts [32])) ++ It f.2.1) ++ (bts [32])) ++ It f.2.2) ++ (bts [10])) = some () := cat_sm (by omega) (by simp only [size_app, bts_size, zc, zl]; omega)
   have t1 := G141_it LF LF (LFpos 16 (by omega) |> Nat.le_of_lt) (n := f.2.1) (by omega)
   have t2 := G141_it LF LF (LFpos 16 (by omega) |> Nat.le_of_lt) (n := f.2.2) (by omega)
   simp only [dlt hi, zt, getI_nat hf, zb, c1, c2, c3, c4, c5, c6, c7, t1, t2, succ_W (show i + 1 < 9223372036854775808 by omega)]
   rfl
  ·intro i f a hf hg
   have z := fcT_size (b4 i f hf)
   simp only [size_app, bts_size, zc, zl]; omega
  ·intro s hs
   simp only [dnlt, zf]
   congr 1
   refine (iter_go (fun i (a : Bool × ByteArray) => (a.1, (a.2, i))) rlS (fun i a => a.2.size ≤ 1000 + 20000 * i) c.2.2 (fun a => some (if a.1 = true ∨ 8000 < a.2.size then (bts [], 2) else (a.2, 0))) (false, s) ?_ ?_ ?_ (by show c.2.2.length < 9223372036854775808; omega) (by show s.size ≤ 1000 + 20000 * 0; omega)).trans ?_
   ·intro i r a hr hg
    have hi := (List.getElem?_eq_some_iff.1 hr).1
    obtain ⟨r1, r2, r3, r4, r5, r6⟩ := b5 i r hr
    obtain ⟨z1, z2⟩ := rlT_size ⟨r1, r2, r3, r4⟩
    have hun : ∀ u ∈ r.2.2.2.2.2, u.size ≤ 12 := fun u hu => by
     obtain ⟨k, hk⟩ := List.getElem?_of_mem hu
     exact nm_size (r6 k u hk)
    have y1 := nm_size r1
    have y2 := It_size (n := r.2.1) (by omega)
    have y3 := It_size (n := r.2.2.1) (by omega)
    have y4 := printB_size r.2.2.2.1
    have y5 := printB_size r.2.2.2.2.1
    have t1 := G141_it LF LF (LFpos 16 (by omega) |> Nat.le_of_lt) (n := r.2.1) (by omega)
    have t2 := G141_it LF LF (LFpos 16 (by omega) |> Nat.le_of_lt) (n := r.2.2.1) (by omega)
    have c1 : catC (bts [114, 117, 108, 101, 32]) r.1 = some () := cat_sm (hlit _ (by simp)) (by omega)
    have c2 : catC ((bts [114, 117, 108, 101, 32]) ++ r.1) (bts [32]) = some () := cat_sm (by simp only [size_app, bts_size, zc, zl]; omega) (hlit _ (by simp))
    have c3 : catC (((bts [114, 117, 108, 101, 32]) ++ r.1) ++ (bts [32])) (It r.2.1) = some () := cat_sm (by simp only [size_app, bts_size, zc, zl]; omega) (by omega)
    have c4 : catC ((((bts [114, 117, 108, 101, 32]) ++ r.1) ++ (bts [32])) ++ It r.2.1) (bts [32]) = some () := cat_sm (by simp only [size_app, bts_size, zc, zl]; omega) (hlit _ (by simp))
    have c5 : catC (((((bts [114, 117, 108, 101, 32]) ++ r.1) ++ (bts [32])) ++ It r.2.1) ++ (bts [32])) (It r.2.2.1) = some () := cat_sm (by simp only [size_app, bts_size, zc, zl]; omega) (by omega)
    have eh : (((((bts [114, 117, 108, 101, 32]) ++ r.1) ++ (bts [32])) ++ It r.2.1) ++ (bts [32])) ++ It r.2.2.1 = hdT r := rfl
    have c6 : catC (hdT r) (bts [32, 119, 104, 101, 110, 32]) = some () := cat_sm (by omega) (hlit _ (by simp))
    have c7 : catC (hdT r ++ (bts [32, 119, 104, 101, 110, 32])) (printB r.2.2.2.1).1 = some () := cat_sm (by simp only [size_app, bts_size, zc, zl]; omega) (by omega)
    have c8 : catC ((hdT r ++ (bts [32, 119, 104, 101, 110, 32])) ++ (printB r.2.2.2.1).1) (bts [32, 109, 117, 115, 116, 32]) = some () := cat_sm (by simp only [size_app, bts_size, zc, zl]; omega) (hlit _ (by simp))
    have c9 : catC (((hdT r ++ (bts [32, 119, 104, 101, 110, 32])) ++ (printB r.2.2.2.1).1) ++ (bts [32, 109, 117, 115, 116, 32])) (printB r.2.2.2.2.1).1 = some () := cat_sm (by simp only [size_app, bts_size, zc, zl]; omega) (by omega)
    have er : (((hdT r ++ (bts [32, 119, 104, 101, 110, 32])) ++ (printB r.2.2.2.1).1) ++ (bts [32, 109, 117, 115, 116, 32])) ++ (printB r.2.2.2.2.1).1 = rlT r := rfl
    have hg' : a.2.size ≤ 1000 + 20000 * i := hg
    have c10 : catC a.2 (rlT r) = some () := cat_sm (by omega) (by omega)
    have eb : (jn (cond (decide ((printB r.2.2.2.1).2 = (41 : Int))) (some (.inl true)) (some (.inl (decide ((printB r.2.2.2.2.1).2 = (41 : Int)))))) : (Bool → Option ((Bool × (ByteArray × Int)) ⊕ (ByteArray × Int))) → _) = fun K => K (badR r) := by
     funext K
     unfold badR
     cases decide ((printB r.2.2.2.1).2 = 41) <;> rfl
    have el : (jn (cond a.1 (some (.inl true)) (cond (!(decide ((printB r.2.2.2.1).2 = (0 : Int)))) (some (.inl true)) (some (.inl (!(decide ((printB r.2.2.2.2.1).2 = (0 : Int)))))))) : (Bool → Option ((Bool × (ByteArray × Int)) ⊕ (ByteArray × Int))) → _) = fun K => K (a.1 || longR r) := by
     funext K
     unfold longR
     cases a.1 with
     | true => rfl
     | false => cases decide ((printB r.2.2.2.1).2 = 0) <;> rfl
    simp only [dlt hi, zt, getI_nat hr, zb, G20_print, eb, el, rlS]
    cases hbad : badR r with
    | true => simp only [zt, if_true]
    | false =>
     simp only [zf, Bool.false_eq_true, if_false, c1, c2, c3, c4, c5, t1, t2, eh, c6, c7, c8, c9, er, c10, zb]
     refine (iter_foldI (fun k b => (b, k)) unT (fun k b => b.size ≤ 1000 + 20000 * i + 16080 + 20 * k) r.2.2.2.2.2 (fun b => some (.inl (a.1 || longR r, (b ++ bts [10], ((i + 1 : Nat) : Int))))) (a.2 ++ rlT r) ?_ ?_ ?_ (by show r.2.2.2.2.2.length < 9223372036854775808; omega) (by show (a.2 ++ rlT r).size ≤ _; rw [size_app]; omega)).trans ?_
     ·intro k u b hu hk
      have hki := (List.getElem?_eq_some_iff.1 hu).1
      have hus := hun u (List.mem_of_getElem? hu)
      have d1 : catC b (bts [32, 117, 110, 108, 101, 115, 115]) = some () := cat_sm (by omega) (hlit _ (by simp))
      have d2 : catC (bts [32]) u = some () := cat_sm (hlit _ (by simp)) (by omega)
      have d3 : catC (b ++ (bts [32, 117, 110, 108, 101, 115, 115])) ((bts [32]) ++ u) = some () := cat_sm (by simp only [size_app, bts_size, zc, zl]; omega) (by simp only [size_app, bts_size, zc, zl]; omega)
      have d4 : catC b ((bts [32]) ++ u) = some () := cat_sm (by omega) (by simp only [size_app, bts_size, zc, zl]; omega)
      simp only [dlt hki, zt, getI_nat hu, zb, d1, d2, d3, d4, succ_W (show k + 1 < 9223372036854775808 by omega), unT]
      by_cases hz : k = 0
      ·subst hz; rfl
      ·simp only [zd (show ¬ ((k : Int) = 0) by omega), zf, if_neg hz]
     ·intro k u b hu hk
      have hus := hun u (List.mem_of_getElem? hu)
      unfold unT
      split <;> simp only [size_app, bts_size, zc, zl] <;> omega
     ·intro b hb
      have d1 : catC b (bts [10]) = some () := cat_sm (by omega) (hlit _ (by simp))
      simp only [dnlt, zf, d1, zb, succ_W (show i + 1 < 9223372036854775808 by omega)]
     ·rfl
   ·intro i r a a' hr hg hs
    obtain ⟨r1, r2, r3, r4, r5, r6⟩ := b5 i r hr
    obtain ⟨z1, z2⟩ := rlT_size ⟨r1, r2, r3, r4⟩
    have hun : ∀ u ∈ r.2.2.2.2.2, u.size ≤ 12 := fun u hu => by
     obtain ⟨k, hk⟩ := List.getElem?_of_mem hu
     exact nm_size (r6 k u hk)
    have hu := unT_size r.2.2.2.2.2 hun 0 (a.2 ++ rlT r)
    rw [size_app] at hu
    unfold rlS at hs
    split at hs
    ·cases hs
    ·cases hs
     simp only [size_app, bts_size, zc, zl]; omega
   ·intro a _
    simp only [dnlt, zf]
    congr 1
    by_cases hl : a.1 = true
    ·simp only [hl, zt, jl, true_or, if_true]
    ·have hl' : a.1 = false := by simpa using hl
     simp only [hl', zf, jl, Bool.false_eq_true, false_or]
     by_cases h8 : 8000 < a.2.size
     ·simp only [ze (show (a.2.size : Int) > 8000 by omega), zt, if_pos h8]
     ·simp only [zd (show ¬ (a.2.size : Int) > 8000 by omega), zf, if_neg h8]
   ·cases foldS rlS c.2.2 0 (false, s) <;> rfl
  ·cases foldS rlS c.2.2 0 (false, foldI (fun f _ a => a ++ (fcT f ++ bts [10])) c.2.1 0 (((bts [99, 111, 100, 101, 32]) ++ c.1) ++ bts [10])) <;> rfl
 ·simp only [zd h0, Bool.not_false, zt, if_pos (show codeE c ≠ 0 from h0)]
end Go.K
namespace Go.K
open Go.Sl Go.Sx Go.Proofs
def joT (sep : ByteArray) (l : List ByteArray) : ByteArray := match l with
 | [] => ByteArray.empty
 | x :: xs => xs.foldl (fun r y => r ++ sep ++ y) x
theorem joinC_T {sep : ByteArray} {l : List ByteArray} (h : l.foldl (fun n x => n + x.size + (sep.size + 1)) 0 ≤ 1099511627776) : joinC sep l = some (joT sep l) := by
 unfold joinC; rw [if_pos h]; rfl
theorem sum_le (k m : Nat) (l : List ByteArray) (h : ∀ x ∈ l, x.size ≤ m) : ∀ n : Nat, l.foldl (fun n x => n + x.size + k) n ≤ n + l.length * (m + k) := by
 induction l with
 | nil => intro n; simp
 | cons x l ih =>
  intro n
  have h1 := ih (fun y hy => h y (List.mem_cons_of_mem _ hy)) (n + x.size + k)
  have h2 := h x (List.mem_cons_self ..)
  rw [List.foldl_cons, zc, Nat.succ_mul]; omega
theorem app_as (a b c : ByteArray) : a ++ b ++ c = a ++ (b ++ c) := by
 apply ext_data; simp only [app_data, List.append_assoc]
theorem fold_pre (sep p : ByteArray) : ∀ (l : List ByteArray) (x : ByteArray), p ++ l.foldl (fun r y => r ++ sep ++ y) x = l.foldl (fun r y => r ++ sep ++ y) (p ++ x)
 | [], x => rfl
 | y :: l, x => by rw [List.foldl_cons, List.foldl_cons, fold_pre sep p l]; simp only [app_as]
theorem unT_late : ∀ (l : List ByteArray) (i : Nat) (a : ByteArray), 0 < i → foldI unT l i a = l.foldl (fun r y => r ++ bts [32] ++ y) a
 | [], i, a, _ => rfl
 | y :: l, i, a, h => by
  have e : unT y i a = a ++ bts [32] ++ y := by unfold unT; rw [if_neg (by omega), app_as]
  show foldI unT l (i + 1) (unT y i a) = _
  rw [unT_late l (i + 1) _ (by omega), e]; rfl
theorem un_word : (bts [32, 117, 110, 108, 101, 115, 115]) ++ bts [32] = bts [32, 117, 110, 108, 101, 115, 115, 32] := ext_data (by rw [app_data]; rfl)
theorem unT_join (x : ByteArray) (l : List ByteArray) (a : ByteArray) : foldI unT (x :: l) 0 a = a ++ (bts [32, 117, 110, 108, 101, 115, 115, 32] ++ joT (bts [32]) (x :: l)) := by
 show foldI unT l 1 (unT x 0 a) = _
 rw [unT_late l 1 _ (by omega)]
 unfold unT joT
 rw [if_pos rfl]
 simp only
 rw [← un_word, fold_pre, fold_pre]
 congr 1
 simp only [app_as]
def lnT (r : Rl) : ByteArray := foldI unT r.2.2.2.2.2 0 (rlT r)
theorem lnT_pre (s : ByteArray) (r : Rl) : foldI unT r.2.2.2.2.2 0 (s ++ rlT r) = s ++ lnT r := by
 unfold lnT
 cases r.2.2.2.2.2 with
 | nil => rfl
 | cons x l => rw [unT_join, unT_join, app_as]
def txL (l : List ByteArray) : ByteArray := l.foldl (fun a x => a ++ (x ++ bts [10])) ByteArray.empty
theorem txL_app (l : List ByteArray) (x : ByteArray) : txL (l ++ [x]) = txL l ++ (x ++ bts [10]) := by
 unfold txL; rw [List.foldl_append]; rfl
theorem emp_app (x : ByteArray) : ByteArray.empty ++ x = x := by
 apply ext_data; rw [app_data]; rfl
theorem fold_nl : ∀ (l : List ByteArray) (x : ByteArray), l.foldl (fun r y => r ++ bts [10] ++ y) x ++ bts [10] = l.foldl (fun a y => a ++ (y ++ bts [10])) (x ++ bts [10])
 | [], x => rfl
 | y :: l, x => by rw [List.foldl_cons, List.foldl_cons, fold_nl l, app_as (x ++ bts [10]) y]
theorem joT_nl (x : ByteArray) (l : List ByteArray) : joT (bts [10]) (x :: l) ++ bts [10] = txL (x :: l) := by
 unfold joT txL
 simp only [List.foldl_cons, emp_app]
 exact fold_nl l x
def rlP (r : Rl) (_ : Nat) (a : Bool × List ByteArray) : (Bool × List ByteArray) ⊕ (ByteArray × Int) :=
 if badR r = true then .inr (bts [], 41) else .inl (a.1 || longR r, a.2 ++ [lnT r])
theorem rl_rel : ∀ (l : List Rl) (i : Nat) (b : Bool) (ls : List ByteArray), foldS rlS l i (b, txL ls) = match foldS rlP l i (b, ls) with
  | .inl a => .inl (a.1, txL a.2)
  | .inr e => .inr e
 | [], i, b, ls => rfl
 | r :: l, i, b, ls => by
  unfold foldS rlS rlP
  cases hb : badR r with
  | true => rfl
  | false =>
   simp only [Bool.false_eq_true, if_false]
   rw [lnT_pre, app_as, ← txL_app]
   exact rl_rel l (i + 1) _ _
theorem fc_rel : ∀ (l : List Fct) (i : Nat) (ls : List ByteArray), foldI (fun f _ a => a ++ (fcT f ++ bts [10])) l i (txL ls) = txL (ls ++ l.map fcT)
 | [], i, ls => by simp [foldI]
 | f :: l, i, ls => by
  show foldI _ l (i + 1) (txL ls ++ (fcT f ++ bts [10])) = _
  rw [← txL_app, fc_rel l (i + 1), List.map_cons, List.append_assoc]; rfl
theorem printC_lines (c : Cd) : printC c = if codeE c ≠ 0 then (bts [], codeE c) else
  match foldS rlP c.2.2 0 (false, ((bts [99, 111, 100, 101, 32]) ++ c.1) :: c.2.1.map fcT) with
  | .inr e => e
  | .inl a => if a.1 = true ∨ 8000 < (txL a.2).size then (bts [], 2) else (txL a.2, 0) := by
 unfold printC
 have e1 : ((bts [99, 111, 100, 101, 32]) ++ c.1) ++ bts [10] = txL [(bts [99, 111, 100, 101, 32]) ++ c.1] := by
  unfold txL; simp only [List.foldl_cons, List.foldl_nil, emp_app]
 rw [e1, fc_rel, rl_rel]
 show (if codeE c ≠ 0 then _ else _) = _
 congr 1
 show (match (match foldS rlP c.2.2 0 (false, [(bts [99, 111, 100, 101, 32]) ++ c.1] ++ c.2.1.map fcT) with
  | .inl a => (.inl (a.1, txL a.2) : (Bool × ByteArray) ⊕ (ByteArray × Int))
  | .inr e => .inr e) with
  | .inr e => e
  | .inl a => if a.1 = true ∨ 8000 < a.2.size then (bts [], 2) else (a.2, 0)) = _
 rw [show [(bts [99, 111, 100, 101, 32]) ++ c.1] ++ c.2.1.map fcT = ((bts [99, 111, 100, 101, 32]) ++ c.1) :: c.2.1.map fcT from rfl]
 cases foldS rlP c.2.2 0 (false, ((bts [99, 111, 100, 101, 32]) ++ c.1) :: c.2.1.map fcT) <;> rfl
end Go.K
namespace Go.K
open Go.Sl Go.Sx Go.Proofs
theorem lnT_size {r : Rl} (h : nmB r.1 = true ∧ 0 ≤ r.2.1 ∧ r.2.1 ≤ r.2.2.1 ∧ r.2.2.1 ≤ 100000) (h6 : r.2.2.2.2.2.length ≤ 6) (hun : ∀ u ∈ r.2.2.2.2.2, u.size ≤ 12) : (lnT r).size ≤ 16200 := by
 obtain ⟨z1, z2⟩ := rlT_size h
 have := unT_size r.2.2.2.2.2 hun 0 (rlT r)
 unfold lnT; omega
theorem joT_size (l : List ByteArray) (hl : ∀ x ∈ l, x.size ≤ 12) : (joT (bts [32]) l).size ≤ 20 * l.length := by
 unfold joT
 cases l with
 | nil => exact Nat.zero_le _
 | cons x l =>
  have hf : ∀ (m : List ByteArray), (∀ y ∈ m, y.size ≤ 12) → ∀ a : ByteArray, (m.foldl (fun r y => r ++ bts [32] ++ y) a).size ≤ a.size + 20 * m.length := by
   intro m
   induction m with
   | nil => intro _ a; simp
   | cons y m ih =>
    intro hm a
    have h1 := ih (fun z hz => hm z (List.mem_cons_of_mem _ hz)) (a ++ bts [32] ++ y)
    have h2 := hm y (List.mem_cons_self ..)
    simp only [size_app, bts_size, zc, zl] at h1
    rw [List.foldl_cons, zc]; omega
  have h1 := hf l (fun z hz => hl z (List.mem_cons_of_mem _ hz)) x
  have h2 := hl x (List.mem_cons_self ..)
  simp only [zc]; omega
def cdS (x : Cnd) (k : Nat) (a : Bool × ByteArray) : (Bool × ByteArray) ⊕ ((Bool × (List ByteArray × Int)) ⊕ (ByteArray × Int)) :=
 if (printB x).2 = 41 then .inr (.inr (bts [], 41)) else .inl (a.1 || !decide ((printB x).2 = 0), a.2 ++ ((if k = 0 then bts [32, 119, 104, 101, 110, 32] else bts [32, 109, 117, 115, 116, 32]) ++ (printB x).1))
theorem G51_print (c : Cd) : G51 LF c = some (printC c) := by
 rw [printC_lines]
 unfold G51
 simp only [G31_code, zb]
 by_cases h0 : codeE c = 0
 ·obtain ⟨b1, b2, b3, b4, b5⟩ := codeE_ok h0
  have hn := nm_size b1
  have hlit : ∀ l : List Nat, l.length ≤ 100 → (bts l).size ≤ 1000000 := fun l h => by rw [bts_size]; omega
  have k1 : catC (bts [99, 111, 100, 101, 32]) c.1 = some () := cat_sm (hlit _ (by simp)) (by omega)
  have s1 : ((bts [99, 111, 100, 101, 32]) ++ c.1).size ≤ 17 := by simp only [size_app, bts_size, zc, zl]; omega
  have nn : ¬ (codeE c ≠ 0) := fun h => h h0
  have happ : ∀ (a : List ByteArray) (x : ByteArray), a.length ≤ 1000 → appC a [x] = some (a ++ [x]) := fun a x h => appC_of (by simp; omega)
  simp only [ze h0, Bool.not_true, zf, k1, zb, if_neg nn]
  refine (iter_foldI (fun i a => (a, i)) (fun f _ a => a ++ [fcT f]) (fun i (a : List ByteArray) => a.length = 1 + i ∧ (∀ x ∈ a, x.size ≤ 16200) ∧ ∃ y l, a = y :: l) c.2.1
   (fun s => match foldS rlP c.2.2 0 (false, s) with
    | .inr e => some e
    | .inl a => some (if a.1 = true ∨ 8000 < (txL a.2).size then (bts [], 2) else (txL a.2, 0))) _ ?_ ?_ ?_ (by show c.2.1.length < 9223372036854775808; omega)
   ⟨rfl, fun x hx => by rcases List.mem_singleton.1 hx with rfl; omega, _, _, rfl⟩).trans ?_
  ·intro i f a hf hg
   have hi := (List.getElem?_eq_some_iff.1 hf).1
   have hb := b4 i f hf
   have z1 := nm_size hb.1
   have z2 := It_size (n := f.2.1) (by omega)
   have z3 := It_size (n := f.2.2) (by omega)
   have c1 : catC (bts [102, 97, 99, 116, 32]) f.1 = some () := cat_sm (hlit _ (by simp)) (by omega)
   have c2 : catC ((bts [102, 97, 99, 116, 32]) ++ f.1) (bts [32]) = some () := cat_sm (by simp only [size_app, bts_size, zc, zl]; omega) (hlit _ (by simp))
   have c3 : catC (((bts [102, 97, 99, 116, 32]) ++ f.1) ++ (bts [32])) (It f.2.1) = some () := cat_sm (by simp only [size_app, bts_size, zc, zl]; omega) (by omega)
   have c4 : catC ((((bts [102, 97, 99, 116, 32]) ++ f.1) ++ (bts [32])) ++ It f.2.1) (bts [32]) = some () := cat_sm (by simp only [size_app, bts_size, zc, zl]; omega) (hlit _ (by simp))
   have c5 : catC (((((bts [102, 97, 99, 116, 32]) ++ f.1) ++ (bts [32])) ++ It f.2.1) ++ (bts [32])) (It f.2.2) = some () := cat_sm (by simp only [size_app, bts_size, zc, zl]; omega) (by omega)
   have t1 := itoaC_it (n := f.2.1) (by omega)
   have t2 := itoaC_it (n := f.2.2) (by omega)
   simp only [dlt hi, zt, getI_nat hf, zb, c1, c2, c3, c4, c5, t1, t2, happ a _ (by omega), succ_W (show i + 1 < 9223372036854775808 by omega)]
   rfl
  ·intro i f a hf hg
   obtain ⟨g1, g2, y, l, rfl⟩ := hg
   have z := fcT_size (b4 i f hf)
   refine ⟨by rw [List.length_append, g1]; simp; omega, fun x hx => ?_, y, l ++ [fcT f], rfl⟩
   rcases List.mem_append.1 hx with hx | hx
   ·exact g2 x hx
   ·rcases List.mem_singleton.1 hx with rfl; omega
  ·intro s hs
   simp only [dnlt, zf]
   congr 1
   refine (iter_go (fun i (a : Bool × List ByteArray) => (a.1, (a.2, i))) rlP (fun i a => a.2.length ≤ 7 + i ∧ (∀ x ∈ a.2, x.size ≤ 16200) ∧ ∃ y l, a.2 = y :: l) c.2.2 (fun a => some (if a.1 = true ∨ 8000 < (txL a.2).size then (bts [], 2) else (txL a.2, 0))) (false, s) ?_ ?_ ?_ (by show c.2.2.length < 9223372036854775808; omega)
    ⟨by have := hs.1; show s.length ≤ 7 + 0; omega, hs.2⟩).trans ?_
   ·intro i r a hr hg
    have hi := (List.getElem?_eq_some_iff.1 hr).1
    obtain ⟨r1, r2, r3, r4, r5, r6⟩ := b5 i r hr
    obtain ⟨z1, z2⟩ := rlT_size ⟨r1, r2, r3, r4⟩
    have hun : ∀ u ∈ r.2.2.2.2.2, u.size ≤ 12 := fun u hu => by
     obtain ⟨k, hk⟩ := List.getElem?_of_mem hu
     exact nm_size (r6 k u hk)
    have y1 := nm_size r1
    have y2 := It_size (n := r.2.1) (by omega)
    have y3 := It_size (n := r.2.2.1) (by omega)
    have y4 := printB_size r.2.2.2.1
    have y5 := printB_size r.2.2.2.2.1
    have t1 := itoaC_it (n := r.2.1) (by omega)
    have t2 := itoaC_it (n := r.2.2.1) (by omega)
    have c1 : catC (bts [114, 117, 108, 101, 32]) r.1 = some () := cat_sm (hlit _ (by simp)) (by omega)
    have c2 : catC ((bts [114, 117, 108, 101, 32]) ++ r.1) (bts [32]) = some () := cat_sm (by simp only [size_app, bts_size, zc, zl]; omega) (hlit _ (by simp))
    have c3 : catC (((bts [114, 117, 108, 101, 32]) ++ r.1) ++ (bts [32])) (It r.2.1) = some () := cat_sm (by simp only [size_app, bts_size, zc, zl]; omega) (by omega)
    have c4 : catC ((((bts [114, 117, 108, 101, 32]) ++ r.1) ++ (bts [32])) ++ It r.2.1) (bts [32]) = some () := cat_sm (by simp only [size_app, bts_size, zc, zl]; omega) (hlit _ (by simp))
    have c5 : catC (((((bts [114, 117, 108, 101, 32]) ++ r.1) ++ (bts [32])) ++ It r.2.1) ++ (bts [32])) (It r.2.2.1) = some () := cat_sm (by simp only [size_app, bts_size, zc, zl]; omega) (by omega)
    have eh : (((((bts [114, 117, 108, 101, 32]) ++ r.1) ++ (bts [32])) ++ It r.2.1) ++ (bts [32])) ++ It r.2.2.1 = hdT r := rfl
    simp only [dlt hi, zt, getI_nat hr, zb, c1, c2, c3, c4, c5, t1, t2, eh, G19_print]
    refine (iter_go (fun k (b : Bool × ByteArray) => (b.1, (b.2, k))) cdS (fun k b => b.2.size ≤ 60 + 8006 * k) [r.2.2.2.1, r.2.2.2.2.1] (fun b => some (.inl (b.1, (a.2 ++ [if r.2.2.2.2.2.length = 0 then b.2 else b.2 ++ (bts [32, 117, 110, 108, 101, 115, 115, 32] ++ joT (bts [32]) r.2.2.2.2.2)], ((i + 1 : Nat) : Int))))) (a.1, hdT r) ?_ ?_ ?_ (by show 2 < 9223372036854775808; omega) (by show (hdT r).size ≤ 60 + 8006 * 0; omega)).trans ?_
    ·intro k x b hx hb
     have hk := (List.getElem?_eq_some_iff.1 hx).1
     have hb' : b.2.size ≤ 60 + 8006 * k := hb
     have hk2 : k < 2 := hk
     have hkc : k = 0 ∨ k = 1 := by omega
     rcases hkc with e | e
     ·subst e
      simp only [List.getElem?_cons_zero, zi] at hx
      subst hx
      have d1 : catC (bts [32, 119, 104, 101, 110, 32]) (printB r.2.2.2.1).1 = some () := cat_sm (hlit _ (by simp)) (by omega)
      have d2 : catC b.2 ((bts [32, 119, 104, 101, 110, 32]) ++ (printB r.2.2.2.1).1) = some () := cat_sm (by omega) (by simp only [size_app, bts_size, zc, zl]; omega)
      have e1 : decide (((0 : Nat) : Int) < 2) = true := rfl
      have e2 : decide (((0 : Nat) : Int) = 0) = true := rfl
      unfold cdS
      by_cases h41 : (printB r.2.2.2.1).2 = 41
      ·simp only [e1, e2, zt, ze h41, if_pos h41, jr]
       rw [h41]
      ·simp only [e1, e2, zt, zd h41, zf, if_neg h41, if_true]
       cases b.1 with
       | true => simp only [zt, jl, d1, d2, zb, Bool.true_or]; rfl
       | false => simp only [zf, jl, d1, d2, zb, Bool.false_or]; rfl
     ·subst e
      simp only [List.getElem?_cons_succ, List.getElem?_cons_zero, zi] at hx
      subst hx
      have d1 : catC (bts [32, 109, 117, 115, 116, 32]) (printB r.2.2.2.2.1).1 = some () := cat_sm (hlit _ (by simp)) (by omega)
      have d2 : catC b.2 ((bts [32, 109, 117, 115, 116, 32]) ++ (printB r.2.2.2.2.1).1) = some () := cat_sm (by omega) (by simp only [size_app, bts_size, zc, zl]; omega)
      have e1 : decide (((1 : Nat) : Int) < 2) = true := rfl
      have e2 : decide (((1 : Nat) : Int) = 0) = false := rfl
      have e3 : decide (((1 : Nat) : Int) = 1) = true := rfl
      have n1 : ¬ (1 = 0) := by omega
      unfold cdS
      by_cases h41 : (printB r.2.2.2.2.1).2 = 41
      ·simp only [e1, e2, e3, zt, zf, ze h41, if_pos h41, jr]
       rw [h41]
      ·simp only [e1, e2, e3, zt, zd h41, zf, if_neg h41, if_neg n1]
       cases b.1 with
       | true => simp only [zt, jl, d1, d2, zb, Bool.true_or]; rfl
       | false => simp only [zf, jl, d1, d2, zb, Bool.false_or]; rfl
    ·intro k x b b' hx hb hs
     have y := printB_size x
     have hb' : b.2.size ≤ 60 + 8006 * k := hb
     unfold cdS at hs
     split at hs
     ·cases hs
     ·cases hs
      show (b.2 ++ ((if k = 0 then _ else _) ++ (printB x).1)).size ≤ 60 + 8006 * (k + 1)
      split <;> simp only [size_app, bts_size, zc, zl] <;> omega
    ·intro b hb
     have hb' : b.2.size ≤ 60 + 8006 * 2 := hb
     have e1 : decide (((2 : Nat) : Int) < 2) = false := rfl
     have hj : joinC (bts [32]) r.2.2.2.2.2 = some (joT (bts [32]) r.2.2.2.2.2) := joinC_T (by
      have := sum_le ((bts [32]).size + 1) 12 r.2.2.2.2.2 hun 0
      rw [bts_size] at this ⊢
      simp only [zc, zl] at this ⊢
      omega)
     have js := joT_size r.2.2.2.2.2 hun
     have d1 : catC (bts [32, 117, 110, 108, 101, 115, 115, 32]) (joT (bts [32]) r.2.2.2.2.2) = some () := cat_sm (hlit _ (by simp)) (by omega)
     have d2 : catC b.2 ((bts [32, 117, 110, 108, 101, 115, 115, 32]) ++ joT (bts [32]) r.2.2.2.2.2) = some () := cat_sm (by omega) (by simp only [size_app, bts_size, zc, zl]; omega)
     have hal : a.2.length ≤ 1000 := by have := hg.1; omega
     have e2 : decide ((([r.2.2.2.1, r.2.2.2.2.1].length : Nat) : Int) < 2) = false := rfl
     simp only [e2, zf, succ_W (show i + 1 < 9223372036854775808 by omega)]
     by_cases hz : r.2.2.2.2.2.length = 0
     ·simp only [hz, zd (show ¬ (((0 : Nat) : Int) > 0) by omega), zf, if_true, happ a.2 _ hal, zb]
     ·simp only [ze (show ((r.2.2.2.2.2.length : Nat) : Int) > 0 by omega), zt, if_neg hz, hj, d1, d2, happ a.2 _ hal, zb]
    ·have hfin : (if r.2.2.2.2.2.length = 0 then rlT r else rlT r ++ (bts [32, 117, 110, 108, 101, 115, 115, 32] ++ joT (bts [32]) r.2.2.2.2.2)) = lnT r := by
      unfold lnT
      cases r.2.2.2.2.2 with
      | nil => rfl
      | cons x l => rw [if_neg (by simp), unT_join]
     have er : (hdT r ++ (bts [32, 119, 104, 101, 110, 32] ++ (printB r.2.2.2.1).1)) ++ (bts [32, 109, 117, 115, 116, 32] ++ (printB r.2.2.2.2.1).1) = rlT r := by
      unfold rlT; simp only [app_as]
     unfold rlP badR longR
     simp only [foldS, cdS]
     by_cases h1 : (printB r.2.2.2.1).2 = 41
     ·simp only [h1, if_true, decide_true, Bool.true_or]
     ·by_cases h2 : (printB r.2.2.2.2.1).2 = 41
      ·simp only [h1, h2, if_true, if_false, decide_true, decide_false, Bool.or_true]
      ·have n1 : ¬ (0 + 1 = 0) := by omega
       simp only [h1, h2, if_true, if_false, decide_false, Bool.or_false, Bool.false_eq_true, n1, er, hfin, Bool.or_assoc]
   ·intro i r a a' hr hg hs
    obtain ⟨r1, r2, r3, r4, r5, r6⟩ := b5 i r hr
    have hun : ∀ u ∈ r.2.2.2.2.2, u.size ≤ 12 := fun u hu => by
     obtain ⟨k, hk⟩ := List.getElem?_of_mem hu
     exact nm_size (r6 k u hk)
    have z := lnT_size ⟨r1, r2, r3, r4⟩ r5 hun
    obtain ⟨g1, g2, y, l, g3⟩ := hg
    unfold rlP at hs
    split at hs
    ·cases hs
    ·cases hs
     refine ⟨by show (a.2 ++ [lnT r]).length ≤ _; rw [List.length_append]; simp; omega, fun x hx => ?_, y, l ++ [lnT r], by show a.2 ++ [lnT r] = _; rw [g3]; rfl⟩
     rcases List.mem_append.1 hx with hx | hx
     ·exact g2 x hx
     ·rcases List.mem_singleton.1 hx with rfl; omega
   ·intro a hg
    obtain ⟨g1, g2, y, l, g3⟩ := hg
    have hsum := sum_le ((bts [10]).size + 1) 16200 a.2 g2 0
    have hb1 : (bts [10]).size = 1 := by rw [bts_size]; rfl
    rw [hb1] at hsum
    have hj : joinC (bts [10]) a.2 = some (joT (bts [10]) a.2) := joinC_T (by rw [hb1]; omega)
    have hnl : joT (bts [10]) a.2 ++ bts [10] = txL a.2 := by rw [g3]; exact joT_nl y l
    have hsz : (joT (bts [10]) a.2).size ≤ 1000000 := by
     rw [g3] at g2 ⊢
     have hf : ∀ (m : List ByteArray), (∀ y ∈ m, y.size ≤ 16200) → ∀ b : ByteArray, (m.foldl (fun r y => r ++ bts [10] ++ y) b).size ≤ b.size + 16201 * m.length := by
      intro m
      induction m with
      | nil => intro _ b; simp
      | cons w m ih =>
       intro hm b
       have h1 := ih (fun z hz => hm z (List.mem_cons_of_mem _ hz)) (b ++ bts [10] ++ w)
       have h2 := hm w (List.mem_cons_self ..)
       simp only [size_app, hb1] at h1
       rw [List.foldl_cons, zc]; omega
     have h1 := hf l (fun z hz => g2 z (List.mem_cons_of_mem _ hz)) y
     have h2 := g2 y (List.mem_cons_self ..)
     rw [g3, zc] at g1
     show (l.foldl (fun r y => r ++ bts [10] ++ y) y).size ≤ 1000000
     omega
    have d1 : catC (joT (bts [10]) a.2) (bts [10]) = some () := cat_sm hsz (hlit _ (by simp))
    simp only [dnlt, zf, hj, zb, d1, hnl]
    congr 1
    by_cases hl : a.1 = true
    ·simp only [hl, zt, jl, true_or, if_true]
    ·have hl' : a.1 = false := by simpa using hl
     simp only [hl', zf, jl, Bool.false_eq_true, false_or]
     by_cases h8 : 8000 < (txL a.2).size
     ·simp only [ze (show ((txL a.2).size : Int) > 8000 by omega), zt, if_pos h8]
     ·simp only [zd (show ¬ ((txL a.2).size : Int) > 8000 by omega), zf, if_neg h8]
   ·cases foldS rlP c.2.2 0 (false, s) <;> rfl
  ·have hmap : ∀ (l : List Fct) (i : Nat) (a : List ByteArray), foldI (fun f _ a => a ++ [fcT f]) l i a = a ++ l.map fcT := by
    intro l
    induction l with
    | nil => intro i a; simp [foldI]
    | cons f l ih => intro i a; show foldI _ l (i + 1) (a ++ [fcT f]) = _; rw [ih, List.append_assoc]; rfl
   rw [hmap]
   show (match foldS rlP c.2.2 0 (false, ((bts [99, 111, 100, 101, 32]) ++ c.1) :: c.2.1.map fcT) with
    | .inr e => some e
    | .inl a => some (if a.1 = true ∨ 8000 < (txL a.2).size then (bts [], 2) else (txL a.2, 0))) = _
   cases foldS rlP c.2.2 0 (false, ((bts [99, 111, 100, 101, 32]) ++ c.1) :: c.2.1.map fcT) <;> rfl
 ·simp only [zd h0, Bool.not_false, zt, if_pos (show codeE c ≠ 0 from h0)]
end Go.K
namespace Go.K
open Go.Sl Go.Sx Go.Proofs
def atW (l : List ByteArray) (w : ByteArray) : Nat → Nat → Nat
 | 0, _ => l.length
 | n + 1, i => if i < l.length then (if wAt l i = w then i else atW l w n (i + 1)) else l.length
theorem eq_beq (a b : ByteArray) : (a.data.toList == b.data.toList) = decide (a = b) := eqD a b
theorem G204_loop (l : List ByteArray) (w : ByteArray) (hl : l.length ≤ 8001) : ∀ (k n lf i : Nat), l.length < i + k → k ≤ n → k ≤ lf → 0 < k → i ≤ 100000 →
  iter lf (fun y5 : Int => cond (decide (y5 < (l.length : Int))) (((getI l y5)).bind fun r6 => cond (decide (r6 = w)) (some (.inr y5)) (some (.inl (w64 (y5 + (1 : Int)))))) (some (.inr (l.length : Int)))) (i : Int) = some ((atW l w n i : Nat) : Int)
 | 0, n, lf, i, _, _, _, h, _ => by omega
 | k + 1, 0, lf, i, _, h, _, _, _ => by omega
 | k + 1, n + 1, 0, i, _, _, h, _, _ => by omega
 | k + 1, n + 1, lf + 1, i, h1, h2, h3, h4, h5 => by
  unfold atW
  by_cases hi : i < l.length
  ·rw [if_pos hi]
   by_cases he : wAt l i = w
   ·rw [if_pos he]
    simp only [iter, dlt hi, zt, getI_w hi, zb, eq_beq, he, decide_true]
   ·rw [if_neg he]
    simp only [iter, dlt hi, zt, getI_w hi, zb, eq_beq, zd he, zf, succ_W (show i + 1 < 9223372036854775808 by omega)]
    exact G204_loop l w hl k n lf (i + 1) (by omega) (by omega) (by omega) (by omega) (by omega)
  ·rw [if_neg hi]
   simp only [iter, zd (show ¬ ((i : Int) < (l.length : Int)) by omega), zf]
theorem G204_at {l : List ByteArray} (w : ByteArray) {i : Nat} (hl : l.length ≤ 8001) (hi : i ≤ 9000) : G204 LF (l, (w, (i : Int))) = some ((atW l w 10000 i : Nat) : Int) := by
 unfold G204
 simp only [eq_beq]
 exact G204_loop l w hl 8002 10000 LF i (by omega) (by omega) (by show 8002 ≤ 9223372036854775808; omega) (by omega) (by omega)
end Go.K
namespace Go.K
open Go.Sl Go.Sx Go.Proofs
def nuW (w : ByteArray) (sg : Bool) : Int × Bool := pairN (num 13 w.data.toList sg)
theorem G203_nu (w : ByteArray) (sg : Bool) : G203 LF (w, ((13 : Int), sg)) = some (nuW w sg) := by
 have := G203_num 13 (by omega) w.data.toList sg
 rwa [ofL_back] at this
def factW (w : List ByteArray) : Fct × Bool :=
 if w.length ≠ 4 ∨ nmB (wAt w 1) = false then ((bts [], (0, 0)), false)
 else ((wAt w 1, ((nuW (wAt w 2) true).1, (nuW (wAt w 3) true).1)), (nuW (wAt w 2) true).2 && (nuW (wAt w 3) true).2)
theorem G137_fact (w : List ByteArray) : G137 LF w = some (factW w) := by
 unfold G137 factW
 by_cases h4 : w.length = 4
 ·have e1 : getI w (1 : Int) = some (wAt w 1) := getI_w (i := 1) (by omega)
  have e2 : getI w (2 : Int) = some (wAt w 2) := getI_w (i := 2) (by omega)
  have e3 : getI w (3 : Int) = some (wAt w 3) := getI_w (i := 3) (by omega)
  have h4' : decide ((w.length : Int) = 4) = true := ze (by omega)
  simp only [h4', Bool.not_true, zf, e1, e2, e3, zb, G99_nm, jl, G203_nu]
  cases hn : nmB (wAt w 1) with
  | false => simp only [Bool.not_false, zt, or_true, if_true]
  | true =>
   rw [if_neg (by simp [h4])]
   simp only [Bool.not_true, zf]
   cases (nuW (wAt w 2) true).2 with
   | true => simp only [zt, Bool.true_and]
   | false => simp only [zf, Bool.false_and]
 ·have h4' : decide ((w.length : Int) = 4) = false := zd (by omega)
  simp only [h4', Bool.not_false, zt, jl, if_pos (Or.inl h4 : w.length ≠ 4 ∨ nmB (wAt w 1) = false)]
end Go.K
namespace Go.K
open Go.Sl Go.Sx Go.Proofs
abbrev wMust : ByteArray := bts [109, 117, 115, 116]
abbrev wUnl : ByteArray := bts [117, 110, 108, 101, 115, 115]
abbrev wWhen : ByteArray := bts [119, 104, 101, 110]
abbrev wFact : ByteArray := bts [102, 97, 99, 116]
abbrev wRule : ByteArray := bts [114, 117, 108, 101]
abbrev wCode : ByteArray := bts [99, 111, 100, 101]
theorem qWhen (w : ByteArray) : (w.data.toList == [UInt8.ofNat 119, UInt8.ofNat 104, UInt8.ofNat 101, UInt8.ofNat 110]) = decide (w = wWhen) := eqD w wWhen
theorem qMust (w : ByteArray) : (w.data.toList == [UInt8.ofNat 109, UInt8.ofNat 117, UInt8.ofNat 115, UInt8.ofNat 116]) = decide (w = wMust) := eqD w wMust
theorem qFact (w : ByteArray) : (w.data.toList == [UInt8.ofNat 102, UInt8.ofNat 97, UInt8.ofNat 99, UInt8.ofNat 116]) = decide (w = wFact) := eqD w wFact
theorem qRule (w : ByteArray) : (w.data.toList == [UInt8.ofNat 114, UInt8.ofNat 117, UInt8.ofNat 108, UInt8.ofNat 101]) = decide (w = wRule) := eqD w wRule
theorem qCode (w : ByteArray) : (w.data.toList == [UInt8.ofNat 99, UInt8.ofNat 111, UInt8.ofNat 100, UInt8.ofNat 101]) = decide (w = wCode) := eqD w wCode
def ixW (e : ByteArray) : List ByteArray → Nat
 | [] => 0
 | x :: r => if x = e then 0 else ixW e r + 1
theorem ixW_le (e : ByteArray) : ∀ l : List ByteArray, ixW e l ≤ l.length
 | [] => Nat.le_refl _
 | x :: r => by
  have := ixW_le e r
  unfold ixW
  split
  ·omega
  ·rw [zc]; omega
theorem ixW_drop (e : ByteArray) : ∀ l : List ByteArray, l.drop (ixW e l) = [] ∨ ∃ r, l.drop (ixW e l) = e :: r
 | [] => .inl rfl
 | x :: r => by
  unfold ixW
  by_cases h : x = e
  ·rw [if_pos h, h]; exact .inr ⟨r, rfl⟩
  ·rw [if_neg h]; exact ixW_drop e r
theorem drop_wAt {l : List ByteArray} {i : Nat} (hi : i < l.length) : l.drop i = wAt l i :: l.drop (i + 1) := by
 rw [List.drop_eq_getElem_cons hi]
 unfold wAt
 rw [List.getD_eq_getElem?_getD, List.getElem?_eq_getElem hi]; rfl
theorem atW_le (l : List ByteArray) (w : ByteArray) : ∀ n i, atW l w n i ≤ l.length
 | 0, i => Nat.le_refl _
 | n + 1, i => by
  unfold atW
  split
  ·split
   ·omega
   ·exact atW_le l w n (i + 1)
  ·exact Nat.le_refl _
theorem atW_ix (l : List ByteArray) (w : ByteArray) : ∀ n i, i ≤ l.length → l.length - i < n → atW l w n i = i + ixW w (l.drop i)
 | 0, i, h1, h2 => by omega
 | n + 1, i, h1, h2 => by
  unfold atW
  by_cases hi : i < l.length
  ·rw [if_pos hi, drop_wAt hi]
   show _ = i + (if wAt l i = w then 0 else ixW w (l.drop (i + 1)) + 1)
   by_cases he : wAt l i = w
   ·rw [if_pos he, if_pos he]; rfl
   ·rw [if_neg he, if_neg he, atW_ix l w n (i + 1) (by omega) (by omega)]; omega
  ·rw [if_neg hi, List.drop_eq_nil_of_le (by omega)]
   show l.length = i + 0; omega
theorem subI_seg {α : Type} {xs : List α} {a b : Nat} (h1 : a ≤ b) (h2 : b ≤ xs.length) : subI xs (a : Int) (b : Int) = some ((xs.drop a).take (b - a)) := by
 unfold subI
 rw [if_pos ⟨by omega, by omega, by omega⟩]
 simp only [Int.toNat_natCast, List.drop_take]
theorem subI_dr {α : Type} {xs : List α} {a : Nat} (h1 : a ≤ xs.length) : subI xs (a : Int) (xs.length : Int) = some (xs.drop a) := by
 rw [subI_seg h1 (Nat.le_refl _), List.take_of_length_le (by rw [List.length_drop]; omega)]
theorem subI_tk {α : Type} {xs : List α} {b : Nat} (h2 : b ≤ xs.length) : subI xs (0 : Int) (b : Int) = some (xs.take b) := by
 have := subI_seg (xs := xs) (Nat.zero_le b) h2
 simpa using this
def factL (w : List ByteArray) : Option Fct := match w with
 | [_, a, b, c] => if nmB a = true ∧ (nuW b true).2 = true ∧ (nuW c true).2 = true then some (a, ((nuW b true).1, (nuW c true).1)) else none
 | _ => none
def ruleL (w : List ByteArray) : Option Rl := match w with
 | _ :: a :: b :: c :: d :: rest => match rest.drop (ixW wMust rest) with
  | [] => none
  | _ :: r2 => if nmB a = true ∧ (nuW b false).2 = true ∧ (nuW c false).2 = true ∧ d = wWhen ∧ (parseW (rest.take (ixW wMust rest))).2.2 = 0 ∧ (parseW (r2.take (ixW wUnl r2))).2.2 = 0 ∧ ixW wUnl r2 + 1 ≠ r2.length ∧ (r2.drop (ixW wUnl r2 + 1)).all nmB = true
   then some (a, ((nuW b false).1, ((nuW c false).1, ((parseW (rest.take (ixW wMust rest))).1, ((parseW (r2.take (ixW wUnl r2))).1, r2.drop (ixW wUnl r2 + 1)))))) else none
 | _ => none
theorem factW_L (w : List ByteArray) : factL w = if (factW w).2 = true then some (factW w).1 else none := by
 by_cases h : w.length = 4
 ·obtain ⟨z, a, b, c, rfl⟩ : ∃ z a b c, w = [z, a, b, c] := by
   match w, h with
   | [z, a, b, c], _ => exact ⟨z, a, b, c, rfl⟩
  have w1 : wAt [z, a, b, c] 1 = a := rfl
  have w2 : wAt [z, a, b, c] 2 = b := rfl
  have w3 : wAt [z, a, b, c] 3 = c := rfl
  unfold factL factW
  simp only [w1, w2, w3]
  cases ha : nmB a <;> cases hb : (nuW b true).2 <;> cases hc : (nuW c true).2 <;> simp [ha, hb, hc]
 ·have e1 : factL w = none := by
   match w, h with
   | [], _ => rfl
   | [_], _ => rfl
   | [_, _], _ => rfl
   | [_, _, _], _ => rfl
   | [_, _, _, _], h => exact absurd rfl h
   | _ :: _ :: _ :: _ :: _ :: _, _ => rfl
  rw [e1]
  unfold factW
  rw [if_pos (Or.inl h)]; rfl
theorem names_loop (us : List ByteArray) (hl : us.length < LF) (Z A : Rl × Bool) : iter LF (fun y41 : Int => cond (decide (y41 < (us.length : Int))) (((getI us y41)).bind fun r42 => ((getI us y41)).bind fun r43 => cond (!nmB r43) (some (.inr Z)) (some (.inl (w64 (y41 + (1 : Int)))))) (some (.inr A))) (0 : Int) = some (if us.all nmB = true then A else Z) := by
 refine (iter_scan (fun (x : ByteArray) _ => if nmB x = true then none else some Z) us (some A) (fun i x hx _ => ?_) (fun _ => ?_) hl).trans ?_
 ·have hi := (List.getElem?_eq_some_iff.1 hx).1
  simp only [dlt hi, zt, getI_nat hx, zb, succ_W (show i + 1 < LF by omega)]
  cases nmB x <;> rfl
 ·simp only [dnlt, zf]; rfl
 ·have : ∀ (l : List ByteArray) (i : Nat), scan (fun (x : ByteArray) _ => if nmB x = true then none else some Z) l i = if l.all nmB = true then none else some Z := by
   intro l
   induction l with
   | nil => intro i; rfl
   | cons x l ih =>
    intro i
    unfold scan
    rw [List.all_cons]
    cases nmB x with
    | false => rfl
    | true => exact ih (i + 1)
  rw [this]
  cases us.all nmB <;> rfl
abbrev zR : Rl := (bts [], ((0 : Int), ((0 : Int), (([] : List (Int × (Int × (Int × (ByteArray × Int))))), (([] : List (Int × (Int × (Int × (ByteArray × Int))))), ([] : List ByteArray))))))
theorem ruleL_few {w : List ByteArray} (h : w.length < 5) : ruleL w = none := by
 match w, h with
 | [], _ => rfl
 | [_], _ => rfl
 | [_, _], _ => rfl
 | [_, _, _], _ => rfl
 | [_, _, _, _], _ => rfl
 | _ :: _ :: _ :: _ :: _ :: _, h => exact absurd h (by simp only [zc]; omega)
theorem G138_rule {w : List ByteArray} (hl : w.length ≤ 8001) : ∃ r b, G138 LF w = some (r, b) ∧ ruleL w = if b = true then some r else none := by
 have e5 : G204 LF (w, (bts [109, 117, 115, 116], (5 : Int))) = some ((atW w wMust 10000 5 : Nat) : Int) := G204_at (i := 5) wMust hl (by omega)
 have hm : atW w wMust 10000 5 ≤ w.length := atW_le ..
 have e6 : G204 LF (w, (bts [117, 110, 108, 101, 115, 115], ((atW w wMust 10000 5 : Nat) : Int))) = some ((atW w wUnl 10000 (atW w wMust 10000 5) : Nat) : Int) := G204_at wUnl hl (by omega)
 unfold G138
 simp only [e5, e6, zb]
 by_cases h5 : w.length < 5
 ·refine ⟨zR, false, ?_, ruleL_few h5⟩
  simp only [ze (show ((w.length : Int) < 5) by omega), zt, jl]
 obtain ⟨z, a, b, c, d, rest, rfl⟩ : ∃ z a b c d rest, w = z :: a :: b :: c :: d :: rest := by
  match w, h5 with
  | [], h => exact absurd (by simp) h
  | [_], h => exact absurd (by simp) h
  | [_, _], h => exact absurd (by simp) h
  | [_, _, _], h => exact absurd (by simp) h
  | [_, _, _, _], h => exact absurd (by simp) h
  | z :: a :: b :: c :: d :: rest, _ => exact ⟨z, a, b, c, d, rest, rfl⟩
 have hlen : (z :: a :: b :: c :: d :: rest).length = rest.length + 5 := rfl
 rw [hlen] at hl hm h5
 have emu : atW (z :: a :: b :: c :: d :: rest) wMust 10000 5 = 5 + ixW wMust rest := atW_ix _ _ _ _ (by rw [hlen]; omega) (by rw [hlen]; omega)
 have hdr : (z :: a :: b :: c :: d :: rest).drop (5 + ixW wMust rest) = rest.drop (ixW wMust rest) := by rw [Nat.add_comm]; rfl
 have hn := ixW_le wMust rest
 have eun : atW (z :: a :: b :: c :: d :: rest) wUnl 10000 (5 + ixW wMust rest) = 5 + ixW wMust rest + ixW wUnl (rest.drop (ixW wMust rest)) := by
  rw [atW_ix _ _ _ _ (by rw [hlen]; omega) (by rw [hlen]; omega), hdr]
 have g1 : getI (z :: a :: b :: c :: d :: rest) (1 : Int) = some a := getI_w (i := 1) (by rw [hlen]; omega)
 have g2 : getI (z :: a :: b :: c :: d :: rest) (2 : Int) = some b := getI_w (i := 2) (by rw [hlen]; omega)
 have g3 : getI (z :: a :: b :: c :: d :: rest) (3 : Int) = some c := getI_w (i := 3) (by rw [hlen]; omega)
 have g4 : getI (z :: a :: b :: c :: d :: rest) (4 : Int) = some d := getI_w (i := 4) (by rw [hlen]; omega)
 have n5 : decide (((rest.length + 5 : Nat) : Int) < 5) = false := zd (by omega)
 have wl : w64 (((rest.length + 5 : Nat) : Int) - 1) = ((rest.length + 4 : Nat) : Int) := by rw [w64_in (by omega)]; omega
 simp only [emu, eun, hlen, g1, g2, g3, g4, zb, n5, zf, G99_nm, qWhen, wl]
 rcases ixW_drop wMust rest with hd | ⟨r2, hd⟩
 ·have hr : ixW wMust rest = rest.length := by
   have := congrArg List.length hd
   rw [List.length_drop, zl] at this; omega
  refine ⟨zR, false, ?_, ?_⟩
  ·have ed : decide (((5 + ixW wMust rest : Nat) : Int) = ((rest.length + 5 : Nat) : Int)) = true := ze (by omega)
   cases nmB a with
   | false => simp only [Bool.not_false, zt, jl]
   | true =>
    cases hw : decide (d = wWhen) with
    | false => simp only [hw, Bool.not_true, Bool.not_false, zf, zt, jl]
    | true => simp only [hw, ed, Bool.not_true, zf, zt, jl]
  ·unfold ruleL
   simp only [hd]; rfl
 have hl2 : ixW wMust rest + 1 + r2.length = rest.length := by
  have := congrArg List.length hd
  rw [List.length_drop, zc] at this; omega
 have hk := ixW_le wUnl r2
 have hrd : rest.drop (ixW wMust rest + 1) = r2 := by rw [← List.drop_drop, hd]; rfl
 have eu2 : ixW wUnl (rest.drop (ixW wMust rest)) = ixW wUnl r2 + 1 := by
  rw [hd]
  show (if wMust = wUnl then 0 else ixW wUnl r2 + 1) = _
  rw [if_neg (by decide)]
 have ed : decide (((5 + ixW wMust rest : Nat) : Int) = ((rest.length + 5 : Nat) : Int)) = false := zd (by omega)
 have s1 : subI (z :: a :: b :: c :: d :: rest) (5 : Int) ((5 + ixW wMust rest : Nat) : Int) = some (rest.take (ixW wMust rest)) := by
  refine (subI_seg (a := 5) (by omega) (by rw [hlen]; omega)).trans ?_
  rw [show 5 + ixW wMust rest - 5 = ixW wMust rest by omega]; rfl
 have s2 : subI (z :: a :: b :: c :: d :: rest) (w64 (((5 + ixW wMust rest : Nat) : Int) + 1)) ((5 + ixW wMust rest + (ixW wUnl r2 + 1) : Nat) : Int) = some (r2.take (ixW wUnl r2)) := by
  rw [succ_W (show 5 + ixW wMust rest + 1 < 9223372036854775808 by omega)]
  refine (subI_seg (by omega) (by rw [hlen]; omega)).trans ?_
  rw [show 5 + ixW wMust rest + (ixW wUnl r2 + 1) - (5 + ixW wMust rest + 1) = ixW wUnl r2 by omega, show 5 + ixW wMust rest + 1 = (ixW wMust rest + 1) + 5 by omega]
  show some ((rest.drop (ixW wMust rest + 1)).take _) = _
  rw [hrd]
 have q1 : G89 LF (rest.take (ixW wMust rest)) = some (parseW (rest.take (ixW wMust rest))) := G89_parse (by rw [List.length_take]; omega)
 have q2 : G89 LF (r2.take (ixW wUnl r2)) = some (parseW (r2.take (ixW wUnl r2))) := G89_parse (by rw [List.length_take]; omega)
 have hu : (jn (cond (decide (((5 + ixW wMust rest + (ixW wUnl r2 + 1) : Nat) : Int) < ((rest.length + 5 : Nat) : Int))) (((subI (z :: a :: b :: c :: d :: rest) (w64 (((5 + ixW wMust rest + (ixW wUnl r2 + 1) : Nat) : Int) + (1 : Int))) ((rest.length + 5 : Nat) : Int))).bind fun r38 => ((appC ([] : List ByteArray) r38)).bind fun r39 => some (.inl r39)) (some (.inl ([] : List ByteArray)))) : (List ByteArray → Option (Rl × Bool)) → _) = fun K => K (r2.drop (ixW wUnl r2 + 1)) := by
  funext K
  by_cases hx : ixW wUnl r2 < r2.length
  ·rw [ze (by omega), succ_W (show 5 + ixW wMust rest + (ixW wUnl r2 + 1) + 1 < 9223372036854775808 by omega)]
   have := subI_dr (xs := z :: a :: b :: c :: d :: rest) (a := 5 + ixW wMust rest + (ixW wUnl r2 + 1) + 1) (by rw [hlen]; omega)
   rw [hlen] at this
   rw [this, show 5 + ixW wMust rest + (ixW wUnl r2 + 1) + 1 = (ixW wMust rest + 1 + (ixW wUnl r2 + 1)) + 5 by omega]
   have ed5 : (z :: a :: b :: c :: d :: rest).drop (ixW wMust rest + 1 + (ixW wUnl r2 + 1) + 5) = rest.drop (ixW wMust rest + 1 + (ixW wUnl r2 + 1)) := rfl
   rw [zt, ed5, ← List.drop_drop, hrd, zb, appC_of (by rw [List.length_drop, zl]; omega), zb, jl, List.nil_append]
  ·rw [zd (by omega), List.drop_eq_nil_of_le (by omega)]; rfl
 have hus : (r2.drop (ixW wUnl r2 + 1)).length < LF := by rw [List.length_drop]; show _ < 9223372036854775808; omega
 have rl : ruleL (z :: a :: b :: c :: d :: rest) = if nmB a = true ∧ (nuW b false).2 = true ∧ (nuW c false).2 = true ∧ d = wWhen ∧ (parseW (rest.take (ixW wMust rest))).2.2 = 0 ∧ (parseW (r2.take (ixW wUnl r2))).2.2 = 0 ∧ ixW wUnl r2 + 1 ≠ r2.length ∧ (r2.drop (ixW wUnl r2 + 1)).all nmB = true
   then some (a, ((nuW b false).1, ((nuW c false).1, ((parseW (rest.take (ixW wMust rest))).1, ((parseW (r2.take (ixW wUnl r2))).1, r2.drop (ixW wUnl r2 + 1)))))) else none := by
  unfold ruleL
  simp only [hd]
 rw [rl]
 simp only [eu2, ed, s1, s2, q1, q2, G203_nu, zb, zf]
 by_cases ha : nmB a = true
 rotate_left
 ·refine ⟨zR, false, ?_, by rw [if_neg (fun h => ha h.1)]; rfl⟩
  rw [Bool.not_eq_true] at ha
  simp only [ha, Bool.not_false, zt, jl]
 by_cases hw : d = wWhen
 rotate_left
 ·refine ⟨zR, false, ?_, by rw [if_neg (fun h => hw h.2.2.2.1)]; rfl⟩
  simp only [ha, zd hw, Bool.not_true, Bool.not_false, zf, zt, jl]
 by_cases hx : ixW wUnl r2 + 1 = r2.length
 ·refine ⟨zR, false, ?_, by rw [if_neg (fun h => h.2.2.2.2.2.2.1 hx)]; rfl⟩
  simp only [ha, ze hw, Bool.not_true, zf, jl, ze (show ((5 + ixW wMust rest + (ixW wUnl r2 + 1) : Nat) : Int) = ((rest.length + 4 : Nat) : Int) by omega), zt]
 have hu2 := hu
 simp only [ha, ze hw, Bool.not_true, zf, jl, zd (show ¬ ((5 + ixW wMust rest + (ixW wUnl r2 + 1) : Nat) : Int) = ((rest.length + 4 : Nat) : Int) by omega), hu]
 by_cases hal : (r2.drop (ixW wUnl r2 + 1)).all nmB = true
 rotate_left
 ·refine ⟨zR, false, ?_, by rw [if_neg (fun h => hal h.2.2.2.2.2.2.2)]; rfl⟩
  cases (nuW b false).2 <;> cases (nuW c false).2 <;> cases decide ((parseW (rest.take (ixW wMust rest))).2.2 = 0) <;>
   simp only [zt, zf, outR, names_loop _ hus, if_neg hal]
 refine ⟨(a, ((nuW b false).1, ((nuW c false).1, ((parseW (rest.take (ixW wMust rest))).1, ((parseW (r2.take (ixW wUnl r2))).1, r2.drop (ixW wUnl r2 + 1)))))), (nuW b false).2 && ((nuW c false).2 && (decide ((parseW (rest.take (ixW wMust rest))).2.2 = 0) && decide ((parseW (r2.take (ixW wUnl r2))).2.2 = 0))), ?_, ?_⟩
 ·cases (nuW b false).2 <;> cases (nuW c false).2 <;> cases decide ((parseW (rest.take (ixW wMust rest))).2.2 = 0) <;>
   simp only [zt, zf, outR, names_loop _ hus, if_pos hal, Bool.true_and, Bool.false_and]
 ·by_cases h1 : (nuW b false).2 = true
  rotate_left
  ·rw [if_neg (fun h => h1 h.2.1), if_neg (by simp [h1])]
  by_cases h2 : (nuW c false).2 = true
  rotate_left
  ·rw [if_neg (fun h => h2 h.2.2.1), if_neg (by simp [h2])]
  by_cases h3 : (parseW (rest.take (ixW wMust rest))).2.2 = 0
  rotate_left
  ·rw [if_neg (fun h => h3 h.2.2.2.2.1), if_neg (by simp [h3])]
  by_cases h4 : (parseW (r2.take (ixW wUnl r2))).2.2 = 0
  rotate_left
  ·rw [if_neg (fun h => h4 h.2.2.2.2.2.1), if_neg (by simp [h4])]
  rw [if_pos ⟨trivial, h1, h2, hw, h3, h4, hx, hal⟩, if_pos (by simp [h1, h2, h3, h4])]
end Go.K
namespace Go.K
open Go.Sl Go.Sx Go.Proofs
def linesB (s : ByteArray) : List ByteArray := (lns s.data.toList).map ofL
theorem linesB_len (s : ByteArray) : (linesB s).length ≤ s.size + 1 := by
 unfold linesB lns
 rw [List.length_map, size_len]
 exact Nat.le_trans (trimE_len _) (sp_len _)
theorem sp_mem : ∀ (l x : List UInt8), x ∈ sp l → x.length ≤ l.length
 | [], x, h => by
  rcases List.mem_singleton.1 h with rfl
  exact Nat.le_refl _
 | b :: r, x, h => by
  have ih := sp_mem r
  unfold sp at h
  split at h
  ·rcases List.mem_cons.1 h with rfl | h
   ·exact Nat.zero_le _
   ·have := ih x h
    rw [zc]; omega
  ·split at h
   ·rename_i y ys hy
    rcases List.mem_cons.1 h with rfl | h
    ·have := ih y (by rw [hy]; exact List.mem_cons_self ..)
     simp only [zc]; omega
    ·have := ih x (by rw [hy]; exact List.mem_cons_of_mem _ h)
     rw [zc]; omega
   ·rcases List.mem_singleton.1 h with rfl
    simp only [zc, zl]; omega
theorem linesB_size {s x : ByteArray} (h : x ∈ linesB s) : x.size ≤ s.size := by
 unfold linesB lns at h
 obtain ⟨l, hl, rfl⟩ := List.mem_map.1 h
 have hm : l ∈ sp s.data.toList := by
  unfold trimE at hl
  split at hl
  ·exact (List.dropLast_sublist _).subset hl
  ·exact hl
 rw [ofL_size, size_len]
 exact sp_mem _ _ hm
theorem seg_succ {l : List UInt8} {a i : Nat} (h1 : a ≤ i) (h2 : i < l.length) : (l.drop a).take (i + 1 - a) = (l.drop a).take (i - a) ++ [l[i]] := by
 rw [show i + 1 - a = (i - a) + 1 by omega, List.take_add_one, List.getElem?_drop, show a + (i - a) = i by omega, List.getElem?_eq_getElem h2]; rfl
theorem G136_loop (l : List UInt8) (hl : l.length ≤ 8000) : ∀ (k i a : Nat) (out : List ByteArray) (f : Nat), i + k = l.length → k < f → a ≤ i → out.length ≤ i →
  iter f (fun y9 : ((List ByteArray) × (Int × Int)) => cond (decide (y9.2.2 < ((ofL l).size : Int))) (((byteAt (ofL l) y9.2.2)).bind fun r10 => cond (decide (r10 = (10 : Int))) (((cutC (ofL l) y9.2.1 y9.2.2)).bind fun r11 => ((appC y9.1 [(ByteArray.extract (ofL l) (Int.toNat y9.2.1) (Int.toNat y9.2.2))])).bind fun r12 => some (.inl (r12, ((w64 (y9.2.2 + (1 : Int))), (w64 (y9.2.2 + (1 : Int))))))) (some (.inl (y9.1, (y9.2.1, (w64 (y9.2.2 + (1 : Int)))))))) (outR (cond (decide (y9.2.1 < ((ofL l).size : Int))) (((cutC (ofL l) y9.2.1 ((ofL l).size : Int))).bind fun r13 => ((appC y9.1 [(ByteArray.extract (ofL l) (Int.toNat y9.2.1) (Int.toNat ((ofL l).size : Int)))])).bind fun r14 => some r14) (some y9.1)))) (out, ((a : Int), (i : Int)))
   = some (out ++ (trimE (spc ((l.drop a).take (i - a)) (l.drop i))).map ofL)
 | 0, i, a, out, f + 1, hk, hf, ha, ho => by
  have hi : i = l.length := by omega
  subst hi
  have e1 : decide ((l.length : Int) < (l.length : Int)) = false := zd (by omega)
  simp only [iter, ofL_size, e1, zf, List.drop_length, spc_end]
  by_cases h : a < l.length
  ·have e2 : decide ((a : Int) < (l.length : Int)) = true := ze (by omega)
   have c1 : cutC (ofL l) (a : Int) (l.length : Int) = some () := cutC_of (by rw [ofL_size]; omega)
   have hne : (l.drop a).take (l.length - a) ≠ [] := by
    intro e
    have := congrArg List.length e
    rw [List.length_take, List.length_drop, zl] at this; omega
   have ht : trimE [(l.drop a).take (l.length - a)] = [(l.drop a).take (l.length - a)] := by
    unfold trimE
    rw [if_neg]
    intro e
    simp only [List.getLast?_singleton, zi] at e
    exact hne e
   simp only [e2, zt, c1, zb, Int.toNat_natCast, ext_extract, ofL_data2, ht, List.map_cons, List.map_nil]
   rw [appC_of (by rw [List.length_singleton]; omega)]; rfl
  ·have e2 : decide ((a : Int) < (l.length : Int)) = false := zd (by omega)
   have ea : a = l.length := by omega
   subst ea
   simp only [e2, zf, List.drop_length, List.take_nil]
   show some out = some (out ++ [])
   rw [List.append_nil]
 | k + 1, i, a, out, f + 1, hk, hf, ha, ho => by
  have hlt : i < l.length := by omega
  have hx : l[i]? = some l[i] := List.getElem?_eq_getElem hlt
  have e1 : decide ((i : Int) < (l.length : Int)) = true := ze (by omega)
  have hd : l.drop i = l[i] :: l.drop (i + 1) := List.drop_eq_getElem_cons hlt
  have b10 : (((l[i].toNat : Nat) : Int) = (10 : Int)) ↔ l[i] = 10 := nat_eq (n := 10) (by omega)
  have c1 : cutC (ofL l) (a : Int) (i : Int) = some () := cutC_of (by rw [ofL_size]; omega)
  simp only [iter, ofL_size, e1, zt, byteAt_ofL hx, zb, b10, succ_w (show i < 4000000000 by omega)]
  rw [hd]
  by_cases h : l[i] = 10
  ·simp only [h, decide_true, zt, c1, zb, Int.toNat_natCast, ext_extract, ofL_data2]
   rw [appC_of (by rw [List.length_singleton]; omega)]
   have ih := G136_loop l hl k (i + 1) (i + 1) (out ++ [ofL ((l.drop a).take (i - a))]) f (by omega) (by omega) (by omega) (by rw [List.length_append, List.length_singleton]; omega)
   simp only [ofL_size, ext_extract, ofL_data2] at ih
   simp only [zb]
   refine Eq.trans ih ?_
   rw [Nat.sub_self, List.take_zero, spc_nil, spc_10, trimE_cons _ (sp_ne _)]
   simp only [List.map_cons, List.append_assoc, List.singleton_append]
  ·simp only [h, decide_false, zf]
   have ih := G136_loop l hl k (i + 1) a out f (by omega) (by omega) (by omega) (by omega)
   simp only [ofL_size, ext_extract, ofL_data2] at ih
   simp only [ext_extract, ofL_data2]
   refine Eq.trans ih ?_
   rw [seg_succ ha hlt, spc_ne _ h]
 | 0, _, _, _, 0, _, hf, _, _ => by omega
 | _ + 1, _, _, _, 0, _, hf, _, _ => by omega
theorem G136_lines {s : ByteArray} (hs : s.size ≤ 8000) : G136 LF s = some (linesB s) := by
 have e := G136_loop s.data.toList (by rw [← size_len]; exact hs) s.data.toList.length 0 0 [] LF (by omega) (by show s.data.toList.length < 9223372036854775808; rw [← size_len]; omega) (by omega) (by simp)
 rw [ofL_back] at e
 unfold G136 linesB lns
 refine Eq.trans e ?_
 rw [Nat.sub_self, List.take_zero, List.drop_zero, spc_nil, List.nil_append]
theorem trimE_end (m : List (List UInt8)) (y : List UInt8) : trimE (m ++ [y]) = if y = [] then m else m ++ [y] := by
 unfold trimE
 rw [List.getLast?_concat, List.dropLast_concat]
 by_cases h : y = []
 ·subst h; rw [if_pos rfl, if_pos rfl]
 ·rw [if_neg h, if_neg (fun e => h (by injection e))]
theorem split_lines {s : ByteArray} (hs : s.size ≤ 8000) {ρ : Type} (K : List ByteArray → Option ρ) :
  ((splitC s (bts [10]))).bind (fun r109 => jn (((getI r109 (w64 ((r109.length : Int) - (1 : Int))))).bind fun r110 => cond (r110.data.toList == ([] : List UInt8)) (((subI r109 (0 : Int) (w64 ((r109.length : Int) - (1 : Int))))).bind fun r111 => some (.inl r111)) (some (.inl r109))) K) = K (linesB s) := by
 rw [splitC_sp (by omega), zb]
 unfold linesB lns
 have hlen := sp_len s.data.toList
 have hne := sp_ne s.data.toList
 rw [← size_len] at hlen
 obtain ⟨m, y, hy⟩ : ∃ m y, sp s.data.toList = m ++ [y] := ⟨(sp s.data.toList).dropLast, (sp s.data.toList).getLast hne, (List.dropLast_concat_getLast hne).symm⟩
 rw [hy] at hlen ⊢
 rw [List.length_append, List.length_singleton] at hlen
 have el : (List.map ofL (m ++ [y])).length = m.length + 1 := by simp
 have ew : w64 (((m.length + 1 : Nat) : Int) - 1) = (m.length : Int) := by rw [w64_in (by omega)]; omega
 have g : getI (List.map ofL (m ++ [y])) (m.length : Int) = some (ofL y) := getI_nat (by simp)
 have t : subI (List.map ofL (m ++ [y])) (0 : Int) (m.length : Int) = some (List.map ofL m) := by
  rw [subI_tk (by rw [el]; omega)]; simp
 rw [trimE_end]
 simp only [el, ew, g, zb, eqE, ofL_data2, t]
 by_cases h : y = []
 ·rw [if_pos h, ze h]; rfl
 ·rw [if_neg h, zd h]; rfl
end Go.K
