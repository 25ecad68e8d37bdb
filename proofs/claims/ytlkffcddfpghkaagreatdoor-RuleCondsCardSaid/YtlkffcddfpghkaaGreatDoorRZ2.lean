/-
  A part of the walk and of the plain law of one given statement. No condition.
-/
import Derived.Test.YtlkffcddfpghkaaGreatDoorUH
import Derived.Test.YtlkffcddfpghkaaGreatDoorProg
import Derived.Test.YtlkffcddfpghkaaGreatDoorG4
import Derived.Shelf.Strings.OnBuilder
import Derived.Lib.Join
import Derived.WalkKit
import Derived.Test.YtlkffcddfpghkaaGreatDoorSh
import Derived.Shelf.RegionOpenPlain
import Derived.Lib.Slices
import Derived.Lib.Walk
import Derived.Laws.Externs
set_option linter.unusedVariables false
set_option linter.unusedSimpArgs false
set_option maxRecDepth 100000
namespace Go.K
open Go.Sl Go.Sx Go.Proofs
abbrev T5 := ((List ByteArray) × (Int × (Int × (Cnd × Unit)))) × Int
abbrev R4 := Int × (Cnd × ((List ByteArray) × (Int × Int)))
abbrev mk4 (ws : List ByteArray) (s : PS) : R4 := (s.2.2, (s.2.1, (ws, ((s.1 : Int), (0 : Int)))))
def Er4 (ws : List ByteArray) (k : Nat) (y : R4) : Prop := ∃ a ts i, y = (a, (ts, (ws, (i, (k : Int)))))
theorem k_ne {k : Nat} (h : 0 < k) : decide ((k : Int) = 0) = false := decide_eq_false (by omega)
theorem stop_P {α ρ : Type} {P : Option ρ → Prop} {f : α → Option (α ⊕ ρ)} {y : α} {r : ρ} {lf : Nat} (h : f y = some (.inr r)) (hl : 0 < lf) (hp : P (some r)) : P (iter lf f y) := by
  obtain ⟨lf, rfl⟩ : ∃ q, lf = q + 1 := ⟨lf - 1, by omega⟩
  simp only [iter, h]; exact hp
theorem and_loopR {ρ : Type} {lf : Nat} (hlf : 100000 < lf) {ws : List ByteArray} (hl : ws.length ≤ 8001) {F n : Nat} {dp : Int} (hF : F = ws.length + 1) {one : Nat → Cnd → PE}
    (hN : ∀ i ts, i ≤ ws.length → GoodP ws i ts (one i ts))
    (hG : ∀ i ts, i ≤ ws.length → List.length ts ≤ 2 * i → RRel ws (one i ts) (G245 lf n ((ws, ((i : Int), ((0 : Int), (ts, ())))), dp)))
    (E : Int → R4 ⊕ ρ) (s : PS) (h1 : s.1 ≤ ws.length) (h2 : List.length s.2.1 ≤ 2 * s.1) :
    match loopS wAnd 5 ws one F s with
      | .inl t => iter lf (fun y112 : (Int × ((List (Int × (Int × (Int × (ByteArray × Int))))) × ((List ByteArray) × (Int × Int)))) => cond (decide (y112.2.2.2.2 = (0 : Int))) (cond (decide (y112.2.2.2.1 < (y112.2.2.1.length : Int))) (((getI y112.2.2.1 y112.2.2.2.1)).bind fun r113 => cond (r113.data.toList == [(UInt8.ofNat 97), (UInt8.ofNat 110), (UInt8.ofNat 100)]) (((G245 lf n ((y112.2.2.1, ((w64 (y112.2.2.2.1 + (1 : Int))), (y112.2.2.2.2, (y112.2.1, ())))), dp))).bind fun r114 => sm r114 (fun r115 : (((List ByteArray) × (Int × (Int × ((List (Int × (Int × (Int × (ByteArray × Int))))) × PUnit)))) × Int) => cond (decide (r115.1.2.2.1 = (0 : Int))) (((appC r115.1.2.2.2.1 [((5 : Int), (y112.1, (r115.2, ((bts []), (0 : Int)))))])).bind fun r116 => some (.inl ((w64 ((r116.length : Int) - (1 : Int))), (r116, (r115.1.1, (r115.1.2.1, r115.1.2.2.1)))))) (some (.inl (y112.1, (r115.1.2.2.2.1, (r115.1.1, (r115.1.2.1, r115.1.2.2.1))))))) (fun r117 : Int => some (.inr (E r117)))) (some (.inr (.inl (y112.1, (y112.2.1, (y112.2.2.1, (y112.2.2.2.1, y112.2.2.2.2)))))))) (some (.inr (.inl (y112.1, (y112.2.1, (y112.2.2.1, (y112.2.2.2.1, y112.2.2.2.2)))))))) (some (.inr (.inl (y112.1, (y112.2.1, (y112.2.2.1, (y112.2.2.2.1, y112.2.2.2.2)))))))) (mk4 ws s) = some (.inl (mk4 ws t))
      | .inr k => ∃ r, iter lf (fun y112 : (Int × ((List (Int × (Int × (Int × (ByteArray × Int))))) × ((List ByteArray) × (Int × Int)))) => cond (decide (y112.2.2.2.2 = (0 : Int))) (cond (decide (y112.2.2.2.1 < (y112.2.2.1.length : Int))) (((getI y112.2.2.1 y112.2.2.2.1)).bind fun r113 => cond (r113.data.toList == [(UInt8.ofNat 97), (UInt8.ofNat 110), (UInt8.ofNat 100)]) (((G245 lf n ((y112.2.2.1, ((w64 (y112.2.2.2.1 + (1 : Int))), (y112.2.2.2.2, (y112.2.1, ())))), dp))).bind fun r114 => sm r114 (fun r115 : (((List ByteArray) × (Int × (Int × ((List (Int × (Int × (Int × (ByteArray × Int))))) × PUnit)))) × Int) => cond (decide (r115.1.2.2.1 = (0 : Int))) (((appC r115.1.2.2.2.1 [((5 : Int), (y112.1, (r115.2, ((bts []), (0 : Int)))))])).bind fun r116 => some (.inl ((w64 ((r116.length : Int) - (1 : Int))), (r116, (r115.1.1, (r115.1.2.1, r115.1.2.2.1)))))) (some (.inl (y112.1, (r115.1.2.2.2.1, (r115.1.1, (r115.1.2.1, r115.1.2.2.1))))))) (fun r117 : Int => some (.inr (E r117)))) (some (.inr (.inl (y112.1, (y112.2.1, (y112.2.2.1, (y112.2.2.2.1, y112.2.2.2.2)))))))) (some (.inr (.inl (y112.1, (y112.2.1, (y112.2.2.1, (y112.2.2.2.1, y112.2.2.2.2)))))))) (some (.inr (.inl (y112.1, (y112.2.1, (y112.2.2.1, (y112.2.2.2.1, y112.2.2.2.2)))))))) (mk4 ws s) = some r ∧ ∃ y, r = .inl y ∧ Er4 ws k y := by
  refine iter_loopR (α := R4) (ρ := R4 ⊕ ρ) (wrd := wAnd) (kind := 5) (next := one) bts_ne hN (mk4 ws) (fun t => .inl (mk4 ws t)) (fun k r => ∃ y, r = .inl y ∧ Er4 ws k y) ?_ ?_ ?_ F lf s h1 h2 (by omega) (by omega)
  · intro s s1 s2 he
    simp only [mk4, decide_true, cond_true, qAnd]
    rw [rdL2 s1 (fun w => decide (w = wAnd)) (by decide)]
    simp only [decide_eq_false he, cond_false]
  · intro s s1 s2 he t ht
    have hlt := wAt_of he
    have hr := hG (s.1 + 1) s.2.1 (by omega) (by omega)
    have hg := hN (s.1 + 1) s.2.1 (by omega)
    rw [ht] at hr hg
    obtain ⟨q1, q2, q3⟩ := hg
    have hr' : G245 lf n ((ws, (((s.1 + 1 : Nat) : Int), ((0 : Int), (s.2.1, ())))), dp) = some (.inl ((ws, ((t.1 : Int), ((0 : Int), (t.2.1, ())))), t.2.2)) := hr
    have hb : List.length t.2.1 ≤ 100000 := by omega
    simp only [mk4, decide_true, cond_true, qAnd]
    rw [rdL2 s1 (fun w => decide (w = wAnd)) (by decide)]
    simp only [he, decide_true, cond_true, succ_W (show s.1 + 1 < 9223372036854775808 by omega), hr', Option.bind_some, sm, appT hb, lenT hb]
    rfl
  · intro s s1 s2 he k hk
    have hlt := wAt_of he
    have hr := hG (s.1 + 1) s.2.1 (by omega) (by omega)
    have hg := hN (s.1 + 1) s.2.1 (by omega)
    rw [hk] at hr hg
    have h0 : 0 < k := by have := hg.1; omega
    obtain ⟨i1, ts1, a1, hr⟩ := hr
    refine ⟨(s.2.2, (ts1, (ws, (i1, (k : Int))))), .inl (s.2.2, (ts1, (ws, (i1, (k : Int))))), ?_, ?_, _, rfl, _, _, _, rfl⟩
    · simp only [mk4, decide_true, cond_true, qAnd]
      rw [rdL2 s1 (fun w => decide (w = wAnd)) (by decide)]
      simp only [he, decide_true, cond_true, succ_W (show s.1 + 1 < 9223372036854775808 by omega), hr, Option.bind_some, sm, k_ne h0, cond_false]
    · simp only [k_ne h0, cond_false]
theorem or_loopR {ρ : Type} {lf : Nat} (hlf : 100000 < lf) {ws : List ByteArray} (hl : ws.length ≤ 8001) {F n : Nat} {dp : Int} (hF : F = ws.length + 1) {one : Nat → Cnd → PE}
    (hN : ∀ i ts, i ≤ ws.length → GoodP ws i ts (one i ts))
    (hG : ∀ i ts, i ≤ ws.length → List.length ts ≤ 2 * i → RRel ws (one i ts) (G245 lf n ((ws, ((i : Int), ((0 : Int), (ts, ())))), dp)))
    (E : Int → ρ) (s : PS) (h1 : s.1 ≤ ws.length) (h2 : List.length s.2.1 ≤ 2 * s.1) :
    match loopS wOr 6 ws (allS ws one F) F s with
      | .inl t => iter (ρ := R4 ⊕ ρ) lf (fun y120 : (Int × ((List (Int × (Int × (Int × (ByteArray × Int))))) × ((List ByteArray) × (Int × Int)))) => cond (decide (y120.2.2.2.2 = (0 : Int))) (cond (decide (y120.2.2.2.1 < (y120.2.2.1.length : Int))) (((getI y120.2.2.1 y120.2.2.2.1)).bind fun r121 => cond (r121.data.toList == [(UInt8.ofNat 111), (UInt8.ofNat 114)]) (jn (((G245 lf n ((y120.2.2.1, ((w64 (y120.2.2.2.1 + (1 : Int))), (y120.2.2.2.2, (y120.2.1, ())))), dp))).bind fun r122 => sm r122 (fun r123 : (((List ByteArray) × (Int × (Int × ((List (Int × (Int × (Int × (ByteArray × Int))))) × PUnit)))) × Int) => iter lf (fun y124 : (Int × ((List (Int × (Int × (Int × (ByteArray × Int))))) × ((List ByteArray) × (Int × Int)))) => cond (decide (y124.2.2.2.2 = (0 : Int))) (cond (decide (y124.2.2.2.1 < (y124.2.2.1.length : Int))) (((getI y124.2.2.1 y124.2.2.2.1)).bind fun r125 => cond (r125.data.toList == [(UInt8.ofNat 97), (UInt8.ofNat 110), (UInt8.ofNat 100)]) (((G245 lf n ((y124.2.2.1, ((w64 (y124.2.2.2.1 + (1 : Int))), (y124.2.2.2.2, (y124.2.1, ())))), dp))).bind fun r126 => sm r126 (fun r127 : (((List ByteArray) × (Int × (Int × ((List (Int × (Int × (Int × (ByteArray × Int))))) × PUnit)))) × Int) => cond (decide (r127.1.2.2.1 = (0 : Int))) (((appC r127.1.2.2.2.1 [((5 : Int), (y124.1, (r127.2, ((bts []), (0 : Int)))))])).bind fun r128 => some (.inl ((w64 ((r128.length : Int) - (1 : Int))), (r128, (r127.1.1, (r127.1.2.1, r127.1.2.2.1)))))) (some (.inl (y124.1, (r127.1.2.2.2.1, (r127.1.1, (r127.1.2.1, r127.1.2.2.1))))))) (fun r129 : Int => some (.inr (.inr (.inr (.inr (E r129))))))) (some (.inr (.inl (y124.1, (y124.2.1, (y124.2.2.1, (y124.2.2.2.1, y124.2.2.2.2)))))))) (some (.inr (.inl (y124.1, (y124.2.1, (y124.2.2.1, (y124.2.2.2.1, y124.2.2.2.2)))))))) (some (.inr (.inl (y124.1, (y124.2.1, (y124.2.2.1, (y124.2.2.2.1, y124.2.2.2.2)))))))) (r123.2, (r123.1.2.2.2.1, (r123.1.1, (r123.1.2.1, r123.1.2.2.1))))) (fun r130 : Int => some (.inr (.inr (.inr (E r130)))))) (fun y131 : (Int × ((List (Int × (Int × (Int × (ByteArray × Int))))) × ((List ByteArray) × (Int × Int)))) => cond (decide (y131.2.2.2.2 = (0 : Int))) (((appC y131.2.1 [((6 : Int), (y120.1, (y131.1, ((bts []), (0 : Int)))))])).bind fun r132 => some (.inl ((w64 ((r132.length : Int) - (1 : Int))), (r132, (y131.2.2.1, (y131.2.2.2.1, y131.2.2.2.2)))))) (some (.inl (y120.1, (y131.2.1, (y131.2.2.1, (y131.2.2.2.1, y131.2.2.2.2)))))))) (some (.inr (.inl (y120.1, (y120.2.1, (y120.2.2.1, (y120.2.2.2.1, y120.2.2.2.2)))))))) (some (.inr (.inl (y120.1, (y120.2.1, (y120.2.2.1, (y120.2.2.2.1, y120.2.2.2.2)))))))) (some (.inr (.inl (y120.1, (y120.2.1, (y120.2.2.1, (y120.2.2.2.1, y120.2.2.2.2)))))))) (mk4 ws s) = some (.inl (mk4 ws t))
      | .inr k => ∃ r, iter (ρ := R4 ⊕ ρ) lf (fun y120 : (Int × ((List (Int × (Int × (Int × (ByteArray × Int))))) × ((List ByteArray) × (Int × Int)))) => cond (decide (y120.2.2.2.2 = (0 : Int))) (cond (decide (y120.2.2.2.1 < (y120.2.2.1.length : Int))) (((getI y120.2.2.1 y120.2.2.2.1)).bind fun r121 => cond (r121.data.toList == [(UInt8.ofNat 111), (UInt8.ofNat 114)]) (jn (((G245 lf n ((y120.2.2.1, ((w64 (y120.2.2.2.1 + (1 : Int))), (y120.2.2.2.2, (y120.2.1, ())))), dp))).bind fun r122 => sm r122 (fun r123 : (((List ByteArray) × (Int × (Int × ((List (Int × (Int × (Int × (ByteArray × Int))))) × PUnit)))) × Int) => iter lf (fun y124 : (Int × ((List (Int × (Int × (Int × (ByteArray × Int))))) × ((List ByteArray) × (Int × Int)))) => cond (decide (y124.2.2.2.2 = (0 : Int))) (cond (decide (y124.2.2.2.1 < (y124.2.2.1.length : Int))) (((getI y124.2.2.1 y124.2.2.2.1)).bind fun r125 => cond (r125.data.toList == [(UInt8.ofNat 97), (UInt8.ofNat 110), (UInt8.ofNat 100)]) (((G245 lf n ((y124.2.2.1, ((w64 (y124.2.2.2.1 + (1 : Int))), (y124.2.2.2.2, (y124.2.1, ())))), dp))).bind fun r126 => sm r126 (fun r127 : (((List ByteArray) × (Int × (Int × ((List (Int × (Int × (Int × (ByteArray × Int))))) × PUnit)))) × Int) => cond (decide (r127.1.2.2.1 = (0 : Int))) (((appC r127.1.2.2.2.1 [((5 : Int), (y124.1, (r127.2, ((bts []), (0 : Int)))))])).bind fun r128 => some (.inl ((w64 ((r128.length : Int) - (1 : Int))), (r128, (r127.1.1, (r127.1.2.1, r127.1.2.2.1)))))) (some (.inl (y124.1, (r127.1.2.2.2.1, (r127.1.1, (r127.1.2.1, r127.1.2.2.1))))))) (fun r129 : Int => some (.inr (.inr (.inr (.inr (E r129))))))) (some (.inr (.inl (y124.1, (y124.2.1, (y124.2.2.1, (y124.2.2.2.1, y124.2.2.2.2)))))))) (some (.inr (.inl (y124.1, (y124.2.1, (y124.2.2.1, (y124.2.2.2.1, y124.2.2.2.2)))))))) (some (.inr (.inl (y124.1, (y124.2.1, (y124.2.2.1, (y124.2.2.2.1, y124.2.2.2.2)))))))) (r123.2, (r123.1.2.2.2.1, (r123.1.1, (r123.1.2.1, r123.1.2.2.1))))) (fun r130 : Int => some (.inr (.inr (.inr (E r130)))))) (fun y131 : (Int × ((List (Int × (Int × (Int × (ByteArray × Int))))) × ((List ByteArray) × (Int × Int)))) => cond (decide (y131.2.2.2.2 = (0 : Int))) (((appC y131.2.1 [((6 : Int), (y120.1, (y131.1, ((bts []), (0 : Int)))))])).bind fun r132 => some (.inl ((w64 ((r132.length : Int) - (1 : Int))), (r132, (y131.2.2.1, (y131.2.2.2.1, y131.2.2.2.2)))))) (some (.inl (y120.1, (y131.2.1, (y131.2.2.1, (y131.2.2.2.1, y131.2.2.2.2)))))))) (some (.inr (.inl (y120.1, (y120.2.1, (y120.2.2.1, (y120.2.2.2.1, y120.2.2.2.2)))))))) (some (.inr (.inl (y120.1, (y120.2.1, (y120.2.2.1, (y120.2.2.2.1, y120.2.2.2.2)))))))) (some (.inr (.inl (y120.1, (y120.2.1, (y120.2.2.1, (y120.2.2.2.1, y120.2.2.2.2)))))))) (mk4 ws s) = some r ∧ ∃ y, r = .inl y ∧ Er4 ws k y := by
  have hA : ∀ i ts, i ≤ ws.length → GoodP ws i ts (allS ws one F i ts) := fun i ts h => allS_good (by omega) hN i ts h
  have eA : ∀ i ts, allS ws one F i ts = match one i ts with
    | .inr k => .inr k
    | .inl s => loopS wAnd 5 ws one F s := fun _ _ => rfl
  refine iter_loopR (α := R4) (ρ := R4 ⊕ ρ) (wrd := wOr) (kind := 6) (next := allS ws one F) bts_ne hA (mk4 ws) (fun t => .inl (mk4 ws t)) (fun k r => ∃ y, r = .inl y ∧ Er4 ws k y) ?_ ?_ ?_ F lf s h1 h2 (by omega) (by omega)
  · intro s s1 s2 he
    simp only [mk4, decide_true, cond_true, qOr]
    rw [rdL2 s1 (fun w => decide (w = wOr)) (by decide)]
    simp only [decide_eq_false he, cond_false]
  · intro s s1 s2 he t ht
    have hlt := wAt_of he
    have hr := hG (s.1 + 1) s.2.1 (by omega) (by omega)
    have hg := hN (s.1 + 1) s.2.1 (by omega)
    rw [eA] at ht
    cases hy : one (s.1 + 1) s.2.1 with
    | inr k => rw [hy] at ht; cases ht
    | inl u =>
      rw [hy] at ht hr hg
      simp only at ht
      obtain ⟨q1, q2, q3⟩ := hg
      have hr' : G245 lf n ((ws, (((s.1 + 1 : Nat) : Int), ((0 : Int), (s.2.1, ())))), dp) = some (.inl ((ws, ((u.1 : Int), ((0 : Int), (u.2.1, ())))), u.2.2)) := hr
      have hgl := loopS_good (wrd := wAnd) (kind := 5) bts_ne hN F u q2 (by omega)
      have hB := and_loopR (ρ := (R4 ⊕ (R4 ⊕ ρ))) hlf hl hF hN hG (fun e => .inr (.inr (.inr (E e)))) u q2 (by omega)
      rw [ht] at hB hgl
      obtain ⟨b1, b2, b3⟩ := hgl
      simp only at hB
      have hb : List.length t.2.1 ≤ 100000 := by omega
      simp only [mk4, decide_true, cond_true, qOr]
      rw [rdL2 s1 (fun w => decide (w = wOr)) (by decide)]
      simp only [he, decide_true, cond_true, succ_W (show s.1 + 1 < 9223372036854775808 by omega), hr', Option.bind_some, sm]
      refine (congrArg (fun z => jn z _) hB).trans ?_
      simp only [jl, mk4, decide_true, cond_true, appT hb, Option.bind_some, lenT hb]
      rfl
  · intro s s1 s2 he k hk
    have hlt := wAt_of he
    have hr := hG (s.1 + 1) s.2.1 (by omega) (by omega)
    have hg := hN (s.1 + 1) s.2.1 (by omega)
    have hgk := hA (s.1 + 1) s.2.1 (by omega)
    rw [hk] at hgk
    have h0 : 0 < k := by have := hgk.1; omega
    rw [eA] at hk
    cases hy : one (s.1 + 1) s.2.1 with
    | inr k2 =>
      rw [hy] at hk hr
      simp only [Sum.inr.injEq] at hk
      subst hk
      obtain ⟨i1, ts1, a1, hr⟩ := hr
      refine ⟨(s.2.2, (ts1, (ws, (i1, (k2 : Int))))), .inl (s.2.2, (ts1, (ws, (i1, (k2 : Int))))), ?_, ?_, _, rfl, _, _, _, rfl⟩
      · simp only [mk4, decide_true, cond_true, qOr]
        rw [rdL2 s1 (fun w => decide (w = wOr)) (by decide)]
        simp only [he, decide_true, cond_true, succ_W (show s.1 + 1 < 9223372036854775808 by omega), hr, Option.bind_some, sm]
        refine stop_P (P := fun z => jn z _ = _) (r := .inl (a1, (ts1, (ws, (i1, (k2 : Int)))))) ?_ (by omega) ?_
        · simp only [k_ne h0, cond_false]
        · simp only [jl, k_ne h0, cond_false]
      · simp only [k_ne h0, cond_false]
    | inl u =>
      rw [hy] at hk hr hg
      simp only at hk
      obtain ⟨q1, q2, q3⟩ := hg
      have hr' : G245 lf n ((ws, (((s.1 + 1 : Nat) : Int), ((0 : Int), (s.2.1, ())))), dp) = some (.inl ((ws, ((u.1 : Int), ((0 : Int), (u.2.1, ())))), u.2.2)) := hr
      have hB := and_loopR (ρ := (R4 ⊕ (R4 ⊕ ρ))) hlf hl hF hN hG (fun e => .inr (.inr (.inr (E e)))) u q2 (by omega)
      rw [hk] at hB
      obtain ⟨r, e1, y, e2, a1, ts1, i1, e3⟩ := hB
      subst e2 e3
      refine ⟨(s.2.2, (ts1, (ws, (i1, (k : Int))))), .inl (s.2.2, (ts1, (ws, (i1, (k : Int))))), ?_, ?_, _, rfl, _, _, _, rfl⟩
      · simp only [mk4, decide_true, cond_true, qOr]
        rw [rdL2 s1 (fun w => decide (w = wOr)) (by decide)]
        simp only [he, decide_true, cond_true, succ_W (show s.1 + 1 < 9223372036854775808 by omega), hr', Option.bind_some, sm]
        refine (congrArg (fun z => jn z _) e1).trans ?_
        simp only [jl, k_ne h0, cond_false]
      · simp only [k_ne h0, cond_false]
theorem P245_ok {lf : Nat} (hlf : 100000 < lf) {ws : List ByteArray} (hl : ws.length ≤ 8001) {F n deep i : Nat} {ts : Cnd} (hF : F = ws.length + 1) (hd : deep < 8) (hi : i < ws.length) (hts : List.length ts ≤ 2 * i) {one : Nat → Cnd → PE}
    (hN : ∀ i ts, i ≤ ws.length → GoodP ws i ts (one i ts))
    (hG : ∀ i ts, i ≤ ws.length → List.length ts ≤ 2 * i → RRel ws (one i ts) (G245 lf n ((ws, ((i : Int), ((0 : Int), (ts, ())))), ((deep + 1 : Nat) : Int)))) :
    RRel ws (match cndS ws one F (i + 1) ts with
        | .inr k => .inr k
        | .inl t => if wAt ws t.1 = wClose then .inl (t.1 + 1, t.2) else .inr (t.1 + 1)) (P245 lf n ((ws, ((i : Int), ((0 : Int), (ts, ())))), (deep : Int))) := by
  unfold P245
  have hA : ∀ i ts, i ≤ ws.length → GoodP ws i ts (allS ws one F i ts) := fun i ts h => allS_good (by omega) hN i ts h
  simp only [succ_W (show i + 1 < 9223372036854775808 by omega), succ_W (show deep + 1 < 9223372036854775808 by omega)]
  have hg := hN (i + 1) ts (by omega)
  have hr := hG (i + 1) ts (by omega) (by omega)
  unfold cndS
  have eA : allS ws one F (i + 1) ts = match one (i + 1) ts with
    | .inr k => .inr k
    | .inl s => loopS wAnd 5 ws one F s := rfl
  rw [eA]
  cases hx : one (i + 1) ts with
  | inr k =>
    rw [hx] at hr hg
    have h0 : 0 < k := by have := hg.1; omega
    obtain ⟨i1, ts1, a1, hr⟩ := hr
    simp only [hr, Option.bind_some, sm]
    refine stop_P (P := fun z => RRel ws _ (jn (jn z _) _)) (r := .inl (a1, (ts1, (ws, (i1, (k : Int)))))) ?_ (by omega) ?_
    · simp only [k_ne h0, cond_false]
    simp only [jl]
    refine stop_P (P := fun z => RRel ws _ (jn z _)) (r := .inl (a1, (ts1, (ws, (i1, (k : Int)))))) ?_ (by omega) ?_
    · simp only [k_ne h0, cond_false]
    simp only [jl, k_ne h0, cond_false]
    exact ⟨_, _, _, rfl⟩
  | inl t =>
    rw [hx] at hr hg
    obtain ⟨g1, g2, g3⟩ := hg
    have hr' : G245 lf n ((ws, (((i + 1 : Nat) : Int), ((0 : Int), (ts, ())))), ((deep + 1 : Nat) : Int)) = some (.inl ((ws, ((t.1 : Int), ((0 : Int), (t.2.1, ())))), t.2.2)) := hr
    simp only [hr', Option.bind_some, sm]
    have hgl := loopS_good (wrd := wAnd) (kind := 5) bts_ne hN F t g2 (by omega)
    have hB := and_loopR (ρ := R4 ⊕ (T5 ⊕ Int)) hlf hl hF hN hG (fun e => .inr (.inr (.inr e))) t g2 (by omega)
    cases hz : loopS wAnd 5 ws one F t with
    | inr k =>
      rw [hz] at hB hgl
      have h0 : 0 < k := by have := hgl.1; omega
      obtain ⟨r, e1, y, e2, a1, ts1, i1, e3⟩ := hB
      subst e2 e3
      refine (congrArg (fun z => RRel ws _ (jn (jn z _) _)) e1).mpr ?_
      simp only [jl]
      refine stop_P (P := fun z => RRel ws _ (jn z _)) (r := .inl (a1, (ts1, (ws, (i1, (k : Int)))))) ?_ (by omega) ?_
      · simp only [k_ne h0, cond_false]
      simp only [jl, k_ne h0, cond_false]
      exact ⟨_, _, _, rfl⟩
    | inl s0 =>
      rw [hz] at hB hgl
      obtain ⟨a1, a2, a3⟩ := hgl
      refine (congrArg (fun z => RRel ws _ (jn (jn z _) _)) hB).mpr ?_
      simp only [jl]
      have hC := or_loopR (ρ := T5 ⊕ Int) hlf hl hF hN hG (fun e => .inr e) s0 a2 (by omega)
      have hgl2 := loopS_good (wrd := wOr) (kind := 6) bts_ne hA F s0 a2 (by omega)
      cases hz2 : loopS wOr 6 ws (allS ws one F) F s0 with
      | inr k =>
        rw [hz2] at hC hgl2
        have h0 : 0 < k := by have := hgl2.1; omega
        obtain ⟨r, e1, y, e2, a1, ts1, i1, e3⟩ := hC
        subst e2 e3
        refine (congrArg (fun z => RRel ws _ (jn z _)) e1).mpr ?_
        simp only [jl, k_ne h0, cond_false]
        exact ⟨_, _, _, rfl⟩
      | inl s4 =>
        rw [hz2] at hC hgl2
        obtain ⟨c1, c2, c3⟩ := hgl2
        refine (congrArg (fun z => RRel ws _ (jn z _)) hC).mpr ?_
        simp only [jl, mk4, decide_true, cond_true]
        have e1 : (cond (decide ((s4.1 : Int) < (ws.length : Int))) (((getI ws (s4.1 : Int))).bind fun r134 => some (.inl (!(r134.data.toList == [(UInt8.ofNat 41)])))) (some (.inl true)) : Option (Bool ⊕ (T5 ⊕ Int))) = some (.inl (!decide (wAt ws s4.1 = wClose))) := by
          by_cases e : s4.1 = ws.length
          · rw [decide_eq_false (by omega), e, wAt_end]
            have : ¬ bts [] = wClose := by decide
            rw [decide_eq_false this]; rfl
          · rw [decide_eq_true (by omega), getI_w (by omega)]
            simp only [cond_true, Option.bind_some, qClose]
        refine (congrArg (fun z => RRel ws _ (jn z _)) e1).mpr ?_
        simp only [jl]
        by_cases hc : wAt ws s4.1 = wClose
        · simp only [hc, decide_true, Bool.not_true, cond_false, if_true, succ_W (show s4.1 + 1 < 9223372036854775808 by omega)]
          rfl
        · simp only [decide_eq_false hc, Bool.not_false, cond_true, if_neg hc, succ_W (show s4.1 + 1 < 9223372036854775808 by omega)]
          exact ⟨_, _, _, rfl⟩
end Go.K
set_option linter.unusedVariables false
set_option linter.unusedSimpArgs false
set_option maxRecDepth 100000
namespace Go.K
open Go.Sl Go.Sx Go.Proofs
abbrev mk5 (ws : List ByteArray) (s : PS) : T5 := ((ws, ((s.1 : Int), ((0 : Int), (s.2.1, ())))), s.2.2)
def Er5 (ws : List ByteArray) (k : Nat) (y : T5) : Prop := ∃ i ts a, y = ((ws, (i, ((k : Int), (ts, ())))), a)
theorem or_loopT {ρ : Type} {lf : Nat} (hlf : 100000 < lf) {ws : List ByteArray} (hl : ws.length ≤ 8001) {F n : Nat} {dp : Int} (hF : F = ws.length + 1) {one : Nat → Cnd → PE}
    (hN : ∀ i ts, i ≤ ws.length → GoodP ws i ts (one i ts))
    (hG : ∀ i ts, i ≤ ws.length → List.length ts ≤ 2 * i → RRel ws (one i ts) (G245 lf n ((ws, ((i : Int), ((0 : Int), (ts, ())))), dp)))
    (E : Int → ρ) (s : PS) (h1 : s.1 ≤ ws.length) (h2 : List.length s.2.1 ≤ 2 * s.1) :
    match loopS wOr 6 ws (allS ws one F) F s with
      | .inl t => iter (ρ := T5 ⊕ ρ) lf (fun y120 : (Int × ((List (Int × (Int × (Int × (ByteArray × Int))))) × ((List ByteArray) × (Int × Int)))) => cond (decide (y120.2.2.2.2 = (0 : Int))) (cond (decide (y120.2.2.2.1 < (y120.2.2.1.length : Int))) (((getI y120.2.2.1 y120.2.2.2.1)).bind fun r121 => cond (r121.data.toList == [(UInt8.ofNat 111), (UInt8.ofNat 114)]) (jn (((G245 lf n ((y120.2.2.1, ((w64 (y120.2.2.2.1 + (1 : Int))), (y120.2.2.2.2, (y120.2.1, ())))), dp))).bind fun r122 => sm r122 (fun r123 : (((List ByteArray) × (Int × (Int × ((List (Int × (Int × (Int × (ByteArray × Int))))) × PUnit)))) × Int) => iter lf (fun y124 : (Int × ((List (Int × (Int × (Int × (ByteArray × Int))))) × ((List ByteArray) × (Int × Int)))) => cond (decide (y124.2.2.2.2 = (0 : Int))) (cond (decide (y124.2.2.2.1 < (y124.2.2.1.length : Int))) (((getI y124.2.2.1 y124.2.2.2.1)).bind fun r125 => cond (r125.data.toList == [(UInt8.ofNat 97), (UInt8.ofNat 110), (UInt8.ofNat 100)]) (((G245 lf n ((y124.2.2.1, ((w64 (y124.2.2.2.1 + (1 : Int))), (y124.2.2.2.2, (y124.2.1, ())))), dp))).bind fun r126 => sm r126 (fun r127 : (((List ByteArray) × (Int × (Int × ((List (Int × (Int × (Int × (ByteArray × Int))))) × PUnit)))) × Int) => cond (decide (r127.1.2.2.1 = (0 : Int))) (((appC r127.1.2.2.2.1 [((5 : Int), (y124.1, (r127.2, ((bts []), (0 : Int)))))])).bind fun r128 => some (.inl ((w64 ((r128.length : Int) - (1 : Int))), (r128, (r127.1.1, (r127.1.2.1, r127.1.2.2.1)))))) (some (.inl (y124.1, (r127.1.2.2.2.1, (r127.1.1, (r127.1.2.1, r127.1.2.2.1))))))) (fun r129 : Int => some (.inr (.inr (.inr (.inr (E r129))))))) (some (.inr (.inl (y124.1, (y124.2.1, (y124.2.2.1, (y124.2.2.2.1, y124.2.2.2.2)))))))) (some (.inr (.inl (y124.1, (y124.2.1, (y124.2.2.1, (y124.2.2.2.1, y124.2.2.2.2)))))))) (some (.inr (.inl (y124.1, (y124.2.1, (y124.2.2.1, (y124.2.2.2.1, y124.2.2.2.2)))))))) (r123.2, (r123.1.2.2.2.1, (r123.1.1, (r123.1.2.1, r123.1.2.2.1))))) (fun r130 : Int => some (.inr (.inr (.inr (E r130)))))) (fun y131 : (Int × ((List (Int × (Int × (Int × (ByteArray × Int))))) × ((List ByteArray) × (Int × Int)))) => cond (decide (y131.2.2.2.2 = (0 : Int))) (((appC y131.2.1 [((6 : Int), (y120.1, (y131.1, ((bts []), (0 : Int)))))])).bind fun r132 => some (.inl ((w64 ((r132.length : Int) - (1 : Int))), (r132, (y131.2.2.1, (y131.2.2.2.1, y131.2.2.2.2)))))) (some (.inl (y120.1, (y131.2.1, (y131.2.2.1, (y131.2.2.2.1, y131.2.2.2.2)))))))) (some (.inr (.inl ((y120.2.2.1, (y120.2.2.2.1, (y120.2.2.2.2, (y120.2.1, ())))), y120.1))))) (some (.inr (.inl ((y120.2.2.1, (y120.2.2.2.1, (y120.2.2.2.2, (y120.2.1, ())))), y120.1))))) (some (.inr (.inl ((y120.2.2.1, (y120.2.2.2.1, (y120.2.2.2.2, (y120.2.1, ())))), y120.1))))) (mk4 ws s) = some (.inl (mk5 ws t))
      | .inr k => ∃ r, iter (ρ := T5 ⊕ ρ) lf (fun y120 : (Int × ((List (Int × (Int × (Int × (ByteArray × Int))))) × ((List ByteArray) × (Int × Int)))) => cond (decide (y120.2.2.2.2 = (0 : Int))) (cond (decide (y120.2.2.2.1 < (y120.2.2.1.length : Int))) (((getI y120.2.2.1 y120.2.2.2.1)).bind fun r121 => cond (r121.data.toList == [(UInt8.ofNat 111), (UInt8.ofNat 114)]) (jn (((G245 lf n ((y120.2.2.1, ((w64 (y120.2.2.2.1 + (1 : Int))), (y120.2.2.2.2, (y120.2.1, ())))), dp))).bind fun r122 => sm r122 (fun r123 : (((List ByteArray) × (Int × (Int × ((List (Int × (Int × (Int × (ByteArray × Int))))) × PUnit)))) × Int) => iter lf (fun y124 : (Int × ((List (Int × (Int × (Int × (ByteArray × Int))))) × ((List ByteArray) × (Int × Int)))) => cond (decide (y124.2.2.2.2 = (0 : Int))) (cond (decide (y124.2.2.2.1 < (y124.2.2.1.length : Int))) (((getI y124.2.2.1 y124.2.2.2.1)).bind fun r125 => cond (r125.data.toList == [(UInt8.ofNat 97), (UInt8.ofNat 110), (UInt8.ofNat 100)]) (((G245 lf n ((y124.2.2.1, ((w64 (y124.2.2.2.1 + (1 : Int))), (y124.2.2.2.2, (y124.2.1, ())))), dp))).bind fun r126 => sm r126 (fun r127 : (((List ByteArray) × (Int × (Int × ((List (Int × (Int × (Int × (ByteArray × Int))))) × PUnit)))) × Int) => cond (decide (r127.1.2.2.1 = (0 : Int))) (((appC r127.1.2.2.2.1 [((5 : Int), (y124.1, (r127.2, ((bts []), (0 : Int)))))])).bind fun r128 => some (.inl ((w64 ((r128.length : Int) - (1 : Int))), (r128, (r127.1.1, (r127.1.2.1, r127.1.2.2.1)))))) (some (.inl (y124.1, (r127.1.2.2.2.1, (r127.1.1, (r127.1.2.1, r127.1.2.2.1))))))) (fun r129 : Int => some (.inr (.inr (.inr (.inr (E r129))))))) (some (.inr (.inl (y124.1, (y124.2.1, (y124.2.2.1, (y124.2.2.2.1, y124.2.2.2.2)))))))) (some (.inr (.inl (y124.1, (y124.2.1, (y124.2.2.1, (y124.2.2.2.1, y124.2.2.2.2)))))))) (some (.inr (.inl (y124.1, (y124.2.1, (y124.2.2.1, (y124.2.2.2.1, y124.2.2.2.2)))))))) (r123.2, (r123.1.2.2.2.1, (r123.1.1, (r123.1.2.1, r123.1.2.2.1))))) (fun r130 : Int => some (.inr (.inr (.inr (E r130)))))) (fun y131 : (Int × ((List (Int × (Int × (Int × (ByteArray × Int))))) × ((List ByteArray) × (Int × Int)))) => cond (decide (y131.2.2.2.2 = (0 : Int))) (((appC y131.2.1 [((6 : Int), (y120.1, (y131.1, ((bts []), (0 : Int)))))])).bind fun r132 => some (.inl ((w64 ((r132.length : Int) - (1 : Int))), (r132, (y131.2.2.1, (y131.2.2.2.1, y131.2.2.2.2)))))) (some (.inl (y120.1, (y131.2.1, (y131.2.2.1, (y131.2.2.2.1, y131.2.2.2.2)))))))) (some (.inr (.inl ((y120.2.2.1, (y120.2.2.2.1, (y120.2.2.2.2, (y120.2.1, ())))), y120.1))))) (some (.inr (.inl ((y120.2.2.1, (y120.2.2.2.1, (y120.2.2.2.2, (y120.2.1, ())))), y120.1))))) (some (.inr (.inl ((y120.2.2.1, (y120.2.2.2.1, (y120.2.2.2.2, (y120.2.1, ())))), y120.1))))) (mk4 ws s) = some r ∧ ∃ y, r = .inl y ∧ Er5 ws k y := by
  have hA : ∀ i ts, i ≤ ws.length → GoodP ws i ts (allS ws one F i ts) := fun i ts h => allS_good (by omega) hN i ts h
  have eA : ∀ i ts, allS ws one F i ts = match one i ts with
    | .inr k => .inr k
    | .inl s => loopS wAnd 5 ws one F s := fun _ _ => rfl
  refine iter_loopR (α := R4) (ρ := T5 ⊕ ρ) (wrd := wOr) (kind := 6) (next := allS ws one F) bts_ne hA (mk4 ws) (fun t => .inl (mk5 ws t)) (fun k r => ∃ y, r = .inl y ∧ Er5 ws k y) ?_ ?_ ?_ F lf s h1 h2 (by omega) (by omega)
  · intro s s1 s2 he
    simp only [mk4, decide_true, cond_true, qOr]
    rw [rdL2 s1 (fun w => decide (w = wOr)) (by decide)]
    simp only [decide_eq_false he, cond_false]
  · intro s s1 s2 he t ht
    have hlt := wAt_of he
    have hr := hG (s.1 + 1) s.2.1 (by omega) (by omega)
    have hg := hN (s.1 + 1) s.2.1 (by omega)
    rw [eA] at ht
    cases hy : one (s.1 + 1) s.2.1 with
    | inr k => rw [hy] at ht; cases ht
    | inl u =>
      rw [hy] at ht hr hg
      simp only at ht
      obtain ⟨q1, q2, q3⟩ := hg
      have hr' : G245 lf n ((ws, (((s.1 + 1 : Nat) : Int), ((0 : Int), (s.2.1, ())))), dp) = some (.inl ((ws, ((u.1 : Int), ((0 : Int), (u.2.1, ())))), u.2.2)) := hr
      have hgl := loopS_good (wrd := wAnd) (kind := 5) bts_ne hN F u q2 (by omega)
      have hB := and_loopR (ρ := (R4 ⊕ (T5 ⊕ ρ))) hlf hl hF hN hG (fun e => .inr (.inr (.inr (E e)))) u q2 (by omega)
      rw [ht] at hB hgl
      obtain ⟨b1, b2, b3⟩ := hgl
      simp only at hB
      have hb : List.length t.2.1 ≤ 100000 := by omega
      simp only [mk4, decide_true, cond_true, qOr]
      rw [rdL2 s1 (fun w => decide (w = wOr)) (by decide)]
      simp only [he, decide_true, cond_true, succ_W (show s.1 + 1 < 9223372036854775808 by omega), hr', Option.bind_some, sm]
      refine (congrArg (fun z => jn z _) hB).trans ?_
      simp only [jl, mk4, decide_true, cond_true, appT hb, Option.bind_some, lenT hb]
      rfl
  · intro s s1 s2 he k hk
    have hlt := wAt_of he
    have hr := hG (s.1 + 1) s.2.1 (by omega) (by omega)
    have hg := hN (s.1 + 1) s.2.1 (by omega)
    have hgk := hA (s.1 + 1) s.2.1 (by omega)
    rw [hk] at hgk
    have h0 : 0 < k := by have := hgk.1; omega
    rw [eA] at hk
    cases hy : one (s.1 + 1) s.2.1 with
    | inr k2 =>
      rw [hy] at hk hr
      simp only [Sum.inr.injEq] at hk
      subst hk
      obtain ⟨i1, ts1, a1, hr⟩ := hr
      refine ⟨(s.2.2, (ts1, (ws, (i1, (k2 : Int))))), .inl ((ws, (i1, ((k2 : Int), (ts1, ())))), s.2.2), ?_, ?_, _, rfl, _, _, _, rfl⟩
      · simp only [mk4, decide_true, cond_true, qOr]
        rw [rdL2 s1 (fun w => decide (w = wOr)) (by decide)]
        simp only [he, decide_true, cond_true, succ_W (show s.1 + 1 < 9223372036854775808 by omega), hr, Option.bind_some, sm]
        refine stop_P (P := fun z => jn z _ = _) (r := .inl (a1, (ts1, (ws, (i1, (k2 : Int)))))) ?_ (by omega) ?_
        · simp only [k_ne h0, cond_false]
        · simp only [jl, k_ne h0, cond_false]
      · simp only [k_ne h0, cond_false]
    | inl u =>
      rw [hy] at hk hr hg
      simp only at hk
      obtain ⟨q1, q2, q3⟩ := hg
      have hr' : G245 lf n ((ws, (((s.1 + 1 : Nat) : Int), ((0 : Int), (s.2.1, ())))), dp) = some (.inl ((ws, ((u.1 : Int), ((0 : Int), (u.2.1, ())))), u.2.2)) := hr
      have hB := and_loopR (ρ := (R4 ⊕ (T5 ⊕ ρ))) hlf hl hF hN hG (fun e => .inr (.inr (.inr (E e)))) u q2 (by omega)
      rw [hk] at hB
      obtain ⟨r, e1, y, e2, a1, ts1, i1, e3⟩ := hB
      subst e2 e3
      refine ⟨(s.2.2, (ts1, (ws, (i1, (k : Int))))), .inl ((ws, (i1, ((k : Int), (ts1, ())))), s.2.2), ?_, ?_, _, rfl, _, _, _, rfl⟩
      · simp only [mk4, decide_true, cond_true, qOr]
        rw [rdL2 s1 (fun w => decide (w = wOr)) (by decide)]
        simp only [he, decide_true, cond_true, succ_W (show s.1 + 1 < 9223372036854775808 by omega), hr', Option.bind_some, sm]
        refine (congrArg (fun z => jn z _) e1).trans ?_
        simp only [jl, k_ne h0, cond_false]
      · simp only [k_ne h0, cond_false]
theorem G163_ok {lf : Nat} (hlf : 100000 < lf) {ws : List ByteArray} (hl : ws.length ≤ 8001) {F : Nat} (hF : F = ws.length + 1) {one : Nat → Cnd → PE}
    (hN : ∀ i ts, i ≤ ws.length → GoodP ws i ts (one i ts))
    (hG : ∀ i ts, i ≤ ws.length → List.length ts ≤ 2 * i → RRel ws (one i ts) (G245 lf lf ((ws, ((i : Int), ((0 : Int), (ts, ())))), (0 : Int)))) :
    RRel ws (cndS ws one F 0 []) (G163 lf ((ws, ((0 : Int), ((0 : Int), (([] : List (Int × (Int × (Int × (ByteArray × Int))))), ())))), (0 : Int))) := by
  unfold G163
  have hA : ∀ i ts, i ≤ ws.length → GoodP ws i ts (allS ws one F i ts) := fun i ts h => allS_good (by omega) hN i ts h
  have hg := hN 0 [] (by omega)
  have hr : RRel ws (one 0 []) (G245 lf lf ((ws, ((0 : Int), ((0 : Int), (([] : List (Int × (Int × (Int × (ByteArray × Int))))), ())))), (0 : Int))) := hG 0 [] (by omega) (by simp)
  unfold cndS
  have eA : allS ws one F 0 [] = match one 0 [] with
    | .inr k => .inr k
    | .inl s => loopS wAnd 5 ws one F s := rfl
  rw [eA]
  cases hx : one 0 [] with
  | inr k =>
    rw [hx] at hr hg
    have h0 : 0 < k := by have := hg.1; omega
    obtain ⟨i1, ts1, a1, hr⟩ := hr
    simp only [hr, Option.bind_some, sm]
    refine stop_P (P := fun z => RRel ws _ (jn z _)) (r := .inl (a1, (ts1, (ws, (i1, (k : Int)))))) ?_ (by omega) ?_
    · simp only [k_ne h0, cond_false]
    simp only [jl]
    refine stop_P (P := fun z => RRel ws _ z) (r := .inl ((ws, (i1, ((k : Int), (ts1, ())))), a1)) ?_ (by omega) ?_
    · simp only [k_ne h0, cond_false]
    exact ⟨_, _, _, rfl⟩
  | inl t =>
    rw [hx] at hr hg
    obtain ⟨g1, g2, g3⟩ := hg
    simp only [List.length_nil] at g3
    have hr' : G245 lf lf ((ws, ((0 : Int), ((0 : Int), (([] : List (Int × (Int × (Int × (ByteArray × Int))))), ())))), (0 : Int)) = some (.inl ((ws, ((t.1 : Int), ((0 : Int), (t.2.1, ())))), t.2.2)) := hr
    simp only [hr', Option.bind_some, sm]
    have hgl := loopS_good (wrd := wAnd) (kind := 5) bts_ne hN F t g2 (by omega)
    have hB := and_loopR (ρ := T5 ⊕ Int) hlf hl hF hN hG (fun e => .inr (.inr e)) t g2 (by omega)
    cases hz : loopS wAnd 5 ws one F t with
    | inr k =>
      rw [hz] at hB hgl
      have h0 : 0 < k := by have := hgl.1; omega
      obtain ⟨r, e1, y, e2, a1, ts1, i1, e3⟩ := hB
      subst e2 e3
      refine (congrArg (fun z => RRel ws _ (jn z _)) e1).mpr ?_
      simp only [jl]
      refine stop_P (P := fun z => RRel ws _ z) (r := .inl ((ws, (i1, ((k : Int), (ts1, ())))), a1)) ?_ (by omega) ?_
      · simp only [k_ne h0, cond_false]
      exact ⟨_, _, _, rfl⟩
    | inl s0 =>
      rw [hz] at hB hgl
      obtain ⟨a1, a2, a3⟩ := hgl
      refine (congrArg (fun z => RRel ws _ (jn z _)) hB).mpr ?_
      simp only [jl]
      have hC := or_loopT (ρ := Int) hlf hl hF hN hG (fun e => e) s0 a2 (by omega)
      cases hz2 : loopS wOr 6 ws (allS ws one F) F s0 with
      | inr k =>
        rw [hz2] at hC
        obtain ⟨r, e1, y, e2, i1, ts1, a1, e3⟩ := hC
        subst e2 e3
        refine (congrArg (fun z => RRel ws _ z) e1).mpr ?_
        exact ⟨_, _, _, rfl⟩
      | inl s4 =>
        rw [hz2] at hC
        refine (congrArg (fun z => RRel ws _ z) hC).mpr ?_
        rfl
theorem G245_one {ws : List ByteArray} (hl : ws.length ≤ 8001) {F : Nat} (hF : F = ws.length + 1) : ∀ (n deep i : Nat) (ts : Cnd), deep ≤ 8 → 9 ≤ n + deep → i ≤ ws.length → List.length ts ≤ 2 * i →
    RRel ws (oneS ws F n deep i ts) (G245 LF n ((ws, ((i : Int), ((0 : Int), (ts, ())))), (deep : Int))) := by
  intro n
  induction n with
  | zero => intro deep i ts h1 h2; omega
  | succ n ih =>
    intro deep i ts h1 h2 h3 h4
    rw [G245_P]
    unfold oneS
    simp only [rdW2 h3, jl, qNot, qOpen, qTrue, G99_nm, Option.bind_some, succ_W (show i + 1 < 9223372036854775808 by omega), succ_W (show deep + 1 < 9223372036854775808 by omega), decide_true, cond_true]
    by_cases hn : wAt ws i = wNot
    · have hlt := wAt_of hn
      simp only [hn, decide_true, cond_true, jl, true_or, if_true]
      by_cases h8 : deep = 8
      · subst h8
        simp only [show decide (((8 : Nat) : Int) = 8) = true by decide, cond_true, if_true]
        exact ⟨_, _, _, rfl⟩
      · have e8 : decide ((deep : Int) = 8) = false := decide_eq_false (by omega)
        simp only [e8, cond_false, if_neg h8]
        have hr := ih (deep + 1) (i + 1) ts (by omega) (by omega) (by omega) (by omega)
        have hg := oneS_good (ws := ws) (F := F) (by omega) n (deep + 1) (i + 1) ts (by omega) (by omega) (by omega)
        cases hx : oneS ws F n (deep + 1) (i + 1) ts with
        | inr k =>
          rw [hx] at hr hg
          have h0 : 0 < k := by have := hg.1; omega
          obtain ⟨i1, ts1, a1, hr⟩ := hr
          simp only [hr, Option.bind_some, sm, k_ne h0, Bool.not_false, cond_true]
          exact ⟨_, _, _, rfl⟩
        | inl t =>
          rw [hx] at hr hg
          obtain ⟨g1, g2, g3⟩ := hg
          have hr' : G245 LF n ((ws, (((i + 1 : Nat) : Int), ((0 : Int), (ts, ())))), ((deep + 1 : Nat) : Int)) = some (.inl ((ws, ((t.1 : Int), ((0 : Int), (t.2.1, ())))), t.2.2)) := hr
          have hb : List.length t.2.1 ≤ 100000 := by omega
          simp only [hr', Option.bind_some, sm, decide_true, Bool.not_true, cond_false, appT hb, lenT hb]
          rfl
    · by_cases ho : wAt ws i = wOpen
      · have hlt := wAt_of ho
        have hno : ¬ (wOpen = wNot) := by decide
        simp only [ho, hno, decide_true, decide_false, cond_true, cond_false, jl, or_true, if_true, if_false]
        by_cases h8 : deep = 8
        · subst h8
          simp only [show decide (((8 : Nat) : Int) = 8) = true by decide, cond_true, if_true]
          exact ⟨_, _, _, rfl⟩
        · have e8 : decide ((deep : Int) = 8) = false := decide_eq_false (by omega)
          simp only [e8, cond_false, if_neg h8]
          exact P245_ok (LFpos _ (by omega)) hl hF (by omega) hlt h4 (fun i ts h => oneS_good (by omega) n (deep + 1) i ts (by omega) (by omega) h) (fun i ts h h' => ih (deep + 1) i ts (by omega) (by omega) h h')
      · have hnn : ¬ (wAt ws i = wNot ∨ wAt ws i = wOpen) := fun h => h.elim hn ho
        simp only [decide_eq_false hn, decide_eq_false ho, cond_false, jl, if_neg hnn]
        by_cases ht : wAt ws i = wTrue
        · have hlt := wAt_of ht
          have hb : List.length ts ≤ 100000 := by omega
          simp only [ht, decide_true, cond_true, if_true, appT hb, Option.bind_some, lenT hb]
          rfl
        · simp only [decide_eq_false ht, cond_false, if_neg ht]
          cases hm : nmB (wAt ws i) with
          | false =>
            simp only [Bool.not_false, cond_true, if_true]
            exact ⟨_, _, _, rfl⟩
          | true =>
            have hlt : i < ws.length := wAt_lt fun e => by rw [e] at hm; exact absurd hm (by decide)
            simp only [Bool.not_true, cond_false, Bool.true_eq_false, if_false]
            exact Q245_cmp hl hlt (by omega)
theorem G89_parse {ws : List ByteArray} (hl : ws.length ≤ 8001) : G89 LF ws = some (parseW ws) := by
  unfold G89 parseW
  have h := G163_ok (lf := LF) (LFpos _ (by omega)) hl rfl (one := oneS ws (ws.length + 1) LF 0) (fun i ts h => oneS_good (by omega) LF 0 i ts (by omega) (by show 9 ≤ 9223372036854775808 + 0; omega) h)
      (fun i ts h h' => G245_one (by omega) rfl LF 0 i ts (by omega) (by show 9 ≤ 9223372036854775808 + 0; omega) h h')
  have hg := cndS_good (ws := ws) (one := oneS ws (ws.length + 1) LF 0) (F := ws.length + 1) (by omega) (fun i ts h => oneS_good (by omega) LF 0 i ts (by omega) (by show 9 ≤ 9223372036854775808 + 0; omega) h) 0 [] (by omega)
  cases hx : cndS ws (oneS ws (ws.length + 1) LF 0) (ws.length + 1) 0 [] with
  | inr k =>
    rw [hx] at h hg
    have h0 : 0 < k := by have := hg.1; omega
    obtain ⟨i1, ts1, a1, h⟩ := h
    simp only [h, Option.bind_some, sm, k_ne h0, cond_false, jl, Bool.not_false, cond_true, condW]
  | inl t =>
    rw [hx] at h hg
    obtain ⟨g1, g2, g3⟩ := hg
    have h' : G163 LF ((ws, ((0 : Int), ((0 : Int), (([] : List (Int × (Int × (Int × (ByteArray × Int))))), ())))), (0 : Int)) = some (.inl ((ws, ((t.1 : Int), ((0 : Int), (t.2.1, ())))), t.2.2)) := h
    simp only [h', Option.bind_some, sm, decide_true, cond_true, jl, condW, succ_W (show t.1 + 1 < 9223372036854775808 by omega)]
    by_cases hc : t.1 < ws.length
    · simp only [decide_eq_true (show (t.1 : Int) < (ws.length : Int) by omega), cond_true, jl, if_pos hc, k_ne (show 0 < t.1 + 1 by omega), Bool.not_false]
    · simp only [decide_eq_false (show ¬ (t.1 : Int) < (ws.length : Int) by omega), cond_false, jl, if_neg hc, decide_true, Bool.not_true]
      by_cases h30 : 30 < List.length t.2.1
      · simp only [decide_eq_true (show ((List.length t.2.1 : Nat) : Int) > 30 by omega), cond_true, if_pos h30]
      · simp only [decide_eq_false (show ¬ ((List.length t.2.1 : Nat) : Int) > 30 by omega), cond_false, if_neg h30]
theorem G18_parse (s : ByteArray) : G18 LF s = some (parseB s) := by
  unfold G18 parseB
  by_cases h : 8000 < s.size
  · simp only [decide_eq_true (show (s.size : Int) > 8000 by omega), cond_true, if_pos h]
  · have hl := words_len s
    simp only [decide_eq_false (show ¬ (s.size : Int) > 8000 by omega), cond_false, if_neg h, G90_words s (by omega), Option.bind_some, G89_parse (show (wordsB s).length ≤ 8001 by omega)]
end Go.K
set_option linter.unusedVariables false
set_option linter.unusedSimpArgs false
set_option maxRecDepth 100000
set_option maxHeartbeats 0
namespace Go.K
open Go.Sl Go.Sx Go.Proofs
noncomputable def G141 (lf : Nat) : Nat → Int → Option (ByteArray)
  | 0, _ => none
  | n + 1, x => cond (decide (x < (-9 : Int))) (((G141 lf n (w64 (Int.tdiv x (10 : Int))))).bind fun r11 => ((catC r11 (strI [(Go.IntKind.wrap .u8 (w64 ((48 : Int) - (Int.tmod x (10 : Int)))))]))).bind fun r12 => some (r11 ++ (strI [(Go.IntKind.wrap .u8 (w64 ((48 : Int) - (Int.tmod x (10 : Int)))))]))) (cond (decide (x < (0 : Int))) (((G141 lf n (w64 ((0 : Int) - x)))).bind fun r15 => ((catC (bts [45]) r15)).bind fun r16 => some ((bts [45]) ++ r15)) (cond (decide (x < (10 : Int))) (some (strI [(Go.IntKind.wrap .u8 (w64 ((48 : Int) + x)))])) (((G141 lf n (w64 (Int.tdiv x (10 : Int))))).bind fun r17 => ((catC r17 (strI [(Go.IntKind.wrap .u8 (w64 ((48 : Int) + (Int.tmod x (10 : Int)))))]))).bind fun r18 => some (r17 ++ (strI [(Go.IntKind.wrap .u8 (w64 ((48 : Int) + (Int.tmod x (10 : Int)))))])))))
noncomputable def G169 (lf : Nat) (x : ((Int × (Int × (Int × (ByteArray × Int)))) × Bool)) : Option (ByteArray) :=
  ((getI [((bts [60]), (bts [62, 61])), ((bts [60, 61]), (bts [62])), ((bts [61]), (bts [33, 61]))] (w64 (x.1.1 - (1 : Int))))).bind fun r18 => ((getI [((bts [60]), (bts [62, 61])), ((bts [60, 61]), (bts [62])), ((bts [61]), (bts [33, 61]))] (w64 (x.1.1 - (1 : Int))))).bind fun r19 => cond x.2 (((catC x.1.2.2.2.1 (bts [32]))).bind fun r20 => ((catC (x.1.2.2.2.1 ++ (bts [32])) r19.2)).bind fun r21 => ((catC ((x.1.2.2.2.1 ++ (bts [32])) ++ r19.2) (bts [32]))).bind fun r22 => ((G141 lf lf x.1.2.2.2.2)).bind fun r23 => ((catC (((x.1.2.2.2.1 ++ (bts [32])) ++ r19.2) ++ (bts [32])) r23)).bind fun r24 => some ((((x.1.2.2.2.1 ++ (bts [32])) ++ r19.2) ++ (bts [32])) ++ r23)) (((catC x.1.2.2.2.1 (bts [32]))).bind fun r25 => ((catC (x.1.2.2.2.1 ++ (bts [32])) r19.1)).bind fun r26 => ((catC ((x.1.2.2.2.1 ++ (bts [32])) ++ r19.1) (bts [32]))).bind fun r27 => ((G141 lf lf x.1.2.2.2.2)).bind fun r28 => ((catC (((x.1.2.2.2.1 ++ (bts [32])) ++ r19.1) ++ (bts [32])) r28)).bind fun r29 => some ((((x.1.2.2.2.1 ++ (bts [32])) ++ r19.1) ++ (bts [32])) ++ r28))
noncomputable def G171 (lf : Nat) (x : (Int × (Int × (Int × (ByteArray × Int))))) : Option (Bool) :=
  cond (decide (x.1 = (5 : Int))) (some true) (some (decide (x.1 = (6 : Int))))
noncomputable def G170 (lf : Nat) (x : ((Int × (Int × Int)) × Bool)) : Option ((Int × (Int × Int))) :=
  cond x.2 (some ((w64 (x.1.1 + (4 : Int))), ((w64 (x.1.2.1 + (1 : Int))), x.1.2.2))) (some (x.1.1, (x.1.2.1, x.1.2.2)))
noncomputable def G100 (lf : Nat) (x : (List (Int × (Int × (Int × (ByteArray × Int)))))) : Option ((List (Int × (Int × Int)))) :=
  iter lf (fun y117 : ((List (Int × (Int × Int))) × Int) => cond (decide (y117.2 < (x.length : Int))) (((getI x y117.2)).bind fun r118 => jn (jn (cond (decide (r118.1 = (1 : Int))) (some (.inl (decide (r118.1 = (1 : Int))))) (cond (decide (r118.1 = (2 : Int))) (some (.inl (decide (r118.1 = (2 : Int))))) (some (.inl (decide (r118.1 = (3 : Int))))))) (fun y119 : Bool => cond y119 (((G169 lf ((r118.1, (r118.2.1, (r118.2.2.1, (r118.2.2.2.1, r118.2.2.2.2)))), false))).bind fun r120 => some (.inl ((r120.size : Int), ((0 : Int), (1 : Int))))) (cond (decide (r118.1 = (4 : Int))) (((getI x r118.2.1)).bind fun r121 => ((G98 lf r121.1)).bind fun r122 => cond r122 (((G169 lf ((r121.1, (r121.2.1, (r121.2.2.1, (r121.2.2.2.1, r121.2.2.2.2)))), true))).bind fun r123 => some (.inl ((r123.size : Int), ((0 : Int), (2 : Int))))) (((getI y117.1 r118.2.1)).bind fun r124 => ((getI y117.1 r118.2.1)).bind fun r125 => ((G171 lf (r121.1, (r121.2.1, (r121.2.2.1, (r121.2.2.2.1, r121.2.2.2.2)))))).bind fun r126 => ((G170 lf ((r125.1, (r125.2.1, r125.2.2)), r126))).bind fun r127 => some (.inl ((w64 (r127.1 + (4 : Int))), ((w64 (r127.2.1 + (1 : Int))), (w64 (r127.2.2 + (1 : Int)))))))) (jn (cond (decide (r118.1 = (5 : Int))) (some (.inl (decide (r118.1 = (5 : Int))))) (some (.inl (decide (r118.1 = (6 : Int)))))) (fun y131 : Bool => cond y131 (((getI x r118.2.1)).bind fun r132 => ((getI x r118.2.2.1)).bind fun r133 => ((getI y117.1 r118.2.1)).bind fun r134 => ((getI y117.1 r118.2.1)).bind fun r135 => cond (decide (r118.1 = (5 : Int))) (((G170 lf ((r135.1, (r135.2.1, r135.2.2)), (decide (r132.1 = (6 : Int)))))).bind fun r136 => ((getI y117.1 r118.2.2.1)).bind fun r137 => ((getI y117.1 r118.2.2.1)).bind fun r138 => cond (decide (r118.1 = (5 : Int))) (((G171 lf (r133.1, (r133.2.1, (r133.2.2.1, (r133.2.2.2.1, r133.2.2.2.2)))))).bind fun r139 => cond r139 (((G170 lf ((r138.1, (r138.2.1, r138.2.2)), true))).bind fun r140 => jn (cond (decide (r118.1 = (6 : Int))) (some (.inl (4 : Int))) (some (.inl (5 : Int)))) (fun y141 : Int => some (.inl ((w64 ((w64 (r136.1 + y141)) + r140.1)), ((if r140.2.1 > r136.2.1 then r140.2.1 else r136.2.1), (w64 ((w64 (r136.2.2 + r140.2.2)) + (1 : Int)))))))) (((G170 lf ((r138.1, (r138.2.1, r138.2.2)), (decide (r133.1 = (6 : Int)))))).bind fun r144 => jn (cond (decide (r118.1 = (6 : Int))) (some (.inl (4 : Int))) (some (.inl (5 : Int)))) (fun y145 : Int => some (.inl ((w64 ((w64 (r136.1 + y145)) + r144.1)), ((if r144.2.1 > r136.2.1 then r144.2.1 else r136.2.1), (w64 ((w64 (r136.2.2 + r144.2.2)) + (1 : Int))))))))) (((G170 lf ((r138.1, (r138.2.1, r138.2.2)), (decide (r133.1 = (6 : Int)))))).bind fun r153 => jn (cond (decide (r118.1 = (6 : Int))) (some (.inl (4 : Int))) (some (.inl (5 : Int)))) (fun y154 : Int => some (.inl ((w64 ((w64 (r136.1 + y154)) + r153.1)), ((if r153.2.1 > r136.2.1 then r153.2.1 else r136.2.1), (w64 ((w64 (r136.2.2 + r153.2.2)) + (1 : Int))))))))) (((G170 lf ((r135.1, (r135.2.1, r135.2.2)), false))).bind fun r182 => ((getI y117.1 r118.2.2.1)).bind fun r183 => ((getI y117.1 r118.2.2.1)).bind fun r184 => cond (decide (r118.1 = (5 : Int))) (((G171 lf (r133.1, (r133.2.1, (r133.2.2.1, (r133.2.2.2.1, r133.2.2.2.2)))))).bind fun r185 => cond r185 (((G170 lf ((r184.1, (r184.2.1, r184.2.2)), true))).bind fun r186 => jn (cond (decide (r118.1 = (6 : Int))) (some (.inl (4 : Int))) (some (.inl (5 : Int)))) (fun y187 : Int => some (.inl ((w64 ((w64 (r182.1 + y187)) + r186.1)), ((if r186.2.1 > r182.2.1 then r186.2.1 else r182.2.1), (w64 ((w64 (r182.2.2 + r186.2.2)) + (1 : Int)))))))) (((G170 lf ((r184.1, (r184.2.1, r184.2.2)), (decide (r133.1 = (6 : Int)))))).bind fun r190 => jn (cond (decide (r118.1 = (6 : Int))) (some (.inl (4 : Int))) (some (.inl (5 : Int)))) (fun y191 : Int => some (.inl ((w64 ((w64 (r182.1 + y191)) + r190.1)), ((if r190.2.1 > r182.2.1 then r190.2.1 else r182.2.1), (w64 ((w64 (r182.2.2 + r190.2.2)) + (1 : Int))))))))) (((G170 lf ((r184.1, (r184.2.1, r184.2.2)), (decide (r133.1 = (6 : Int)))))).bind fun r199 => jn (cond (decide (r118.1 = (6 : Int))) (some (.inl (4 : Int))) (some (.inl (5 : Int)))) (fun y200 : Int => some (.inl ((w64 ((w64 (r182.1 + y200)) + r199.1)), ((if r199.2.1 > r182.2.1 then r199.2.1 else r182.2.1), (w64 ((w64 (r182.2.2 + r199.2.2)) + (1 : Int)))))))))) (some (.inl ((4 : Int), ((0 : Int), (1 : Int)))))))))) (fun y228 : (Int × (Int × Int)) => ((appC y117.1 [((if (8001 : Int) < y228.1 then (8001 : Int) else y228.1), (y228.2.1, (if (31 : Int) < y228.2.2 then (31 : Int) else y228.2.2)))])).bind fun r229 => some (.inl (r229, (w64 (y117.2 + (1 : Int))))))) (some (.inr y117.1))) (([] : List (Int × (Int × Int))), (0 : Int))
noncomputable def G172 (lf : Nat) (x : (ByteArray × Bool)) : Option (ByteArray) :=
  cond x.2 (((catC (bts [40, 32]) x.1)).bind fun r4 => ((catC ((bts [40, 32]) ++ x.1) (bts [32, 41]))).bind fun r5 => some (((bts [40, 32]) ++ x.1) ++ (bts [32, 41]))) (some x.1)
noncomputable def G101 (lf : Nat) : Nat → ((List (Int × (Int × (Int × (ByteArray × Int))))) × Int) → Option (ByteArray)
  | 0, _ => none
  | n + 1, x => ((getI x.1 x.2)).bind fun r26 => cond (decide (r26.1 = (0 : Int))) (some (bts [116, 114, 117, 101])) (cond (decide (r26.1 = (4 : Int))) (((getI x.1 r26.2.1)).bind fun r27 => ((G98 lf r27.1)).bind fun r28 => cond r28 (((G169 lf ((r27.1, (r27.2.1, (r27.2.2.1, (r27.2.2.2.1, r27.2.2.2.2)))), true))).bind fun r29 => some r29) (((G101 lf n (x.1, r26.2.1))).bind fun r30 => ((G171 lf (r27.1, (r27.2.1, (r27.2.2.1, (r27.2.2.2.1, r27.2.2.2.2)))))).bind fun r31 => ((G172 lf (r30, r31))).bind fun r32 => ((catC (bts [110, 111, 116, 32]) r32)).bind fun r33 => some ((bts [110, 111, 116, 32]) ++ r32))) (cond (decide (r26.1 = (5 : Int))) (((getI x.1 r26.2.1)).bind fun r34 => ((getI x.1 r26.2.2.1)).bind fun r35 => ((G101 lf n (x.1, r26.2.1))).bind fun r36 => ((G172 lf (r36, (decide (r34.1 = (6 : Int)))))).bind fun r37 => ((catC r37 (bts [32, 97, 110, 100, 32]))).bind fun r38 => ((G101 lf n (x.1, r26.2.2.1))).bind fun r39 => ((G171 lf (r35.1, (r35.2.1, (r35.2.2.1, (r35.2.2.2.1, r35.2.2.2.2)))))).bind fun r40 => ((G172 lf (r39, r40))).bind fun r41 => ((catC (r37 ++ (bts [32, 97, 110, 100, 32])) r41)).bind fun r42 => some ((r37 ++ (bts [32, 97, 110, 100, 32])) ++ r41)) (cond (decide (r26.1 = (6 : Int))) (((getI x.1 r26.2.2.1)).bind fun r43 => ((G101 lf n (x.1, r26.2.1))).bind fun r44 => ((catC r44 (bts [32, 111, 114, 32]))).bind fun r45 => ((G101 lf n (x.1, r26.2.2.1))).bind fun r46 => ((G172 lf (r46, (decide (r43.1 = (6 : Int)))))).bind fun r47 => ((catC (r44 ++ (bts [32, 111, 114, 32])) r47)).bind fun r48 => some ((r44 ++ (bts [32, 111, 114, 32])) ++ r47)) (((G169 lf ((r26.1, (r26.2.1, (r26.2.2.1, (r26.2.2.2.1, r26.2.2.2.2)))), false))).bind fun r49 => some r49))))
noncomputable def G20 (lf : Nat) (x : (List (Int × (Int × (Int × (ByteArray × Int)))))) : Option ((ByteArray × Int)) :=
  jn (cond (decide ((x.length : Int) = (0 : Int))) (some (.inl true)) (some (.inl (decide ((x.length : Int) > (30 : Int)))))) (fun y12 : Bool => cond y12 (some ((bts []), (41 : Int))) (iter lf (fun y13 : Int => cond (decide (y13 < (x.length : Int))) (((getI x y13)).bind fun r14 => jn (((G97 lf ((r14.1, (r14.2.1, (r14.2.2.1, (r14.2.2.2.1, r14.2.2.2.2)))), y13))).bind fun r15 => cond (!r15) (some (.inl true)) (((G98 lf r14.1)).bind fun r16 => cond r16 (((G99 lf r14.2.2.2.1)).bind fun r17 => some (.inl (!r17))) (some (.inl false)))) (fun y18 : Bool => cond y18 (some (.inr ((bts []), (41 : Int)))) (some (.inl (w64 (y13 + (1 : Int))))))) (outR (((G100 lf x)).bind fun r19 => ((getI r19 (w64 ((x.length : Int) - (1 : Int))))).bind fun r20 => cond (decide (r20.2.1 > (8 : Int))) (some ((bts []), (41 : Int))) (jn (cond (decide (r20.1 > (8000 : Int))) (some (.inl true)) (some (.inl (decide (r20.2.2 > (30 : Int)))))) (fun y21 : Bool => cond y21 (some ((bts []), (2 : Int))) (((G101 lf lf (x, (w64 ((x.length : Int) - (1 : Int)))))).bind fun r22 => some (r22, (0 : Int)))))))) (0 : Int)))
noncomputable def G3 (lf : Nat) (x : (ByteArray × (List (Int × (Int × (Int × (ByteArray × Int))))))) : Option (Bool) :=
  ((cutC x.1 (0 : Int) (if (2000 : Int) < (x.1.size : Int) then (2000 : Int) else (x.1.size : Int)))).bind fun r14 => ((G17 lf (ByteArray.extract x.1 0 (Int.toNat (if (2000 : Int) < (x.1.size : Int) then (2000 : Int) else (x.1.size : Int)))))).bind fun r15 => ((G18 lf (ByteArray.extract x.1 0 (Int.toNat (if (2000 : Int) < (x.1.size : Int) then (2000 : Int) else (x.1.size : Int)))))).bind fun r16 => ((G19 lf x.2)).bind fun r17 => ((G20 lf x.2)).bind fun r18 => jn (((G21 lf (r15.1, r16.1))).bind fun r19 => cond (!r19) (some (.inl true)) (cond (!(decide (r15.2.1 = r16.2.1))) (some (.inl true)) (cond (!(decide (r15.2.2 = r16.2.2))) (some (.inl true)) (cond (!(r17.1.data.toList == r18.1.data.toList)) (some (.inl true)) (some (.inl (!(decide (r17.2 = r18.2))))))))) (fun y20 : Bool => cond y20 (some false) (cond (!(decide (r15.2.2 = (0 : Int)))) (((G22 lf ())).bind fun r21 => some r21) (((G19 lf r15.1)).bind fun r22 => ((G17 lf r22.1)).bind fun r23 => cond (decide (r22.2 = (0 : Int))) (cond (decide (r23.2.2 = (0 : Int))) (((G21 lf (r23.1, r15.1))).bind fun r24 => cond r24 (((G22 lf ())).bind fun r25 => some r25) (some false)) (some false)) (some false))))
end Go.K
set_option linter.unusedVariables false
set_option linter.unusedSimpArgs false
set_option maxRecDepth 100000
namespace Go.K
open Go.Sl Go.Sx Go.Proofs
theorem cond_if {α : Type} (b : Prop) [Decidable b] (x y : α) : cond (decide b) x y = if b then x else y := by by_cases h : b <;> simp [h]
theorem G141_pos (lf : Nat) : ∀ (k u : Nat), u < 10 ^ (k + 1) → u < 10000000000000000 → G141 lf (k + 1) (u : Int) = some ⟨(Lib.decDigits u).toArray⟩
  | k, u, h1, h2 => by
    rw [G141.eq_2]
    have c1 : ¬ ((u : Int) < -9) := by omega
    have c2 : ¬ ((u : Int) < 0) := by omega
    simp only [cond_if, c1, c2, if_false]
    by_cases h : u < 10
    · have c3 : (u : Int) < 10 := by omega
      simp only [c3, if_true]
      rw [dig_one h, dec_small h]
    · have c3 : ¬ (u : Int) < 10 := by omega
      simp only [c3, if_false, agree_self]
      cases k with
      | zero => omega
      | succ k =>
        have e1 : w64 (Int.tdiv (u : Int) 10) = ((u / 10 : Nat) : Int) := by
          rw [show Int.tdiv (u : Int) 10 = ((u / 10 : Nat) : Int) from rfl, w64_id (by omega) (by omega)]
        have e2 : Int.tmod (u : Int) 10 = ((u % 10 : Nat) : Int) := rfl
        have hp : 10 ^ (k + 1 + 1) = 10 ^ (k + 1) * 10 := Nat.pow_succ ..
        rw [e1, e2, G141_pos lf k (u / 10) (by omega) (by omega), dig_one (Nat.mod_lt _ (by decide)), dec_big h]
        have := (dec_len (u / 10)).2
        simp only [Option.bind_some, cat_of _ _ (show (Lib.decDigits (u / 10)).length + [UInt8.ofNat (48 + u % 10)].length ≤ 9223372036854775807 by simp; omega), app_L]
theorem G141_neg (lf : Nat) : ∀ (k u : Nat), 1 ≤ u → u < 10 ^ (k + 1) → u < 10000000000000000 → G141 lf (k + 2) (-(u : Int)) = some ⟨(45 :: Lib.decDigits u).toArray⟩
  | k, u, h0, h1, h2 => by
    rw [G141.eq_2]
    by_cases h : u < 10
    · have c1 : ¬ (-(u : Int) < -9) := by omega
      have c2 : -(u : Int) < 0 := by omega
      have e : w64 ((0 : Int) - -(u : Int)) = (u : Int) := by rw [w64_id (by omega) (by omega)]; omega
      simp only [cond_if, c1, c2, if_false, if_true, e]
      rw [G141_pos lf k u h1 h2]
      have := (dec_len u).2
      have hb : bts [45] = ⟨[(45 : UInt8)].toArray⟩ := rfl
      rw [hb]
      simp only [Option.bind_some, cat_of _ _ (show [(45 : UInt8)].length + (Lib.decDigits u).length ≤ 9223372036854775807 by simp; omega), app_L]
      rfl
    · have c1 : -(u : Int) < -9 := by omega
      simp only [cond_if, c1, if_true, agree_self]
      cases k with
      | zero => omega
      | succ k =>
        have e1 : w64 (Int.tdiv (-(u : Int)) 10) = -((u / 10 : Nat) : Int) := by
          rw [Int.neg_tdiv, show Int.tdiv (u : Int) 10 = ((u / 10 : Nat) : Int) from rfl, w64_id (by omega) (by omega)]
        have e2 : (48 : Int) - Int.tmod (-(u : Int)) 10 = (48 : Int) + ((u % 10 : Nat) : Int) := by
          rw [Int.neg_tmod, show Int.tmod (u : Int) 10 = ((u % 10 : Nat) : Int) from rfl]; omega
        have hp : 10 ^ (k + 1 + 1) = 10 ^ (k + 1) * 10 := Nat.pow_succ ..
        rw [e1, e2, G141_neg lf k (u / 10) (by omega) (by omega) (by omega), dig_one (Nat.mod_lt _ (by decide)), dec_big h]
        have := (dec_len (u / 10)).2
        simp only [Option.bind_some, cat_of _ _ (show (45 :: Lib.decDigits (u / 10)).length + [UInt8.ofNat (48 + u % 10)].length ≤ 9223372036854775807 by simp; omega), app_L]
        rfl
theorem G141_it (lf m : Nat) (hm : 16 ≤ m) {n : Int} (h : -1000000000000 ≤ n ∧ n ≤ 1000000000000) : G141 lf m n = some (It n) := by
  obtain ⟨k, rfl⟩ : ∃ k, m = k + 2 := ⟨m - 2, by omega⟩
  have hp : 10 ^ 13 ≤ 10 ^ (k + 1) * 10 ^ 0 := by
    rw [Nat.pow_zero, Nat.mul_one]; exact Nat.pow_le_pow_right (by decide) (by omega)
  simp only [Nat.pow_zero, Nat.mul_one] at hp
  have e10 : 10 ^ 13 = 10000000000000 := by decide
  have hp2 : 10 ^ (k + 1 + 1) = 10 ^ (k + 1) * 10 := Nat.pow_succ ..
  unfold It Lib.itoa
  by_cases hn : n < 0
  · rw [if_pos hn]
    obtain ⟨u, hu⟩ : ∃ u : Nat, n = -(u : Int) := ⟨n.natAbs, by omega⟩
    subst hu
    have : (-(u : Int)).natAbs = u := by omega
    rw [this]
    exact G141_neg lf k u (by omega) (by omega) (by omega)
  · rw [if_neg hn]
    obtain ⟨u, hu⟩ : ∃ u : Nat, n = (u : Int) := ⟨n.toNat, by omega⟩
    subst hu
    exact G141_pos lf (k + 1) u (by omega) (by omega)
theorem itoaC_it {n : Int} (h : -1000000000000 ≤ n ∧ n ≤ 1000000000000) : itoaC n = some (It n) := by
  unfold itoaC It; rw [if_pos (by omega)]
theorem It_size {n : Int} (h : -1000000000000 ≤ n ∧ n ≤ 1000000000000) : (It n).size ≤ 14 := by
  rw [size_len]
  unfold It
  rw [ofL_data]
  unfold Lib.itoa
  have e : (10 : Nat) ^ (12 + 1) = 10000000000000 := by decide
  have h1 := dec_len10 12 n.natAbs (by omega)
  have h2 := dec_len10 12 n.toNat (by omega)
  split
  · simp only [List.length_cons]; omega
  · omega
abbrev tm0 : Tm := (0, (0, (0, (bts [], 0))))
def getT (c : Cnd) (i : Nat) : Tm := c.getD i tm0
theorem getT_I {c : Cnd} {i : Nat} (h : i < List.length c) : getI c (i : Int) = some (getT c i) := by
  refine getI_nat ?_
  unfold getT
  rw [List.getD_eq_getElem?_getD, List.getElem?_eq_getElem h]; rfl
def Shd (c : Cnd) : Prop := ∀ i, i < List.length c → shp (getT c i) i = true ∧ (cmpK (getT c i).1 = true → nmB (getT c i).2.2.2.1 = true)
theorem Shd_4 {c : Cnd} (hc : Shd c) {i : Nat} (hi : i < List.length c) (h : (getT c i).1 = 4) : ∃ a : Nat, (getT c i).2.1 = (a : Int) ∧ a < i := by
  have := (hc i hi).1
  unfold shp at this
  rw [if_neg (by omega), if_neg (by omega), if_pos h] at this
  have := of_decide_eq_true this
  exact ⟨(getT c i).2.1.toNat, by omega, by omega⟩
theorem Shd_5 {c : Cnd} (hc : Shd c) {i : Nat} (hi : i < List.length c) (h : (getT c i).1 = 5 ∨ (getT c i).1 = 6) : ∃ a b : Nat, (getT c i).2.1 = (a : Int) ∧ (getT c i).2.2.1 = (b : Int) ∧ a < i ∧ b < i := by
  have := (hc i hi).1
  unfold shp at this
  rw [if_neg (by omega), if_neg (by omega), if_neg (by omega), if_pos h] at this
  have := of_decide_eq_true this
  exact ⟨(getT c i).2.1.toNat, (getT c i).2.2.1.toNat, by omega, by omega, by omega, by omega⟩
theorem Shd_c {c : Cnd} (hc : Shd c) {i : Nat} (hi : i < List.length c) (h : cmpK (getT c i).1 = true) : (getT c i).2.2.2.1.size ≤ 12 ∧ -1000000000000 ≤ (getT c i).2.2.2.2 ∧ (getT c i).2.2.2.2 ≤ 1000000000000 := by
  have h1 := (hc i hi).1
  have h2 := (hc i hi).2 h
  have h3 := of_decide_eq_true h
  unfold shp at h1
  rw [if_neg (by omega), if_pos h3] at h1
  have h1 := of_decide_eq_true h1
  unfold nmB at h2
  simp only [Bool.and_eq_true, decide_eq_true_eq] at h2
  exact ⟨h2.1.1.2, h1.2.2.1, h1.2.2.2⟩
theorem Shd_k {c : Cnd} (hc : Shd c) {i : Nat} (hi : i < List.length c) : (getT c i).1 = 0 ∨ cmpK (getT c i).1 = true ∨ (getT c i).1 = 4 ∨ (getT c i).1 = 5 ∨ (getT c i).1 = 6 := by
  have h1 := (hc i hi).1
  unfold shp at h1
  by_cases a0 : (getT c i).1 = 0
  · exact .inl a0
  · rw [if_neg a0] at h1
    by_cases a1 : 1 ≤ (getT c i).1 ∧ (getT c i).1 ≤ 3
    · exact .inr (.inl (decide_eq_true a1))
    · rw [if_neg a1] at h1
      by_cases a4 : (getT c i).1 = 4
      · exact .inr (.inr (.inl a4))
      · rw [if_neg a4] at h1
        by_cases a5 : (getT c i).1 = 5 ∨ (getT c i).1 = 6
        · exact .inr (.inr (.inr a5))
        · rw [if_neg a5] at h1; cases h1
def opT (k : Int) (neg : Bool) : ByteArray :=
  bif neg then (if k = 1 then bts [62, 61] else if k = 2 then bts [62] else bts [33, 61]) else (if k = 1 then bts [60] else if k = 2 then bts [60, 61] else bts [61])
def cmpT (t : Tm) (neg : Bool) : ByteArray := (((t.2.2.2.1 ++ bts [32]) ++ opT t.1 neg) ++ bts [32]) ++ It t.2.2.2.2
def rdT (s : ByteArray) (b : Bool) : ByteArray := bif b then (bts [40, 32] ++ s) ++ bts [32, 41] else s
def jnK (k : Int) : Bool := decide (k = 5 ∨ k = 6)
def prT (c : Cnd) : Nat → Nat → ByteArray
  | 0, _ => bts []
  | n + 1, i =>
    if (getT c i).1 = 0 then bts [116, 114, 117, 101]
    else if (getT c i).1 = 4 then
      (if cmpK (getT c (getT c i).2.1.toNat).1 = true then cmpT (getT c (getT c i).2.1.toNat) true
       else bts [110, 111, 116, 32] ++ rdT (prT c n (getT c i).2.1.toNat) (jnK (getT c (getT c i).2.1.toNat).1))
    else if (getT c i).1 = 5 then
      (rdT (prT c n (getT c i).2.1.toNat) (decide ((getT c (getT c i).2.1.toNat).1 = 6)) ++ bts [32, 97, 110, 100, 32]) ++ rdT (prT c n (getT c i).2.2.1.toNat) (jnK (getT c (getT c i).2.2.1.toNat).1)
    else if (getT c i).1 = 6 then
      (prT c n (getT c i).2.1.toNat ++ bts [32, 111, 114, 32]) ++ rdT (prT c n (getT c i).2.2.1.toNat) (decide ((getT c (getT c i).2.2.1.toNat).1 = 6))
    else cmpT (getT c i) false
theorem opT_size (k : Int) (neg : Bool) : (opT k neg).size ≤ 2 := by
  unfold opT
  cases neg <;> simp only [cond_true, cond_false] <;> split <;> (try split) <;> decide
theorem cmpT_size {c : Cnd} (hc : Shd c) {i : Nat} (hi : i < List.length c) (h : cmpK (getT c i).1 = true) (neg : Bool) : (cmpT (getT c i) neg).size ≤ 30 := by
  obtain ⟨h1, h2, h3⟩ := Shd_c hc hi h
  unfold cmpT
  have := It_size ⟨h2, h3⟩
  have := opT_size (getT c i).1 neg
  simp only [size_app, bts_size, List.length_cons, List.length_nil]; omega
theorem rdT_size (s : ByteArray) (b : Bool) : (rdT s b).size ≤ s.size + 4 := by
  unfold rdT
  cases b <;> simp only [cond_true, cond_false, size_app, bts_size, List.length_cons, List.length_nil] <;> omega
theorem prT_size {c : Cnd} (hc : Shd c) : ∀ (n i : Nat), i < List.length c → (prT c n i).size + 20 ≤ 64 * 2 ^ i
  | 0, i, _ => by
    have : 1 ≤ 2 ^ i := Nat.one_le_two_pow
    unfold prT; rw [bts_size]; simp only [List.length_nil]; omega
  | n + 1, i, hi => by
    have hp : 1 ≤ 2 ^ i := Nat.one_le_two_pow
    have hd : ∀ a, a < i → 2 * 2 ^ a ≤ 2 ^ i := fun a h => by
      have h2 : 2 ^ (a + 1) ≤ 2 ^ i := Nat.pow_le_pow_right (by omega) h
      rw [Nat.pow_succ] at h2; omega
    unfold prT
    by_cases a0 : (getT c i).1 = 0
    · rw [if_pos a0, bts_size]; simp only [List.length_cons, List.length_nil]; omega
    rw [if_neg a0]
    by_cases a4 : (getT c i).1 = 4
    · obtain ⟨a, e, ha⟩ := Shd_4 hc hi a4
      have h2 := hd a ha
      rw [if_pos a4, e, Int.toNat_natCast]
      by_cases hk : cmpK (getT c a).1 = true
      · rw [if_pos hk]
        have := cmpT_size hc (show a < List.length c by omega) hk true
        omega
      · rw [if_neg hk]
        have h1 := prT_size hc n a (by omega)
        have h3 := rdT_size (prT c n a) (jnK (getT c a).1)
        simp only [size_app, bts_size, List.length_cons, List.length_nil]; omega
    rw [if_neg a4]
    by_cases a5 : (getT c i).1 = 5
    · obtain ⟨a, b, e, e2, ha, hb⟩ := Shd_5 hc hi (.inl a5)
      have h2 := hd a ha
      have h2b := hd b hb
      rw [if_pos a5, e, e2, Int.toNat_natCast, Int.toNat_natCast]
      have h1 := prT_size hc n a (by omega)
      have h1b := prT_size hc n b (by omega)
      have h3 := rdT_size (prT c n a) (decide ((getT c a).1 = 6))
      have h3b := rdT_size (prT c n b) (jnK (getT c b).1)
      simp only [size_app, bts_size, List.length_cons, List.length_nil]; omega
    rw [if_neg a5]
    by_cases a6 : (getT c i).1 = 6
    · obtain ⟨a, b, e, e2, ha, hb⟩ := Shd_5 hc hi (.inr a6)
      have h2 := hd a ha
      have h2b := hd b hb
      rw [if_pos a6, e, e2, Int.toNat_natCast, Int.toNat_natCast]
      have h1 := prT_size hc n a (by omega)
      have h1b := prT_size hc n b (by omega)
      have h3b := rdT_size (prT c n b) (decide ((getT c b).1 = 6))
      simp only [size_app, bts_size, List.length_cons, List.length_nil]; omega
    rw [if_neg a6]
    have hk : cmpK (getT c i).1 = true := by rcases Shd_k hc hi with h | h | h | h | h <;> first | exact h | omega
    have := cmpT_size hc hi hk false
    omega
end Go.K
set_option linter.unusedVariables false
set_option linter.unusedSimpArgs false
set_option maxRecDepth 100000
namespace Go.K
open Go.Sl Go.Sx Go.Proofs
theorem peta {α β : Type} (p : α × β) : (p.1, p.2) = p := rfl
theorem opI {k : Int} (h : cmpK k = true) : getI [((bts [60]), (bts [62, 61])), ((bts [60, 61]), (bts [62])), ((bts [61]), (bts [33, 61]))] (w64 (k - (1 : Int))) = some (opT k false, opT k true) := by
  have h := of_decide_eq_true h
  have : k = 1 ∨ k = 2 ∨ k = 3 := by omega
  rcases this with e | e | e <;> subst e <;> rfl
theorem cmp_cats {t : Tm} {neg : Bool} (h : t.2.2.2.1.size ≤ 12 ∧ -1000000000000 ≤ t.2.2.2.2 ∧ t.2.2.2.2 ≤ 1000000000000) : catC t.2.2.2.1 (bts [32]) = some () ∧ catC (t.2.2.2.1 ++ bts [32]) (opT t.1 neg) = some () ∧ catC ((t.2.2.2.1 ++ bts [32]) ++ opT t.1 neg) (bts [32]) = some () ∧ catC (((t.2.2.2.1 ++ bts [32]) ++ opT t.1 neg) ++ bts [32]) (It t.2.2.2.2) = some () := by
  have := It_size h.2
  have := opT_size t.1 neg
  have := h.1
  refine ⟨catC_of ?_, catC_of ?_, catC_of ?_, catC_of ?_⟩ <;> simp only [size_app, bts_size, List.length_cons, List.length_nil] <;> omega
theorem G169_t {t : Tm} {neg : Bool} (hk : cmpK t.1 = true) (h : t.2.2.2.1.size ≤ 12 ∧ -1000000000000 ≤ t.2.2.2.2 ∧ t.2.2.2.2 ≤ 1000000000000) : G169 LF (t, neg) = some (cmpT t neg) := by
  have hc := fun neg => cmp_cats (t := t) (neg := neg) h
  unfold G169
  simp only [opI hk, Option.bind_some]
  cases neg with
  | true =>
    obtain ⟨c1, c2, c3, c4⟩ := hc true
    simp only [cond_true, c1, c2, c3, c4, Option.bind_some, G141_it LF LF (LFpos 16 (by omega) |> Nat.le_of_lt) h.2]
    rfl
  | false =>
    obtain ⟨c1, c2, c3, c4⟩ := hc false
    simp only [cond_false, c1, c2, c3, c4, Option.bind_some, G141_it LF LF (LFpos 16 (by omega) |> Nat.le_of_lt) h.2]
    rfl
theorem G171_j (t : Tm) : G171 LF t = some (jnK t.1) := by
  unfold G171 jnK
  by_cases h : t.1 = 5
  · simp only [h, decide_true, cond_true, true_or]
  · simp only [h, decide_false, cond_false, false_or]
theorem rd_cats {s : ByteArray} (h : s.size ≤ 1099511627776) : catC (bts [40, 32]) s = some () ∧ catC (bts [40, 32] ++ s) (bts [32, 41]) = some () := by
  refine ⟨catC_of ?_, catC_of ?_⟩ <;> simp only [size_app, bts_size, List.length_cons, List.length_nil] <;> omega
theorem G172_r {s : ByteArray} (b : Bool) (h : s.size ≤ 1099511627776) : G172 LF (s, b) = some (rdT s b) := by
  unfold G172 rdT
  obtain ⟨c1, c2⟩ := rd_cats h
  cases b with
  | true => simp only [cond_true, c1, c2, Option.bind_some]
  | false => simp only [cond_false]
theorem pr_small {c : Cnd} (hc : Shd c) (h30 : List.length c ≤ 30) (n : Nat) {i : Nat} (hi : i < List.length c) : (prT c n i).size ≤ 68719476736 := by
  have h1 := prT_size hc n i hi
  have h2 : 2 ^ i ≤ 2 ^ 30 := Nat.pow_le_pow_right (by omega) (by omega)
  have e : (2 : Nat) ^ 30 = 1073741824 := by decide
  omega
theorem cat_small {a b : ByteArray} (ha : a.size ≤ 1099511627776) (hb : b.size ≤ 1099511627776) : catC a b = some () := catC_of (by omega)
theorem G101_pr {c : Cnd} (hc : Shd c) (h30 : List.length c ≤ 30) : ∀ (n i : Nat), i < n → i < List.length c → G101 LF n (c, (i : Int)) = some (prT c n i)
  | 0, i, h, _ => by omega
  | n + 1, i, h, hi => by
    rw [G101.eq_2]
    unfold prT
    simp only [getT_I hi, Option.bind_some, peta, G171_j, G98_cmp]
    by_cases a0 : (getT c i).1 = 0
    · simp only [a0, decide_true, cond_true, if_true]
    simp only [a0, decide_false, cond_false, if_false]
    by_cases a4 : (getT c i).1 = 4
    · obtain ⟨a, e, ha⟩ := Shd_4 hc hi a4
      have hal : a < List.length c := by omega
      have ih := G101_pr hc h30 n a (by omega) hal
      have sm := pr_small hc h30 n hal
      have sr := rdT_size (prT c n a) (jnK (getT c a).1)
      simp only [a4, decide_true, cond_true, if_true, e, getT_I hal, Option.bind_some, Int.toNat_natCast]
      cases hk : cmpK (getT c a).1 with
      | true => simp only [cond_true, if_true, G169_t hk (Shd_c hc hal hk), Option.bind_some]
      | false =>
        have hb : (bts [110, 111, 116, 32]).size ≤ 1099511627776 := by rw [bts_size]; simp
        simp only [cond_false, Bool.false_eq_true, if_false, ih, Option.bind_some, G172_r (jnK (getT c a).1) (show (prT c n a).size ≤ 1099511627776 by omega), cat_small hb (show (rdT (prT c n a) (jnK (getT c a).1)).size ≤ 1099511627776 by omega)]
    simp only [a4, decide_false, cond_false, if_false]
    by_cases a5 : (getT c i).1 = 5
    · obtain ⟨a, b, e, e2, ha, hb⟩ := Shd_5 hc hi (.inl a5)
      have hal : a < List.length c := by omega
      have hbl : b < List.length c := by omega
      have iha := G101_pr hc h30 n a (by omega) hal
      have ihb := G101_pr hc h30 n b (by omega) hbl
      have sma := pr_small hc h30 n hal
      have smb := pr_small hc h30 n hbl
      have sra := rdT_size (prT c n a) (decide ((getT c a).1 = 6))
      have srb := rdT_size (prT c n b) (jnK (getT c b).1)
      have hw : (bts [32, 97, 110, 100, 32]).size = 5 := by rw [bts_size]; rfl
      have hx : (rdT (prT c n a) (decide ((getT c a).1 = 6)) ++ bts [32, 97, 110, 100, 32]).size ≤ 1099511627776 := by rw [size_app, hw]; omega
      simp only [a5, decide_true, cond_true, if_true, e, e2, getT_I hal, getT_I hbl, Option.bind_some, Int.toNat_natCast, iha, ihb,
        G172_r (decide ((getT c a).1 = 6)) (show (prT c n a).size ≤ 1099511627776 by omega), G172_r (jnK (getT c b).1) (show (prT c n b).size ≤ 1099511627776 by omega),
        cat_small (show (rdT (prT c n a) (decide ((getT c a).1 = 6))).size ≤ 1099511627776 by omega) (show (bts [32, 97, 110, 100, 32]).size ≤ 1099511627776 by omega),
        cat_small hx (show (rdT (prT c n b) (jnK (getT c b).1)).size ≤ 1099511627776 by omega)]
    simp only [a5, decide_false, cond_false, if_false]
    by_cases a6 : (getT c i).1 = 6
    · obtain ⟨a, b, e, e2, ha, hb⟩ := Shd_5 hc hi (.inr a6)
      have hal : a < List.length c := by omega
      have hbl : b < List.length c := by omega
      have iha := G101_pr hc h30 n a (by omega) hal
      have ihb := G101_pr hc h30 n b (by omega) hbl
      have sma := pr_small hc h30 n hal
      have smb := pr_small hc h30 n hbl
      have srb := rdT_size (prT c n b) (decide ((getT c b).1 = 6))
      have hw : (bts [32, 111, 114, 32]).size = 4 := by rw [bts_size]; rfl
      have hx : (prT c n a ++ bts [32, 111, 114, 32]).size ≤ 1099511627776 := by rw [size_app, hw]; omega
      simp only [a6, decide_true, cond_true, if_true, e, e2, getT_I hal, getT_I hbl, Option.bind_some, Int.toNat_natCast, iha, ihb,
        G172_r (decide ((getT c b).1 = 6)) (show (prT c n b).size ≤ 1099511627776 by omega),
        cat_small (show (prT c n a).size ≤ 1099511627776 by omega) (show (bts [32, 111, 114, 32]).size ≤ 1099511627776 by omega),
        cat_small hx (show (rdT (prT c n b) (decide ((getT c b).1 = 6))).size ≤ 1099511627776 by omega)]
    simp only [a6, decide_false, cond_false, if_false]
    have hk : cmpK (getT c i).1 = true := by rcases Shd_k hc hi with h | h | h | h | h <;> first | exact h | omega
    simp only [G169_t hk (Shd_c hc hi hk), Option.bind_some]
abbrev P3 := ByteArray × (Int × Bool)
def pcsT (c : Cnd) (i : Nat) : List P3 :=
  if (getT c i).1 = 0 then [(bts [116, 114, 117, 101], (0, false))]
  else if (getT c i).1 = 4 then
    (if cmpK (getT c (getT c i).2.1.toNat).1 = true then [(cmpT (getT c (getT c i).2.1.toNat) true, (0, false))]
     else [(bts [110, 111, 116], (0, false)), (bts [], ((getT c i).2.1, jnK (getT c (getT c i).2.1.toNat).1))])
  else if (getT c i).1 = 5 then [(bts [], ((getT c i).2.1, decide ((getT c (getT c i).2.1.toNat).1 = 6))), (bts [97, 110, 100], (0, false)), (bts [], ((getT c i).2.2.1, jnK (getT c (getT c i).2.2.1.toNat).1))]
  else if (getT c i).1 = 6 then [(bts [], ((getT c i).2.1, false)), (bts [111, 114], (0, false)), (bts [], ((getT c i).2.2.1, decide ((getT c (getT c i).2.2.1.toNat).1 = 6)))]
  else [(cmpT (getT c i) false, (0, false))]
theorem G246_op {k : Int} (neg : Bool) (h : cmpK k = true) : G246 LF (k, neg) = some (opT k neg) := by
  have h := of_decide_eq_true h
  have : k = 1 ∨ k = 2 ∨ k = 3 := by omega
  rcases this with e | e | e <;> subst e <;> cases neg <;> rfl
theorem G220_t {c : Cnd} {i : Nat} (hi : i < List.length c) {neg : Bool} (hk : cmpK (getT c i).1 = true) (h : (getT c i).2.2.2.1.size ≤ 12 ∧ -1000000000000 ≤ (getT c i).2.2.2.2 ∧ (getT c i).2.2.2.2 ≤ 1000000000000) : G220 LF (c, ((i : Int), neg)) = some (cmpT (getT c i) neg) := by
  unfold G220
  obtain ⟨c1, c2, c3, c4⟩ := cmp_cats (t := getT c i) (neg := neg) h
  simp only [getT_I hi, Option.bind_some, G246_op neg hk, c1, c2, c3, c4, itoaC_it h.2]
  rfl
theorem G167_k {c : Cnd} {i : Nat} (hi : i < List.length c) : G167 LF (c, (i : Int)) = some (getT c i).1 := by
  unfold G167
  simp only [getT_I hi, Option.bind_some]
theorem G166_pcs {c : Cnd} (hc : Shd c) {i : Nat} (hi : i < List.length c) : G166 LF (c, (i : Int)) = some (pcsT c i) := by
  unfold G166 pcsT
  simp only [getT_I hi, Option.bind_some]
  by_cases a0 : (getT c i).1 = 0
  · simp only [a0, decide_true, cond_true, if_true]
  simp only [a0, decide_false, cond_false, if_false]
  by_cases a4 : (getT c i).1 = 4
  · obtain ⟨a, e, ha⟩ := Shd_4 hc hi a4
    have hal : a < List.length c := by omega
    simp only [a4, decide_true, cond_true, if_true, e, G167_k hal, Option.bind_some, Int.toNat_natCast, G93_cmp]
    cases hk : cmpK (getT c a).1 with
    | true => simp only [cond_true, if_true, G220_t hal hk (Shd_c hc hal hk), Option.bind_some]
    | false =>
      simp only [cond_false, Bool.false_eq_true, if_false, jnK]
      by_cases h5 : (getT c a).1 = 5
      · simp only [h5, decide_true, cond_true, true_or]
      · simp only [h5, decide_false, cond_false, false_or]
  simp only [a4, decide_false, cond_false, if_false]
  by_cases a5 : (getT c i).1 = 5
  · obtain ⟨a, b, e, e2, ha, hb⟩ := Shd_5 hc hi (.inl a5)
    have hal : a < List.length c := by omega
    have hbl : b < List.length c := by omega
    simp only [a5, decide_true, cond_true, if_true, e, e2, G167_k hal, G167_k hbl, Option.bind_some, Int.toNat_natCast, jnK]
    by_cases h5 : (getT c b).1 = 5
    · simp only [h5, decide_true, cond_true, true_or]
    · simp only [h5, decide_false, cond_false, false_or]
  simp only [a5, decide_false, cond_false, if_false]
  by_cases a6 : (getT c i).1 = 6
  · obtain ⟨a, b, e, e2, ha, hb⟩ := Shd_5 hc hi (.inr a6)
    have hbl : b < List.length c := by omega
    simp only [a6, decide_true, cond_true, if_true, e, e2, G167_k hbl, Option.bind_some, Int.toNat_natCast]
  simp only [a6, decide_false, cond_false, if_false]
  have hk : cmpK (getT c i).1 = true := by rcases Shd_k hc hi with h | h | h | h | h <;> first | exact h | omega
  simp only [G220_t hi hk (Shd_c hc hi hk), Option.bind_some]
end Go.K
set_option linter.unusedVariables false
set_option linter.unusedSimpArgs false
set_option maxRecDepth 100000
namespace Go.K
open Go.Sl Go.Sx Go.Proofs
theorem ne_empty {s : ByteArray} (h : 0 < s.size) : (s.data.toList == ([] : List UInt8)) = false := by
  rw [size_len] at h
  cases e : s.data.toList with
  | nil => rw [e] at h; simp at h
  | cons a l => rfl
theorem cmpT_ne (t : Tm) (neg : Bool) : ((cmpT t neg).data.toList == ([] : List UInt8)) = false := by
  apply ne_empty
  unfold cmpT
  simp only [size_app, bts_size, List.length_cons, List.length_nil]; omega
theorem pcs_mem {c : Cnd} (hc : Shd c) {i : Nat} (hi : i < List.length c) : ∀ p ∈ pcsT c i, (p.1.data.toList == ([] : List UInt8)) = false ∨ ((p.1.data.toList == ([] : List UInt8)) = true ∧ ∃ a : Nat, p.2.1 = (a : Int) ∧ a < i) := by
  intro p hp
  unfold pcsT at hp
  by_cases a0 : (getT c i).1 = 0
  · rw [if_pos a0] at hp
    rcases List.mem_singleton.1 hp with rfl
    exact .inl rfl
  rw [if_neg a0] at hp
  by_cases a4 : (getT c i).1 = 4
  · obtain ⟨a, e, ha⟩ := Shd_4 hc hi a4
    rw [if_pos a4, e] at hp
    split at hp
    · rcases List.mem_singleton.1 hp with rfl
      exact .inl (cmpT_ne _ _)
    · rcases List.mem_cons.1 hp with rfl | hp
      · exact .inl rfl
      · rcases List.mem_singleton.1 hp with rfl
        exact .inr ⟨rfl, a, rfl, ha⟩
  rw [if_neg a4] at hp
  by_cases a5 : (getT c i).1 = 5
  · obtain ⟨a, b, e, e2, ha, hb⟩ := Shd_5 hc hi (.inl a5)
    rw [if_pos a5, e, e2] at hp
    rcases List.mem_cons.1 hp with rfl | hp
    · exact .inr ⟨rfl, a, rfl, ha⟩
    · rcases List.mem_cons.1 hp with rfl | hp
      · exact .inl rfl
      · rcases List.mem_singleton.1 hp with rfl
        exact .inr ⟨rfl, b, rfl, hb⟩
  rw [if_neg a5] at hp
  by_cases a6 : (getT c i).1 = 6
  · obtain ⟨a, b, e, e2, ha, hb⟩ := Shd_5 hc hi (.inr a6)
    rw [if_pos a6, e, e2] at hp
    rcases List.mem_cons.1 hp with rfl | hp
    · exact .inr ⟨rfl, a, rfl, ha⟩
    · rcases List.mem_cons.1 hp with rfl | hp
      · exact .inl rfl
      · rcases List.mem_singleton.1 hp with rfl
        exact .inr ⟨rfl, b, rfl, hb⟩
  rw [if_neg a6] at hp
  rcases List.mem_singleton.1 hp with rfl
  exact .inl (cmpT_ne _ _)
theorem pcs_len (c : Cnd) (i : Nat) : (pcsT c i).length ≤ 3 := by
  unfold pcsT
  split
  · simp
  · split
    · split <;> simp
    · split
      · simp
      · split <;> simp
theorem join1 {a : ByteArray} (h : a.size ≤ 274877906944) : joinC (bts [32]) [a] = some a := by
  unfold joinC
  rw [if_pos (by simp only [List.foldl, bts_size, List.length_cons, List.length_nil]; omega)]; rfl
theorem join2 {a b : ByteArray} (h : a.size ≤ 274877906944) (h2 : b.size ≤ 274877906944) : joinC (bts [32]) [a, b] = some (a ++ bts [32] ++ b) := by
  unfold joinC
  rw [if_pos (by simp only [List.foldl, bts_size, List.length_cons, List.length_nil]; omega)]; rfl
theorem join3 {a b d : ByteArray} (h : a.size ≤ 274877906944) (h2 : b.size ≤ 274877906944) (h3 : d.size ≤ 274877906944) : joinC (bts [32]) [a, b, d] = some (a ++ bts [32] ++ b ++ bts [32] ++ d) := by
  unfold joinC
  rw [if_pos (by simp only [List.foldl, bts_size, List.length_cons, List.length_nil]; omega)]; rfl
theorem word_not : bts [110, 111, 116] ++ bts [32] = bts [110, 111, 116, 32] := ext_data (by rw [app_data]; rfl)
theorem word_and (x : ByteArray) : x ++ bts [32] ++ bts [97, 110, 100] ++ bts [32] = x ++ bts [32, 97, 110, 100, 32] := by
  apply ext_data; simp only [app_data, List.append_assoc]; rfl
theorem word_or (x : ByteArray) : x ++ bts [32] ++ bts [111, 114] ++ bts [32] = x ++ bts [32, 111, 114, 32] := by
  apply ext_data; simp only [app_data, List.append_assoc]; rfl
def vP (c : Cnd) (n : Nat) (p : P3) : ByteArray := bif p.1.data.toList == ([] : List UInt8) then rdT (prT c n p.2.1.toNat) p.2.2 else p.1
theorem G96_pr {c : Cnd} (hc : Shd c) (h30 : List.length c ≤ 30) : ∀ (n i : Nat), i < n → i < List.length c → G96 LF n (c, (i : Int)) = some (prT c n i)
  | 0, i, h, _ => by omega
  | n + 1, i, h, hi => by
    rw [G96.eq_2]
    have hlen := pcs_len c i
    simp only [G166_pcs hc hi, Option.bind_some]
    refine (iter_app (fun k a => (a, k)) (fun p => [vP c n p]) (pcsT c i) (fun a => (joinC (bts [32]) a).bind fun r24 => some r24) 1 (fun _ _ => by simp) [] ?_ ?_ (by show (pcsT c i).length < 9223372036854775808; omega)).trans ?_
    · intro k p a hp ha hk
      have hm := pcs_mem hc hi p (List.mem_of_getElem? hp)
      have hab : List.length a ≤ 100 := by simp only [List.length_nil] at ha; omega
      have happ : ∀ v : ByteArray, appC a [v] = some (a ++ [v]) := fun v => appC_of (by simp; omega)
      simp only [dlt hk, cond_true, getI_nat hp, Option.bind_some, succ_W (show k + 1 < 9223372036854775808 by omega)]
      unfold vP
      rcases hm with e | ⟨e, b, e2, hb⟩
      · simp only [e, Bool.not_false, cond_true, cond_false, happ, Option.bind_some]
      · have ih := G96_pr hc h30 n b (by omega) (by omega)
        have hs := pr_small hc h30 n (show b < List.length c by omega)
        obtain ⟨c1, c2⟩ := rd_cats (show (prT c n b).size ≤ 1099511627776 by omega)
        simp only [e, Bool.not_true, cond_false, cond_true, e2, ih, Option.bind_some, Int.toNat_natCast, rdT]
        cases p.2.2 with
        | true => simp only [cond_true, c1, c2, happ, Option.bind_some]
        | false => simp only [cond_false, happ, Option.bind_some]
    · intro a _
      simp only [dnlt, cond_false]
    · rw [List.nil_append]
      have hfm : ∀ l : List P3, l.flatMap (fun p => [vP c n p]) = l.map (vP c n) := fun l => by
        induction l with
        | nil => rfl
        | cons x l ih => rw [List.flatMap_cons, ih]; rfl
      rw [hfm]
      have hbind : ∀ o : Option ByteArray, (o.bind fun r24 => some r24) = o := fun o => by cases o <;> rfl
      rw [hbind]
      unfold pcsT prT
      by_cases a0 : (getT c i).1 = 0
      · rw [if_pos a0, if_pos a0]
        exact join1 (a := bts [116, 114, 117, 101]) (by rw [bts_size]; simp)
      rw [if_neg a0, if_neg a0]
      have hk3 : (bts [97, 110, 100]).size ≤ 274877906944 := by rw [bts_size]; simp
      have hk2 : (bts [111, 114]).size ≤ 274877906944 := by rw [bts_size]; simp
      have hkn : (bts [110, 111, 116]).size ≤ 274877906944 := by rw [bts_size]; simp
      have hrd : ∀ (a : Nat) (b : Bool), a < List.length c → (rdT (prT c n a) b).size ≤ 274877906944 := fun a b h => by
        have := rdT_size (prT c n a) b
        have := pr_small hc h30 n h
        omega
      have hcv : ∀ (t : Tm) (neg : Bool), vP c n (cmpT t neg, (0, false)) = cmpT t neg := fun t neg => by unfold vP; simp only [cmpT_ne, cond_false]
      by_cases a4 : (getT c i).1 = 4
      · obtain ⟨a, e, ha⟩ := Shd_4 hc hi a4
        rw [if_pos a4, if_pos a4, e, Int.toNat_natCast]
        by_cases hk : cmpK (getT c a).1 = true
        · rw [if_pos hk, if_pos hk]
          have := cmpT_size hc (show a < List.length c by omega) hk true
          refine (congrArg (fun z => joinC (bts [32]) [z]) (hcv _ _)).trans (join1 (by omega))
        · rw [if_neg hk, if_neg hk]
          refine (join2 hkn (hrd a (jnK (getT c a).1) (by omega))).trans ?_
          rw [word_not]
      rw [if_neg a4, if_neg a4]
      by_cases a5 : (getT c i).1 = 5
      · obtain ⟨a, b, e, e2, ha, hb⟩ := Shd_5 hc hi (.inl a5)
        rw [if_pos a5, if_pos a5, e, e2, Int.toNat_natCast, Int.toNat_natCast]
        refine (join3 (hrd a (decide ((getT c a).1 = 6)) (by omega)) hk3 (hrd b (jnK (getT c b).1) (by omega))).trans ?_
        rw [word_and]
      rw [if_neg a5, if_neg a5]
      by_cases a6 : (getT c i).1 = 6
      · obtain ⟨a, b, e, e2, ha, hb⟩ := Shd_5 hc hi (.inr a6)
        rw [if_pos a6, if_pos a6, e, e2, Int.toNat_natCast, Int.toNat_natCast]
        refine (join3 (hrd a false (by omega)) hk2 (hrd b (decide ((getT c b).1 = 6)) (by omega))).trans ?_
        rw [word_or]; rfl
      rw [if_neg a6, if_neg a6]
      have hk : cmpK (getT c i).1 = true := by rcases Shd_k hc hi with h | h | h | h | h <;> first | exact h | omega
      have := cmpT_size hc hi hk false
      exact (congrArg (fun z => joinC (bts [32]) [z]) (hcv _ _)).trans (join1 (by omega))
end Go.K
set_option linter.unusedVariables false
set_option linter.unusedSimpArgs false
set_option maxRecDepth 100000
namespace Go.K
open Go.Sl Go.Sx Go.Proofs
abbrev Sz3 := Int × (Int × Int)
def rdS (s : Sz3) (b : Bool) : Sz3 := bif b then (s.1 + 4, (s.2.1 + 1, s.2.2)) else s
def mx (a b : Int) : Int := if b > a then b else a
def two (w : Int) (x y : Sz3) : Sz3 := (x.1 + w + y.1, (mx x.2.1 y.2.1, x.2.2 + y.2.2 + 1))
def capS (r : Sz3) : Sz3 := (if 8001 < r.1 then 8001 else r.1, (r.2.1, if 31 < r.2.2 then 31 else r.2.2))
def getS (out : List Sz3) (a : Nat) : Sz3 := out.getD a (0, (0, 0))
def szR (c : Cnd) (out : List Sz3) (i : Nat) : Sz3 :=
  if cmpK (getT c i).1 = true then (((cmpT (getT c i) false).size : Int), (0, 1))
  else if (getT c i).1 = 4 then
    (if cmpK (getT c (getT c i).2.1.toNat).1 = true then (((cmpT (getT c (getT c i).2.1.toNat) true).size : Int), (0, 2))
     else ((rdS (getS out (getT c i).2.1.toNat) (jnK (getT c (getT c i).2.1.toNat).1)).1 + 4, ((rdS (getS out (getT c i).2.1.toNat) (jnK (getT c (getT c i).2.1.toNat).1)).2.1 + 1, (rdS (getS out (getT c i).2.1.toNat) (jnK (getT c (getT c i).2.1.toNat).1)).2.2 + 1)))
  else if (getT c i).1 = 5 then two 5 (rdS (getS out (getT c i).2.1.toNat) (decide ((getT c (getT c i).2.1.toNat).1 = 6))) (rdS (getS out (getT c i).2.2.1.toNat) (jnK (getT c (getT c i).2.2.1.toNat).1))
  else if (getT c i).1 = 6 then two 4 (rdS (getS out (getT c i).2.1.toNat) false) (rdS (getS out (getT c i).2.2.1.toNat) (decide ((getT c (getT c i).2.2.1.toNat).1 = 6)))
  else (4, (0, 1))
def szL (c : Cnd) : Nat → List Sz3
  | 0 => []
  | i + 1 => szL c i ++ [capS (szR c (szL c i) i)]
def OkS (i : Nat) (s : Sz3) : Prop := 0 ≤ s.1 ∧ s.1 ≤ 8001 ∧ 0 ≤ s.2.1 ∧ s.2.1 ≤ 2 * (i + 1) ∧ 0 ≤ s.2.2 ∧ s.2.2 ≤ 31
theorem szL_len (c : Cnd) : ∀ i, (szL c i).length = i
  | 0 => rfl
  | i + 1 => by unfold szL; rw [List.length_append, szL_len c i]; rfl
theorem getS_I {c : Cnd} {i a : Nat} (h : a < i) : getI (szL c i) (a : Int) = some (getS (szL c i) a) := by
  refine getI_nat ?_
  have hl := szL_len c i
  unfold getS
  rw [List.getD_eq_getElem?_getD, List.getElem?_eq_getElem (by omega)]; rfl
theorem rdS_ok {s : Sz3} {a : Nat} (b : Bool) (h : OkS a s) : 0 ≤ (rdS s b).1 ∧ (rdS s b).1 ≤ 8005 ∧ 0 ≤ (rdS s b).2.1 ∧ (rdS s b).2.1 ≤ 2 * (a + 1) + 1 ∧ 0 ≤ (rdS s b).2.2 ∧ (rdS s b).2.2 ≤ 31 := by
  obtain ⟨h1, h2, h3, h4, h5, h6⟩ := h
  unfold rdS
  cases b <;> simp only [cond_true, cond_false] <;> omega
theorem capS_ok {s : Sz3} {a : Nat} (h1 : 0 ≤ s.1) (h2 : 0 ≤ s.2.1 ∧ s.2.1 ≤ 2 * (a + 1)) (h3 : 0 ≤ s.2.2) : OkS a (capS s) := by
  unfold OkS capS
  refine ⟨?_, ?_, h2.1, h2.2, ?_, ?_⟩ <;> simp only <;> split <;> omega
theorem szR_ok {c : Cnd} (hc : Shd c) {i : Nat} (hi : i < List.length c) {out : List Sz3} (ho : ∀ a, a < i → OkS a (getS out a)) : 0 ≤ (szR c out i).1 ∧ (0 ≤ (szR c out i).2.1 ∧ (szR c out i).2.1 ≤ 2 * (i + 1)) ∧ 0 ≤ (szR c out i).2.2 := by
  unfold szR
  by_cases hk : cmpK (getT c i).1 = true
  · rw [if_pos hk]; exact ⟨by simp only; omega, ⟨by simp only; omega, by simp only; omega⟩, by simp only; omega⟩
  rw [if_neg hk]
  by_cases a4 : (getT c i).1 = 4
  · obtain ⟨a, e, ha⟩ := Shd_4 hc hi a4
    rw [if_pos a4, e, Int.toNat_natCast]
    by_cases hk2 : cmpK (getT c a).1 = true
    · rw [if_pos hk2]; exact ⟨by simp only; omega, ⟨by simp only; omega, by simp only; omega⟩, by simp only; omega⟩
    · rw [if_neg hk2]
      obtain ⟨h1, h2, h3, h4, h5, h6⟩ := rdS_ok (jnK (getT c a).1) (ho a ha)
      exact ⟨by simp only; omega, ⟨by simp only; omega, by simp only; omega⟩, by simp only; omega⟩
  rw [if_neg a4]
  by_cases a5 : (getT c i).1 = 5
  · obtain ⟨a, b, e, e2, ha, hb⟩ := Shd_5 hc hi (.inl a5)
    rw [if_pos a5, e, e2, Int.toNat_natCast, Int.toNat_natCast]
    obtain ⟨h1, h2, h3, h4, h5, h6⟩ := rdS_ok (decide ((getT c a).1 = 6)) (ho a ha)
    obtain ⟨k1, k2, k3, k4, k5, k6⟩ := rdS_ok (jnK (getT c b).1) (ho b hb)
    unfold two mx
    refine ⟨by simp only; omega, ⟨?_, ?_⟩, by simp only; omega⟩ <;> simp only <;> split <;> omega
  rw [if_neg a5]
  by_cases a6 : (getT c i).1 = 6
  · obtain ⟨a, b, e, e2, ha, hb⟩ := Shd_5 hc hi (.inr a6)
    rw [if_pos a6, e, e2, Int.toNat_natCast, Int.toNat_natCast]
    obtain ⟨h1, h2, h3, h4, h5, h6⟩ := rdS_ok false (ho a ha)
    obtain ⟨k1, k2, k3, k4, k5, k6⟩ := rdS_ok (decide ((getT c b).1 = 6)) (ho b hb)
    unfold two mx
    refine ⟨by simp only; omega, ⟨?_, ?_⟩, by simp only; omega⟩ <;> simp only <;> split <;> omega
  rw [if_neg a6]
  exact ⟨by simp only; omega, ⟨by simp only; omega, by simp only; omega⟩, by simp only; omega⟩
theorem szL_ok {c : Cnd} (hc : Shd c) : ∀ i, i ≤ List.length c → ∀ a, a < i → OkS a (getS (szL c i) a)
  | 0, _, a, h => by omega
  | i + 1, hi, a, h => by
    have hl := szL_len c i
    have ih := szL_ok hc i (by omega)
    by_cases e : a < i
    · have := ih a e
      unfold getS at this ⊢
      unfold szL
      rw [List.getD_eq_getElem?_getD, List.getElem?_append_left (by omega)]
      rwa [List.getD_eq_getElem?_getD] at this
    · have ea : a = i := by omega
      subst ea
      have hr := szR_ok hc (show a < List.length c by omega) ih
      unfold getS szL
      rw [List.getD_eq_getElem?_getD, List.getElem?_append_right (by omega), hl, Nat.sub_self]
      exact capS_ok hr.1 hr.2.1 hr.2.2
theorem iter_cnt {α ρ : Type} {f : α → Option (α ⊕ ρ)} (mk : Nat → α) (r : ρ) (N : Nat) (h1 : ∀ i, i < N → f (mk i) = some (.inl (mk (i + 1)))) (h2 : f (mk N) = some (.inr r)) : ∀ (m k lf : Nat), N = k + m → m < lf → iter lf f (mk k) = some r
  | 0, k, 0, _, h => by omega
  | m + 1, k, 0, _, h => by omega
  | 0, k, lf + 1, e, _ => by
    have : k = N := by omega
    subst this
    simp only [iter, h2]
  | m + 1, k, lf + 1, e, h => by
    simp only [iter, h1 k (by omega)]
    exact iter_cnt mk r N h1 h2 m (k + 1) lf (by omega) (by omega)
theorem cmp3 {ρ : Type} (k : Int) : (cond (decide (k = (1 : Int))) (some (.inl (decide (k = (1 : Int))))) (cond (decide (k = (2 : Int))) (some (.inl (decide (k = (2 : Int))))) (some (.inl (decide (k = (3 : Int)))))) : Option (Bool ⊕ ρ)) = some (.inl (cmpK k)) := by
  unfold cmpK
  by_cases h1 : k = 1
  · subst h1; rfl
  · by_cases h2 : k = 2
    · subst h2; rfl
    · by_cases h3 : k = 3
      · subst h3; rfl
      · simp only [h1, h2, h3, decide_false, cond_false]
        rw [decide_eq_false (by omega)]
theorem jn2 {ρ : Type} (k : Int) : (cond (decide (k = (5 : Int))) (some (.inl (decide (k = (5 : Int))))) (some (.inl (decide (k = (6 : Int))))) : Option (Bool ⊕ ρ)) = some (.inl (jnK k)) := by
  unfold jnK
  by_cases h : k = 5
  · simp only [h, decide_true, cond_true, true_or]
  · simp only [h, decide_false, cond_false, false_or]
theorem G170_r {s : Sz3} (b : Bool) {a : Nat} (h : OkS a s) (ha : a ≤ 1000) : G170 LF (s, b) = some (rdS s b) := by
  obtain ⟨h1, h2, h3, h4, h5, h6⟩ := h
  unfold G170 rdS
  cases b with
  | true =>
    have e1 : w64 (s.1 + 4) = s.1 + 4 := w64_id (by omega) (by omega)
    have e2 : w64 (s.2.1 + 1) = s.2.1 + 1 := w64_id (by omega) (by omega)
    simp only [cond_true, e1, e2]
  | false => rfl
theorem appS {out : List Sz3} {s : Sz3} (h : out.length ≤ 100000) : appC (out : List (Int × (Int × Int))) [s] = some (out ++ [s]) := appC_of (by simp; omega)
theorem G100_sz {c : Cnd} (hc : Shd c) (h30 : List.length c ≤ 30) : G100 LF c = some (szL c (List.length c)) := by
  unfold G100
  refine iter_cnt (fun i => (szL c i, (i : Int))) _ (List.length c) ?_ ?_ (List.length c) 0 LF (by omega) (by show List.length c < 9223372036854775808; omega)
  · intro i hi
    have hok := szL_ok hc i (by omega)
    have hlen := szL_len c i
    have happ := fun s => appS (out := szL c i) (s := s) (by omega)
    simp only [dlt hi, cond_true, getT_I hi, Option.bind_some, peta, cmp3, jl, G98_cmp, G171_j]
    have key : ∀ {ρ : Type} (o : Option (Sz3 ⊕ ρ)) (K : Sz3 → Option ρ), o = some (.inl (szR c (szL c i) i)) → jn o K = K (szR c (szL c i) i) := fun o K e => by rw [e]; rfl
    refine (key _ _ ?_).trans ?_
    · unfold szR
      cases hk : cmpK (getT c i).1 with
      | true => simp only [cond_true, if_true, G169_t hk (Shd_c hc hi hk), Option.bind_some]
      | false =>
        simp only [cond_false, Bool.false_eq_true, if_false]
        by_cases a4 : (getT c i).1 = 4
        · obtain ⟨a, e, ha⟩ := Shd_4 hc hi a4
          have hal : a < List.length c := by omega
          simp only [decide_eq_true a4, cond_true, if_pos a4, e, getT_I hal, Option.bind_some, Int.toNat_natCast]
          cases hk2 : cmpK (getT c a).1 with
          | true => simp only [cond_true, if_true, G169_t hk2 (Shd_c hc hal hk2), Option.bind_some]
          | false =>
            obtain ⟨h1, h2, h3, h4, h5, h6⟩ := rdS_ok (jnK (getT c a).1) (hok a ha)
            simp only [cond_false, Bool.false_eq_true, if_false, getS_I ha, Option.bind_some, G170_r (jnK (getT c a).1) (hok a ha) (by omega),
              w64_id (show -9223372036854775808 ≤ (rdS (getS (szL c i) a) (jnK (getT c a).1)).1 + 4 by omega) (by omega),
              w64_id (show -9223372036854775808 ≤ (rdS (getS (szL c i) a) (jnK (getT c a).1)).2.1 + 1 by omega) (by omega),
              w64_id (show -9223372036854775808 ≤ (rdS (getS (szL c i) a) (jnK (getT c a).1)).2.2 + 1 by omega) (by omega)]
        simp only [decide_eq_false a4, cond_false, if_neg a4, jn2, jl]
        by_cases a5 : (getT c i).1 = 5
        · obtain ⟨a, b, e, e2, ha, hb⟩ := Shd_5 hc hi (.inl a5)
          have hal : a < List.length c := by omega
          have hbl : b < List.length c := by omega
          have n6 : ¬ (getT c i).1 = 6 := by omega
          have ej : jnK (getT c i).1 = true := decide_eq_true (.inl a5)
          obtain ⟨h1, h2, h3, h4, h5, h6⟩ := rdS_ok (decide ((getT c a).1 = 6)) (hok a ha)
          obtain ⟨k1, k2, k3, k4, k5, k6⟩ := rdS_ok (jnK (getT c b).1) (hok b hb)
          have w1 := w64_id (show -9223372036854775808 ≤ (rdS (getS (szL c i) a) (decide ((getT c a).1 = 6))).1 + 5 by omega) (by omega)
          have w2 := w64_id (show -9223372036854775808 ≤ (rdS (getS (szL c i) a) (decide ((getT c a).1 = 6))).1 + 5 + (rdS (getS (szL c i) b) (jnK (getT c b).1)).1 by omega) (by omega)
          have w3 := w64_id (show -9223372036854775808 ≤ (rdS (getS (szL c i) a) (decide ((getT c a).1 = 6))).2.2 + (rdS (getS (szL c i) b) (jnK (getT c b).1)).2.2 by omega) (by omega)
          have w4 := w64_id (show -9223372036854775808 ≤ (rdS (getS (szL c i) a) (decide ((getT c a).1 = 6))).2.2 + (rdS (getS (szL c i) b) (jnK (getT c b).1)).2.2 + 1 by omega) (by omega)
          simp only [ej, cond_true, e, e2, getT_I hal, getT_I hbl, getS_I ha, getS_I hb, Option.bind_some, Int.toNat_natCast, decide_eq_true a5, decide_eq_false n6, cond_false, if_pos a5, jl,
            G170_r (decide ((getT c a).1 = 6)) (hok a ha) (by omega)]
          cases hj : jnK (getT c b).1 with
          | true =>
            rw [hj] at w2 w3 w4
            simp only [cond_true, G170_r true (hok b hb) (by omega), Option.bind_some, jl, w1, w2, w3, w4]
            rfl
          | false =>
            have hj6 : ¬ (getT c b).1 = 6 := fun h => by have := of_decide_eq_false hj; exact this (.inr h)
            rw [hj] at w2 w3 w4
            simp only [cond_false, decide_eq_false hj6, G170_r false (hok b hb) (by omega), Option.bind_some, jl, w1, w2, w3, w4]
            rfl
        simp only [decide_eq_false a5, cond_false, if_neg a5]
        by_cases a6 : (getT c i).1 = 6
        · obtain ⟨a, b, e, e2, ha, hb⟩ := Shd_5 hc hi (.inr a6)
          have hal : a < List.length c := by omega
          have hbl : b < List.length c := by omega
          have ej : jnK (getT c i).1 = true := decide_eq_true (.inr a6)
          obtain ⟨h1, h2, h3, h4, h5, h6⟩ := rdS_ok false (hok a ha)
          obtain ⟨k1, k2, k3, k4, k5, k6⟩ := rdS_ok (decide ((getT c b).1 = 6)) (hok b hb)
          have w1 := w64_id (show -9223372036854775808 ≤ (rdS (getS (szL c i) a) false).1 + 4 by omega) (by omega)
          have w2 := w64_id (show -9223372036854775808 ≤ (rdS (getS (szL c i) a) false).1 + 4 + (rdS (getS (szL c i) b) (decide ((getT c b).1 = 6))).1 by omega) (by omega)
          have w3 := w64_id (show -9223372036854775808 ≤ (rdS (getS (szL c i) a) false).2.2 + (rdS (getS (szL c i) b) (decide ((getT c b).1 = 6))).2.2 by omega) (by omega)
          have w4 := w64_id (show -9223372036854775808 ≤ (rdS (getS (szL c i) a) false).2.2 + (rdS (getS (szL c i) b) (decide ((getT c b).1 = 6))).2.2 + 1 by omega) (by omega)
          simp only [ej, cond_true, e, e2, getT_I hal, getT_I hbl, getS_I ha, getS_I hb, Option.bind_some, Int.toNat_natCast, decide_eq_true a6, if_pos a6, jl,
            G170_r false (hok a ha) (by omega), G170_r (decide ((getT c b).1 = 6)) (hok b hb) (by omega), w1, w2, w3, w4]
          rfl
        have ej : jnK (getT c i).1 = false := decide_eq_false (by omega)
        simp only [ej, cond_false, if_neg a6]
    · refine (congrArg (fun z => Option.bind z _) (happ (capS (szR c (szL c i) i)))).trans ?_
      simp only [Option.bind_some, succ_W (show i + 1 < 9223372036854775808 by omega)]
      rfl
  · simp only [dnlt, cond_false]
end Go.K
set_option linter.unusedVariables false
set_option linter.unusedSimpArgs false
set_option maxRecDepth 100000
namespace Go.K
open Go.Sl Go.Sx Go.Proofs
theorem pcs_sz {c : Cnd} (hc : Shd c) {i : Nat} (hi : i < List.length c) : ∀ p ∈ pcsT c i, p.1.size ≤ 30 := by
  intro p hp
  unfold pcsT at hp
  by_cases a0 : (getT c i).1 = 0
  · rw [if_pos a0] at hp
    rcases List.mem_singleton.1 hp with rfl
    rw [bts_size]; simp
  rw [if_neg a0] at hp
  by_cases a4 : (getT c i).1 = 4
  · obtain ⟨a, e, ha⟩ := Shd_4 hc hi a4
    rw [if_pos a4, e, Int.toNat_natCast] at hp
    by_cases hk : cmpK (getT c a).1 = true
    · rw [if_pos hk] at hp
      rcases List.mem_singleton.1 hp with rfl
      exact cmpT_size hc (by omega) hk true
    · rw [if_neg hk] at hp
      rcases List.mem_cons.1 hp with rfl | hp
      · rw [bts_size]; simp
      · rcases List.mem_singleton.1 hp with rfl
        rw [bts_size]; simp
  rw [if_neg a4] at hp
  by_cases a5 : (getT c i).1 = 5
  · rw [if_pos a5] at hp
    rcases List.mem_cons.1 hp with rfl | hp
    · rw [bts_size]; simp
    · rcases List.mem_cons.1 hp with rfl | hp
      · rw [bts_size]; simp
      · rcases List.mem_singleton.1 hp with rfl
        rw [bts_size]; simp
  rw [if_neg a5] at hp
  by_cases a6 : (getT c i).1 = 6
  · rw [if_pos a6] at hp
    rcases List.mem_cons.1 hp with rfl | hp
    · rw [bts_size]; simp
    · rcases List.mem_cons.1 hp with rfl | hp
      · rw [bts_size]; simp
      · rcases List.mem_singleton.1 hp with rfl
        rw [bts_size]; simp
  rw [if_neg a6] at hp
  rcases List.mem_singleton.1 hp with rfl
  have hk : cmpK (getT c i).1 = true := by rcases Shd_k hc hi with h | h | h | h | h <;> first | exact h | omega
  exact cmpT_size hc hi hk false
def stQ (out : List Sz3) (p : P3) (s : Sz3) : Sz3 :=
  bif p.1.data.toList == ([] : List UInt8) then
    (bif p.2.2 then (s.1 + 1 + (getS out p.2.1.toNat).1 + 4, (s.2.1 + (getS out p.2.1.toNat).2.2, mx s.2.2 ((getS out p.2.1.toNat).2.1 + 1)))
     else (s.1 + 1 + (getS out p.2.1.toNat).1, (s.2.1 + (getS out p.2.1.toNat).2.2, mx s.2.2 (getS out p.2.1.toNat).2.1)))
  else (s.1 + 1 + (p.1.size : Int), s.2)
def fnQ (c : Cnd) (i : Nat) (a : Sz3) : Sz3 :=
  if (getT c i).1 = 4 then (if cmpK (getT c (getT c i).2.1.toNat).1 = true then (a.1, (a.2.2, 2)) else (a.1, (a.2.2 + 1, a.2.1))) else (a.1, (a.2.2, a.2.1))
theorem mx_le {a b n : Int} (h1 : a ≤ n) (h2 : b ≤ n) : mx a b ≤ n := by unfold mx; split <;> omega
theorem mx_ge {a b : Int} (h1 : 0 ≤ a) (h2 : 0 ≤ b) : 0 ≤ mx a b := by unfold mx; split <;> omega
theorem mx_0 {b : Int} (h : 0 ≤ b) : mx 0 b = b := by unfold mx; split <;> omega
theorem fn_szR {c : Cnd} (hc : Shd c) {i : Nat} (hi : i < List.length c) {out : List Sz3} (ho : ∀ a, a < i → OkS a (getS out a)) : fnQ c i (foldI (fun p _ s => stQ out p s) (pcsT c i) 0 ((-1 : Int), ((1 : Int), (0 : Int)))) = szR c out i := by
  have hcm : ∀ (t : Tm) (neg : Bool) (s : Sz3), stQ out (cmpT t neg, (0, false)) s = (s.1 + 1 + ((cmpT t neg).size : Int), s.2) := fun t neg s => by unfold stQ; simp only [cmpT_ne, cond_false]
  have hst : ∀ (a : Nat) (b : Bool) (s : Sz3), a < i → stQ out (bts [], ((a : Int), b)) s = (s.1 + 1 + (rdS (getS out a) b).1, (s.2.1 + (rdS (getS out a) b).2.2, mx s.2.2 (rdS (getS out a) b).2.1)) := fun a b s _ => by
    unfold stQ rdS
    cases b with
    | true =>
      have e : ((bts []).data.toList == ([] : List UInt8)) = true := rfl
      simp only [e, cond_true, Int.toNat_natCast, Prod.mk.injEq, and_true]; omega
    | false => rfl
  unfold szR pcsT fnQ
  by_cases a0 : (getT c i).1 = 0
  · have hk : ¬ cmpK (getT c i).1 = true := fun h => by have := of_decide_eq_true h; omega
    have n4 : ¬ (getT c i).1 = 4 := by omega
    have n5 : ¬ (getT c i).1 = 5 := by omega
    have n6 : ¬ (getT c i).1 = 6 := by omega
    rw [if_pos a0, if_neg hk, if_neg n4, if_neg n4, if_neg n5, if_neg n6]; rfl
  rw [if_neg a0]
  by_cases a4 : (getT c i).1 = 4
  · have hk : ¬ cmpK (getT c i).1 = true := fun h => by have := of_decide_eq_true h; omega
    obtain ⟨a, e, ha⟩ := Shd_4 hc hi a4
    rw [if_pos a4, if_pos a4, if_pos a4, if_neg hk, e, Int.toNat_natCast]
    by_cases hk2 : cmpK (getT c a).1 = true
    · rw [if_pos hk2, if_pos hk2, if_pos hk2]
      simp only [foldI, hcm, Prod.mk.injEq, and_true]; omega
    · rw [if_neg hk2, if_neg hk2, if_neg hk2]
      obtain ⟨h1, h2, h3, h4, h5, h6⟩ := rdS_ok (jnK (getT c a).1) (ho a ha)
      have e1 : ∀ s : Sz3, stQ out (bts [110, 111, 116], (0, false)) s = (s.1 + 1 + 3, s.2) := fun _ => rfl
      simp only [foldI, e1, hst _ _ _ ha, mx_0 h3, Prod.mk.injEq]
      refine ⟨by omega, trivial, by omega⟩
  rw [if_neg a4, if_neg a4, if_neg a4]
  by_cases a5 : (getT c i).1 = 5
  · have hk : ¬ cmpK (getT c i).1 = true := fun h => by have := of_decide_eq_true h; omega
    obtain ⟨a, b, e, e2, ha, hb⟩ := Shd_5 hc hi (.inl a5)
    rw [if_pos a5, if_pos a5, if_neg hk, e, e2, Int.toNat_natCast, Int.toNat_natCast]
    obtain ⟨h1, h2, h3, h4, h5, h6⟩ := rdS_ok (decide ((getT c a).1 = 6)) (ho a ha)
    have e1 : ∀ s : Sz3, stQ out (bts [97, 110, 100], (0, false)) s = (s.1 + 1 + 3, s.2) := fun _ => rfl
    simp only [foldI, e1, hst _ _ _ ha, hst _ _ _ hb, mx_0 h3, two, Prod.mk.injEq]
    refine ⟨by omega, trivial, by omega⟩
  rw [if_neg a5, if_neg a5]
  by_cases a6 : (getT c i).1 = 6
  · have hk : ¬ cmpK (getT c i).1 = true := fun h => by have := of_decide_eq_true h; omega
    obtain ⟨a, b, e, e2, ha, hb⟩ := Shd_5 hc hi (.inr a6)
    rw [if_pos a6, if_pos a6, if_neg hk, e, e2, Int.toNat_natCast, Int.toNat_natCast]
    obtain ⟨h1, h2, h3, h4, h5, h6⟩ := rdS_ok false (ho a ha)
    have e1 : ∀ s : Sz3, stQ out (bts [111, 114], (0, false)) s = (s.1 + 1 + 2, s.2) := fun _ => rfl
    simp only [foldI, e1, hst _ _ _ ha, hst _ _ _ hb, mx_0 h3, two, Prod.mk.injEq]
    refine ⟨by omega, trivial, by omega⟩
  have hk : cmpK (getT c i).1 = true := by rcases Shd_k hc hi with h | h | h | h | h <;> first | exact h | omega
  rw [if_neg a6, if_pos hk]
  simp only [foldI, hcm, Prod.mk.injEq, and_true]; omega
theorem szL_map {β : Type} {c : Cnd} {i a : Nat} (f : Sz3 → β) (h : a < i) : getI ((szL c i).map f) (a : Int) = some (f (getS (szL c i) a)) := by
  refine getI_nat ?_
  have hl := szL_len c i
  unfold getS
  rw [List.getElem?_map, List.getD_eq_getElem?_getD, List.getElem?_eq_getElem (by omega)]; rfl
abbrev mk95 (c : Cnd) (i : Nat) : (List Int) × ((List Int) × ((List Int) × Int)) := ((szL c i).map (·.1), ((szL c i).map (·.2.2), ((szL c i).map (·.2.1), (i : Int))))
theorem G95_sz {c : Cnd} (hc : Shd c) (h30 : List.length c ≤ 30) : G95 LF c = some ((szL c (List.length c)).map (·.1), ((szL c (List.length c)).map (·.2.2), (szL c (List.length c)).map (·.2.1))) := by
  unfold G95
  refine iter_cnt (mk95 c) _ (List.length c) ?_ ?_ (List.length c) 0 LF (by omega) (by show List.length c < 9223372036854775808; omega)
  · intro i hi
    have hok := szL_ok hc i (by omega)
    have hlen := szL_len c i
    have hpl := pcs_len c i
    have happ : ∀ (f : Sz3 → Int) (v : Int), appC ((szL c i).map f) [v] = some ((szL c i).map f ++ [v]) := fun f v => appC_of (by rw [List.length_map]; simp; omega)
    simp only [mk95, dlt hi, cond_true, G166_pcs hc hi, Option.bind_some]
    refine (iter_foldI (fun k (s : Sz3) => (s.1, (s.2.1, (s.2.2, k)))) (fun p _ s => stQ (szL c i) p s) (fun k s => -1 ≤ s.1 ∧ s.1 ≤ 10000 * k ∧ 1 ≤ s.2.1 ∧ s.2.1 ≤ 1 + 31 * k ∧ 0 ≤ s.2.2 ∧ s.2.2 ≤ 100) (pcsT c i)
      (fun a => some (Sum.inl ((szL c i).map (·.1) ++ [(capS (fnQ c i a)).1], ((szL c i).map (·.2.2) ++ [(capS (fnQ c i a)).2.2], ((szL c i).map (·.2.1) ++ [(capS (fnQ c i a)).2.1], ((i + 1 : Nat) : Int)))))) ((-1 : Int), ((1 : Int), (0 : Int))) ?_ ?_ ?_ (by show (pcsT c i).length < 9223372036854775808; omega) ⟨by simp, by simp, by simp, by simp, by simp, by simp⟩).trans ?_
    · intro k p s hp hg
      obtain ⟨g1, g2, g3, g4, g5, g6⟩ := hg
      have hk := (List.getElem?_eq_some_iff.1 hp).1
      have hm := pcs_mem hc hi p (List.mem_of_getElem? hp)
      have hz := pcs_sz hc hi p (List.mem_of_getElem? hp)
      have w1 : w64 (s.1 + 1) = s.1 + 1 := w64_id (by omega) (by omega)
      simp only [dlt hk, cond_true, getI_nat hp, Option.bind_some, succ_W (show k + 1 < 9223372036854775808 by omega), w1, stQ]
      rcases hm with e | ⟨e, b, e2, hb⟩
      · have w2 : w64 (s.1 + 1 + (p.1.size : Int)) = s.1 + 1 + (p.1.size : Int) := w64_id (by omega) (by omega)
        simp only [e, Bool.not_false, cond_true, cond_false, w2]
      · obtain ⟨h1, h2, h3, h4, h5, h6⟩ := hok b hb
        have w2 : w64 (s.1 + 1 + (getS (szL c i) b).1) = s.1 + 1 + (getS (szL c i) b).1 := w64_id (by omega) (by omega)
        have w3 : w64 (s.1 + 1 + (getS (szL c i) b).1 + 4) = s.1 + 1 + (getS (szL c i) b).1 + 4 := w64_id (by omega) (by omega)
        have w4 : w64 (s.2.1 + (getS (szL c i) b).2.2) = s.2.1 + (getS (szL c i) b).2.2 := w64_id (by omega) (by omega)
        have w5 : w64 ((getS (szL c i) b).2.1 + 1) = (getS (szL c i) b).2.1 + 1 := w64_id (by omega) (by omega)
        simp only [e, Bool.not_true, cond_false, cond_true, e2, szL_map (c := c) _ hb, Option.bind_some, Int.toNat_natCast, w2, w3, w4, w5]
        cases p.2.2 with
        | true => simp only [cond_true, mx]
        | false => simp only [cond_false, mx]
    · intro k p s hp hg
      obtain ⟨g1, g2, g3, g4, g5, g6⟩ := hg
      have hk := (List.getElem?_eq_some_iff.1 hp).1
      have hm := pcs_mem hc hi p (List.mem_of_getElem? hp)
      have hz := pcs_sz hc hi p (List.mem_of_getElem? hp)
      simp only [stQ]
      rcases hm with e | ⟨e, b, e2, hb⟩
      · simp only [e, cond_false]
        refine ⟨by omega, by omega, by omega, by omega, by omega, by omega⟩
      · obtain ⟨h1, h2, h3, h4, h5, h6⟩ := hok b hb
        simp only [e, cond_true, e2, Int.toNat_natCast]
        cases p.2.2 with
        | true =>
          simp only [cond_true]
          exact ⟨by omega, by omega, by omega, by omega, mx_ge g5 (by omega), mx_le g6 (by omega)⟩
        | false =>
          simp only [cond_false]
          exact ⟨by omega, by omega, by omega, by omega, mx_ge g5 (by omega), mx_le g6 (by omega)⟩
    · intro s hg
      obtain ⟨g1, g2, g3, g4, g5, g6⟩ := hg
      simp only [dnlt, cond_false, G167_k hi, Option.bind_some, fnQ, succ_W (show i + 1 < 9223372036854775808 by omega)]
      by_cases a4 : (getT c i).1 = 4
      · obtain ⟨a, e, ha⟩ := Shd_4 hc hi a4
        have hal : a < List.length c := by omega
        have w1 : w64 (s.2.2 + 1) = s.2.2 + 1 := w64_id (by omega) (by omega)
        simp only [decide_eq_true a4, Bool.not_true, cond_false, if_pos a4, getT_I hi, e, G167_k hal, Option.bind_some, G93_cmp, Int.toNat_natCast]
        cases hk : cmpK (getT c a).1 with
        | true => simp only [cond_true, if_true, jl, happ, Option.bind_some, capS, outR]
        | false => simp only [cond_false, Bool.false_eq_true, if_false, jl, happ, Option.bind_some, capS, outR, w1]
      · simp only [decide_eq_false a4, Bool.not_false, cond_true, if_neg a4, jl, happ, Option.bind_some, capS, outR]
    · have es : szL c (i + 1) = szL c i ++ [capS (szR c (szL c i) i)] := rfl
      simp only [fn_szR hc hi hok, es, List.map_append, List.map_cons, List.map_nil]
  · simp only [mk95, dnlt, cond_false]
end Go.K
set_option linter.unusedVariables false
set_option linter.unusedSimpArgs false
set_option maxRecDepth 100000
namespace Go.K
open Go.Sl Go.Sx Go.Proofs
def prS (t : Tm) (i : Nat) : Option (ByteArray × Int) := bif !shp t i || (cmpK t.1 && !nmB t.2.2.2.1) then some (bts [], 41) else none
def printW (c : Cnd) : ByteArray × Int :=
  if (getS (szL c (List.length c)) (List.length c - 1)).2.1 > 8 then (bts [], 41)
  else if (getS (szL c (List.length c)) (List.length c - 1)).1 > 8000 ∨ (getS (szL c (List.length c)) (List.length c - 1)).2.2 > 30 then (bts [], 2)
  else (prT c LF (List.length c - 1), 0)
def printB (c : Cnd) : ByteArray × Int :=
  if List.length c = 0 ∨ 30 < List.length c then (bts [], 41)
  else (scan prS c 0).getD (printW c)
theorem scan_noneW {σ ρ : Type} (g : σ → Nat → Option ρ) : ∀ (l : List σ) (k : Nat), scan g l k = none → ∀ (i : Nat) (x : σ), l[i]? = some x → g x (k + i) = none
  | [], k, _, i, x, hx => by simp at hx
  | a :: l, k, h, i, x, hx => by
    unfold scan at h
    cases ha : g a k with
    | some y => rw [ha] at h; cases h
    | none =>
      rw [ha] at h
      cases i with
      | zero => simp only [List.getElem?_cons_zero, Option.some.injEq] at hx; subst hx; exact ha
      | succ i =>
        have := scan_noneW g l (k + 1) h i x (by simpa using hx)
        rwa [show k + (i + 1) = k + 1 + i by omega]
theorem Shd_of {c : Cnd} (h : scan prS c 0 = none) : Shd c := by
  intro i hi
  have hx : c[i]? = some (getT c i) := by
    unfold getT; rw [List.getD_eq_getElem?_getD, List.getElem?_eq_getElem hi]; rfl
  have := scan_noneW prS c 0 h i _ hx
  rw [Nat.zero_add] at this
  unfold prS at this
  cases h1 : shp (getT c i) i with
  | false => rw [h1] at this; cases this
  | true =>
    rw [h1] at this
    refine ⟨rfl, fun hk => ?_⟩
    rw [hk] at this
    cases h2 : nmB (getT c i).2.2.2.1 with
    | true => rfl
    | false => rw [h2] at this; cases this
theorem pred_W {n : Nat} (h : 1 ≤ n) (h2 : n ≤ 1000) : w64 ((n : Int) - 1) = ((n - 1 : Nat) : Int) := by
  rw [w64_id (by omega) (by omega)]; omega
theorem G19_print (c : Cnd) : G19 LF c = some (printB c) := by
  unfold G19 printB
  simp only [G91_in, Option.bind_some]
  by_cases hr : List.length c = 0 ∨ 30 < List.length c
  · rw [if_pos hr, decide_eq_false (by omega)]; rfl
  rw [if_neg hr, decide_eq_true (by omega)]
  simp only [Bool.not_true, cond_false]
  refine (iter_scan prS c (some (printW c)) ?_ ?_ (by show List.length c < 9223372036854775808; omega)).trans ?_
  · intro i t ht _
    have hi := (List.getElem?_eq_some_iff.1 ht).1
    simp only [dlt hi, cond_true, getI_nat ht, Option.bind_some, peta, G92_shp t i (by show i < 9223372036854775808; omega), G93_cmp, G94_nm, succ_W (show i + 1 < 9223372036854775808 by omega)]
    unfold prS
    cases shp t i with
    | false => rfl
    | true =>
      cases cmpK t.1 with
      | false => rfl
      | true => cases nmB t.2.2.2.1 <;> rfl
  · intro hs
    have hc := Shd_of hs
    have h30 : List.length c ≤ 30 := by omega
    have hl : List.length c - 1 < List.length c := by omega
    simp only [dnlt, cond_false, G95_sz hc h30, Option.bind_some, pred_W (show 1 ≤ List.length c by omega) (by omega), szL_map _ hl, G96_pr hc h30 LF (List.length c - 1) (by show List.length c - 1 < 9223372036854775808; omega) hl]
    unfold printW
    by_cases h8 : (getS (szL c (List.length c)) (List.length c - 1)).2.1 > 8
    · simp only [decide_eq_true h8, cond_true, if_pos h8]
    · simp only [decide_eq_false h8, cond_false, if_neg h8]
      by_cases h1 : (getS (szL c (List.length c)) (List.length c - 1)).1 > 8000
      · simp only [decide_eq_true h1, cond_true, jl, if_pos (Or.inl h1 : _ ∨ (getS (szL c (List.length c)) (List.length c - 1)).2.2 > 30)]
      · simp only [decide_eq_false h1, cond_false, jl]
        by_cases h2 : (getS (szL c (List.length c)) (List.length c - 1)).2.2 > 30
        · simp only [decide_eq_true h2, cond_true, if_pos (Or.inr h2 : (getS (szL c (List.length c)) (List.length c - 1)).1 > 8000 ∨ _)]
        · simp only [decide_eq_false h2, cond_false, if_neg (fun h => h.elim h1 h2 : ¬ ((getS (szL c (List.length c)) (List.length c - 1)).1 > 8000 ∨ (getS (szL c (List.length c)) (List.length c - 1)).2.2 > 30))]
  · cases scan prS c 0 <;> rfl
theorem G20_print (c : Cnd) : G20 LF c = some (printB c) := by
  unfold G20 printB
  by_cases hr : List.length c = 0 ∨ 30 < List.length c
  · rw [if_pos hr]
    by_cases h0 : List.length c = 0
    · simp only [h0, decide_eq_true (show ((0 : Nat) : Int) = 0 by omega), cond_true, jl]
    · simp only [decide_eq_false (show ¬ ((List.length c : Nat) : Int) = 0 by omega), cond_false, jl, decide_eq_true (show ((List.length c : Nat) : Int) > 30 by omega), cond_true]
  rw [if_neg hr]
  simp only [decide_eq_false (show ¬ ((List.length c : Nat) : Int) = 0 by omega), cond_false, jl, decide_eq_false (show ¬ ((List.length c : Nat) : Int) > 30 by omega)]
  refine (iter_scan prS c (some (printW c)) ?_ ?_ (by show List.length c < 9223372036854775808; omega)).trans ?_
  · intro i t ht _
    have hi := (List.getElem?_eq_some_iff.1 ht).1
    simp only [dlt hi, cond_true, getI_nat ht, Option.bind_some, peta, G97_shp t i (by show i < 9223372036854775808; omega), G98_cmp, G99_nm, succ_W (show i + 1 < 9223372036854775808 by omega)]
    unfold prS
    cases shp t i with
    | false => rfl
    | true =>
      cases cmpK t.1 with
      | false => rfl
      | true => cases nmB t.2.2.2.1 <;> rfl
  · intro hs
    have hc := Shd_of hs
    have h30 : List.length c ≤ 30 := by omega
    have hl : List.length c - 1 < List.length c := by omega
    simp only [dnlt, cond_false, G100_sz hc h30, Option.bind_some, pred_W (show 1 ≤ List.length c by omega) (by omega), getS_I hl, G101_pr hc h30 LF (List.length c - 1) (by show List.length c - 1 < 9223372036854775808; omega) hl]
    unfold printW
    by_cases h8 : (getS (szL c (List.length c)) (List.length c - 1)).2.1 > 8
    · simp only [decide_eq_true h8, cond_true, if_pos h8]
    · simp only [decide_eq_false h8, cond_false, if_neg h8]
      by_cases h1 : (getS (szL c (List.length c)) (List.length c - 1)).1 > 8000
      · simp only [decide_eq_true h1, cond_true, jl, if_pos (Or.inl h1 : _ ∨ (getS (szL c (List.length c)) (List.length c - 1)).2.2 > 30)]
      · simp only [decide_eq_false h1, cond_false, jl]
        by_cases h2 : (getS (szL c (List.length c)) (List.length c - 1)).2.2 > 30
        · simp only [decide_eq_true h2, cond_true, if_pos (Or.inr h2 : (getS (szL c (List.length c)) (List.length c - 1)).1 > 8000 ∨ _)]
        · simp only [decide_eq_false h2, cond_false, if_neg (fun h => h.elim h1 h2 : ¬ ((getS (szL c (List.length c)) (List.length c - 1)).1 > 8000 ∨ (getS (szL c (List.length c)) (List.length c - 1)).2.2 > 30))]
  · cases scan prS c 0 <;> rfl
end Go.K
set_option linter.unusedVariables false
set_option linter.unusedSimpArgs false
set_option maxRecDepth 100000
namespace Go.K
open Go.Sl Go.Sx Go.Proofs
inductive Ex where
  | tr : Ex
  | cp : Int → ByteArray → Int → Ex
  | nt : Ex → Ex
  | an : Ex → Ex → Ex
  | or : Ex → Ex → Ex
def sz : Ex → Nat
  | .tr => 1
  | .cp _ _ _ => 1
  | .nt e => sz e + 1
  | .an a b => sz a + sz b + 1
  | .or a b => sz a + sz b + 1
def flat : Ex → Nat → Cnd
  | .tr, _ => [tmK 0 0 0]
  | .cp k w n, _ => [(k, (0, (0, (w, n))))]
  | .nt e, b => flat e b ++ [tmK 4 ((b + sz e - 1 : Nat) : Int) 0]
  | .an x y, b => flat x b ++ flat y (b + sz x) ++ [tmK 5 ((b + sz x - 1 : Nat) : Int) ((b + sz x + sz y - 1 : Nat) : Int)]
  | .or x y, b => flat x b ++ flat y (b + sz x) ++ [tmK 6 ((b + sz x - 1 : Nat) : Int) ((b + sz x + sz y - 1 : Nat) : Int)]
def jo : Ex → Nat
  | .or _ _ => 1
  | _ => 0
def j1 : Ex → Nat
  | .or _ _ => 1
  | .an _ _ => 1
  | _ => 0
def isC : Ex → Bool
  | .cp _ _ _ => true
  | _ => false
def DpE : Ex → Nat
  | .tr => 0
  | .cp _ _ _ => 0
  | .nt e => if isC e = true then 0 else DpE e + j1 e + 1
  | .an a b => max (DpE a + jo a) (DpE b + j1 b)
  | .or a b => max (DpE a) (DpE b + jo b)
def OkE : Ex → Prop
  | .tr => True
  | .cp k w n => (1 ≤ k ∧ k ≤ 3) ∧ nmB w = true ∧ -1000000000000 ≤ n ∧ n ≤ 1000000000000
  | .nt e => OkE e
  | .an a b => OkE a ∧ OkE b
  | .or a b => OkE a ∧ OkE b
theorem sz_pos : ∀ e, 1 ≤ sz e
  | .tr => Nat.le_refl _
  | .cp _ _ _ => Nat.le_refl _
  | .nt e => by unfold sz; omega
  | .an a b => by unfold sz; omega
  | .or a b => by unfold sz; omega
theorem flatE_len : ∀ (e : Ex) (b : Nat), List.length (flat e b) = sz e
  | .tr, _ => rfl
  | .cp _ _ _, _ => rfl
  | .nt e, b => by unfold flat sz; rw [List.length_append, flatE_len e b]; rfl
  | .an x y, b => by unfold flat sz; rw [List.length_append, List.length_append, flatE_len x, flatE_len y]; rfl
  | .or x y, b => by unfold flat sz; rw [List.length_append, List.length_append, flatE_len x, flatE_len y]; rfl
theorem jo_j1 (e : Ex) : jo e ≤ j1 e := by cases e <;> simp [jo, j1]
theorem j1_le (e : Ex) : j1 e ≤ 1 := by cases e <;> simp [jo, j1]
def IsT (P : Ex → Prop) (ts : Cnd) (t : PS) : Prop := ∃ e, OkE e ∧ P e ∧ t.2.1 = ts ++ flat e (List.length ts) ∧ t.2.2 = ((List.length ts + sz e - 1 : Nat) : Int)
theorem IsT.mono {P Q : Ex → Prop} {ts : Cnd} {t : PS} (h : IsT P ts t) (hpq : ∀ e, P e → Q e) : IsT Q ts t := by
  obtain ⟨e, h1, h2, h3⟩ := h; exact ⟨e, h1, hpq e h2, h3⟩
theorem loopS_tree {wrd : ByteArray} {kind : Int} {mk : Ex → Ex → Ex} {ws : List ByteArray} {next : Nat → Cnd → PE} {P Q : Ex → Prop} {ts : Cnd}
    (hmk : ∀ a b, OkE a → OkE b → P a → Q b → OkE (mk a b) ∧ P (mk a b)) (hsz : ∀ a b, sz (mk a b) = sz a + sz b + 1)
    (hfl : ∀ a b l, flat (mk a b) l = flat a l ++ flat b (l + sz a) ++ [tmK kind ((l + sz a - 1 : Nat) : Int) ((l + sz a + sz b - 1 : Nat) : Int)])
    (hn : ∀ i ts t, next i ts = .inl t → IsT Q ts t) : ∀ (F : Nat) (s t : PS), IsT P ts s → loopS wrd kind ws next F s = .inl t → IsT P ts t
  | 0, s, t, _, h => by unfold loopS at h; cases h
  | F + 1, s, t, hs, h => by
    unfold loopS at h
    by_cases he : wAt ws s.1 = wrd
    · rw [if_pos he] at h
      cases hx : next (s.1 + 1) s.2.1 with
      | inr k => rw [hx] at h; cases h
      | inl u =>
        rw [hx] at h
        refine loopS_tree hmk hsz hfl hn F _ t ?_ h
        obtain ⟨a, a1, a2, a3, a4⟩ := hs
        obtain ⟨b, b1, b2, b3, b4⟩ := hn _ _ _ hx
        have hl : List.length s.2.1 = List.length ts + sz a := by rw [a3, List.length_append, flatE_len]
        rw [hl] at b3 b4
        obtain ⟨m1, m2⟩ := hmk a b a1 b1 a2 b2
        refine ⟨mk a b, m1, m2, ?_, ?_⟩
        · show u.2.1 ++ [tmK kind s.2.2 u.2.2] = _
          rw [hfl, b3, a4, b4, a3]
          simp only [List.append_assoc]
        · show ((List.length u.2.1 : Nat) : Int) = _
          rw [b3, List.length_append, hl, flatE_len, hsz]; congr 1; omega
    · rw [if_neg he] at h
      cases h; exact hs
theorem allS_tree {ws : List ByteArray} {one : Nat → Cnd → PE} {F deep : Nat} (hn : ∀ i ts t, one i ts = .inl t → IsT (fun e => DpE e + j1 e + deep ≤ 8) ts t) (i : Nat) (ts : Cnd) (t : PS) (h : allS ws one F i ts = .inl t) : IsT (fun e => DpE e + jo e + deep ≤ 8) ts t := by
  unfold allS at h
  cases hx : one i ts with
  | inr k => rw [hx] at h; cases h
  | inl s =>
    rw [hx] at h
    refine loopS_tree (mk := .an) (Q := fun e => DpE e + j1 e + deep ≤ 8) ?_ (fun _ _ => rfl) (fun _ _ _ => rfl) hn F s t ((hn _ _ _ hx).mono fun e he => ?_) h
    · intro a b h1 h2 h3 h4
      refine ⟨⟨h1, h2⟩, ?_⟩
      show max (DpE a + jo a) (DpE b + j1 b) + 0 + deep ≤ 8
      omega
    · have := jo_j1 e; omega
theorem cndS_tree {ws : List ByteArray} {one : Nat → Cnd → PE} {F deep : Nat} (hn : ∀ i ts t, one i ts = .inl t → IsT (fun e => DpE e + j1 e + deep ≤ 8) ts t) (i : Nat) (ts : Cnd) (t : PS) (h : cndS ws one F i ts = .inl t) : IsT (fun e => DpE e + deep ≤ 8) ts t := by
  unfold cndS at h
  cases hx : allS ws one F i ts with
  | inr k => rw [hx] at h; cases h
  | inl s =>
    rw [hx] at h
    refine loopS_tree (mk := .or) (Q := fun e => DpE e + jo e + deep ≤ 8) ?_ (fun _ _ => rfl) (fun _ _ _ => rfl) (fun i ts t => allS_tree hn i ts t) F s t ((allS_tree hn _ _ _ hx).mono fun e he => ?_) h
    · intro a b h1 h2 h3 h4
      refine ⟨⟨h1, h2⟩, ?_⟩
      show max (DpE a) (DpE b + jo b) + deep ≤ 8
      omega
    · omega
theorem opS_k {w : ByteArray} {k : Int} {neg : Bool} (h : opS w = some (k, neg)) : 1 ≤ k ∧ k ≤ 3 := by
  unfold opS at h
  split at h
  · cases h; omega
  split at h
  · cases h; omega
  split at h
  · cases h; omega
  split at h
  · cases h; omega
  split at h
  · cases h; omega
  split at h
  · cases h; omega
  · cases h
theorem cmpS_tree {ws : List ByteArray} {i deep : Nat} {ts : Cnd} {w : ByteArray} {t : PS} (hw : nmB w = true) (hd : deep ≤ 8) (h : cmpS ws i ts w = .inl t) : IsT (fun e => DpE e + j1 e + deep ≤ 8) ts t := by
  unfold cmpS at h
  cases ho : opS (wAt ws i) with
  | none => rw [ho] at h; cases h
  | some y =>
    obtain ⟨k, neg⟩ := y
    rw [ho] at h
    cases hn : num 13 (wAt ws (i + 1)).data.toList true with
    | none => rw [hn] at h; cases h
    | some n =>
      rw [hn] at h
      simp only at h
      by_cases hb : -1000000000000 ≤ n ∧ n ≤ 1000000000000
      · rw [if_pos hb] at h
        cases neg with
        | true =>
          rw [if_pos rfl] at h
          cases h
          refine ⟨.nt (.cp k w n), ⟨opS_k ho, hw, hb⟩, ?_, ?_, ?_⟩
          · show (if true = true then 0 else _) + 0 + deep ≤ 8
            rw [if_pos rfl]; omega
          · show ts ++ [(k, (0, (0, (w, n))))] ++ [tmK 4 (List.length ts : Nat) 0] = ts ++ ([(k, (0, (0, (w, n))))] ++ [tmK 4 ((List.length ts + 1 - 1 : Nat) : Int) 0])
            rw [Nat.add_sub_cancel, List.append_assoc]
          · rfl
        | false =>
          rw [if_neg (by decide)] at h
          cases h
          refine ⟨.cp k w n, ⟨opS_k ho, hw, hb⟩, ?_, rfl, rfl⟩
          show 0 + 0 + deep ≤ 8
          omega
      · rw [if_neg hb] at h; cases h
theorem oneS_tree {ws : List ByteArray} {F : Nat} : ∀ (n deep i : Nat) (ts : Cnd) (t : PS), deep ≤ 8 → oneS ws F n deep i ts = .inl t → IsT (fun e => DpE e + j1 e + deep ≤ 8) ts t
  | 0, deep, i, ts, t, _, h => by unfold oneS at h; cases h
  | n + 1, deep, i, ts, t, hd, h => by
    unfold oneS at h
    by_cases hw : wAt ws i = wNot ∨ wAt ws i = wOpen
    · rw [if_pos hw] at h
      by_cases h8 : deep = 8
      · rw [if_pos h8] at h; cases h
      · rw [if_neg h8] at h
        by_cases hn : wAt ws i = wNot
        · rw [if_pos hn] at h
          cases hx : oneS ws F n (deep + 1) (i + 1) ts with
          | inr k => rw [hx] at h; cases h
          | inl u =>
            rw [hx] at h
            cases h
            obtain ⟨e, e1, e2, e3, e4⟩ := oneS_tree n (deep + 1) (i + 1) ts u (by omega) hx
            refine ⟨.nt e, e1, ?_, ?_, ?_⟩
            · show (if isC e = true then 0 else DpE e + j1 e + 1) + 0 + deep ≤ 8
              split <;> omega
            · show u.2.1 ++ [tmK 4 u.2.2 0] = ts ++ (flat e (List.length ts) ++ [tmK 4 ((List.length ts + sz e - 1 : Nat) : Int) 0])
              rw [e3, e4, List.append_assoc]
            · show ((List.length u.2.1 : Nat) : Int) = _
              rw [e3, List.length_append, flatE_len]; rfl
        · rw [if_neg hn] at h
          cases hx : cndS ws (oneS ws F n (deep + 1)) F (i + 1) ts with
          | inr k => rw [hx] at h; cases h
          | inl u =>
            rw [hx] at h
            simp only at h
            by_cases hc : wAt ws u.1 = wClose
            · rw [if_pos hc] at h
              cases h
              obtain ⟨e, e1, e2, e3, e4⟩ := cndS_tree (deep := deep + 1) (fun i ts t ht => oneS_tree n (deep + 1) i ts t (by omega) ht) (i + 1) ts u hx
              refine ⟨e, e1, ?_, e3, e4⟩
              have := j1_le e
              show DpE e + j1 e + deep ≤ 8
              omega
            · rw [if_neg hc] at h; cases h
    · rw [if_neg hw] at h
      by_cases ht : wAt ws i = wTrue
      · rw [if_pos ht] at h
        cases h
        refine ⟨.tr, trivial, ?_, rfl, rfl⟩
        show 0 + 0 + deep ≤ 8
        omega
      · rw [if_neg ht] at h
        by_cases hm : nmB (wAt ws i) = false
        · rw [if_pos hm] at h; cases h
        · rw [if_neg hm] at h
          exact cmpS_tree (by simpa using hm) hd h
theorem parseB_tree {s : ByteArray} (h : (parseB s).2.2 = 0) : ∃ e, (parseB s).1 = flat e 0 ∧ OkE e ∧ DpE e ≤ 8 ∧ sz e ≤ 30 := by
  unfold parseB at h ⊢
  by_cases h8 : 8000 < s.size
  · rw [if_pos h8] at h; cases h
  · rw [if_neg h8] at h ⊢
    unfold parseW condW at h ⊢
    cases hx : cndS (wordsB s) (oneS (wordsB s) ((wordsB s).length + 1) LF 0) ((wordsB s).length + 1) 0 [] with
    | inr k => rw [hx] at h; cases h
    | inl t =>
      rw [hx] at h
      simp only at h ⊢
      by_cases hc : t.1 < (wordsB s).length
      · rw [if_pos hc] at h; cases h
      · rw [if_neg hc] at h ⊢
        by_cases h30 : 30 < List.length t.2.1
        · rw [if_pos h30] at h; cases h
        · rw [if_neg h30]
          obtain ⟨e, e1, e2, e3, e4⟩ := cndS_tree (deep := 0) (fun i ts t ht => oneS_tree LF 0 i ts t (by omega) ht) 0 [] t hx
          rw [List.nil_append] at e3
          refine ⟨e, e3, e1, e2, ?_⟩
          have := flatE_len e (List.length ([] : Cnd))
          rw [← e3] at this
          omega
end Go.K
set_option linter.unusedVariables false
set_option linter.unusedSimpArgs false
set_option maxRecDepth 100000
namespace Go.K
open Go.Sl Go.Sx Go.Proofs
def tx : Ex → ByteArray
  | .tr => bts [116, 114, 117, 101]
  | .cp k w n => cmpT (k, (0, (0, (w, n)))) false
  | .nt (.cp k w n) => cmpT (k, (0, (0, (w, n)))) true
  | .nt e => bts [110, 111, 116, 32] ++ rdT (tx e) (decide (j1 e = 1))
  | .an a b => (rdT (tx a) (decide (jo a = 1)) ++ bts [32, 97, 110, 100, 32]) ++ rdT (tx b) (decide (j1 b = 1))
  | .or a b => (tx a ++ bts [32, 111, 114, 32]) ++ rdT (tx b) (decide (jo b = 1))
def rt : Ex → Nat → Tm
  | .tr, _ => tmK 0 0 0
  | .cp k w n, _ => (k, (0, (0, (w, n))))
  | .nt e, b => tmK 4 ((b + sz e - 1 : Nat) : Int) 0
  | .an x y, b => tmK 5 ((b + sz x - 1 : Nat) : Int) ((b + sz x + sz y - 1 : Nat) : Int)
  | .or x y, b => tmK 6 ((b + sz x - 1 : Nat) : Int) ((b + sz x + sz y - 1 : Nat) : Int)
theorem rt_c {e : Ex} (h : OkE e) (b : Nat) : cmpK (rt e b).1 = isC e := by
  cases e with
  | cp k w n => exact decide_eq_true h.1
  | _ => rfl
theorem rt_j {e : Ex} (h : OkE e) (b : Nat) : jnK (rt e b).1 = decide (j1 e = 1) := by
  cases e with
  | cp k w n =>
    have := h.1
    show decide (k = 5 ∨ k = 6) = decide (0 = 1)
    rw [decide_eq_false (by omega)]; rfl
  | _ => rfl
theorem rt_o {e : Ex} (h : OkE e) (b : Nat) : decide ((rt e b).1 = 6) = decide (jo e = 1) := by
  cases e with
  | cp k w n =>
    have := h.1
    show decide (k = 6) = decide (0 = 1)
    rw [decide_eq_false (by omega)]; rfl
  | _ => rfl
def AtE (c : Cnd) (e : Ex) (b : Nat) : Prop := ∃ pre post : Cnd, c = pre ++ (flat e b ++ post) ∧ List.length pre = b
theorem getT_mid {c p q : Cnd} {t : Tm} (h : c = p ++ t :: q) : getT c (List.length p) = t := by
  subst h
  unfold getT
  rw [List.getD_eq_getElem?_getD, List.getElem?_append_right (Nat.le_refl _), Nat.sub_self]; rfl
theorem At_nt {c : Cnd} {e : Ex} {b : Nat} (h : AtE c (.nt e) b) : AtE c e b ∧ getT c (b + sz e) = rt (.nt e) b := by
  obtain ⟨pre, post, h, hl⟩ := h
  refine ⟨⟨pre, rt (.nt e) b :: post, ?_, hl⟩, ?_⟩
  · rw [h]; simp only [flat, rt, List.append_assoc, List.cons_append, List.nil_append]
  · have := getT_mid (c := c) (p := pre ++ flat e b) (t := rt (.nt e) b) (q := post) (by rw [h]; simp only [flat, rt, List.append_assoc, List.cons_append, List.nil_append])
    rwa [List.length_append, flatE_len, hl] at this
theorem At_an {c : Cnd} {x y : Ex} {b : Nat} (h : AtE c (.an x y) b) : AtE c x b ∧ AtE c y (b + sz x) ∧ getT c (b + sz x + sz y) = rt (.an x y) b := by
  obtain ⟨pre, post, h, hl⟩ := h
  refine ⟨⟨pre, flat y (b + sz x) ++ rt (.an x y) b :: post, ?_, hl⟩, ⟨pre ++ flat x b, rt (.an x y) b :: post, ?_, ?_⟩, ?_⟩
  · rw [h]; simp only [flat, rt, List.append_assoc, List.cons_append, List.nil_append]
  · rw [h]; simp only [flat, rt, List.append_assoc, List.cons_append, List.nil_append]
  · rw [List.length_append, flatE_len, hl]
  · have := getT_mid (c := c) (p := pre ++ (flat x b ++ flat y (b + sz x))) (t := rt (.an x y) b) (q := post) (by rw [h]; simp only [flat, rt, List.append_assoc, List.cons_append, List.nil_append])
    rwa [List.length_append, List.length_append, flatE_len, flatE_len, hl, ← Nat.add_assoc] at this
theorem At_or {c : Cnd} {x y : Ex} {b : Nat} (h : AtE c (.or x y) b) : AtE c x b ∧ AtE c y (b + sz x) ∧ getT c (b + sz x + sz y) = rt (.or x y) b := by
  obtain ⟨pre, post, h, hl⟩ := h
  refine ⟨⟨pre, flat y (b + sz x) ++ rt (.or x y) b :: post, ?_, hl⟩, ⟨pre ++ flat x b, rt (.or x y) b :: post, ?_, ?_⟩, ?_⟩
  · rw [h]; simp only [flat, rt, List.append_assoc, List.cons_append, List.nil_append]
  · rw [h]; simp only [flat, rt, List.append_assoc, List.cons_append, List.nil_append]
  · rw [List.length_append, flatE_len, hl]
  · have := getT_mid (c := c) (p := pre ++ (flat x b ++ flat y (b + sz x))) (t := rt (.or x y) b) (q := post) (by rw [h]; simp only [flat, rt, List.append_assoc, List.cons_append, List.nil_append])
    rwa [List.length_append, List.length_append, flatE_len, flatE_len, hl, ← Nat.add_assoc] at this
theorem At_rt {c : Cnd} {e : Ex} {b : Nat} (h : AtE c e b) : getT c (b + sz e - 1) = rt e b := by
  cases e with
  | tr =>
    obtain ⟨pre, post, h, hl⟩ := h
    have := getT_mid (c := c) (p := pre) (t := rt .tr b) (q := post) h
    rwa [hl] at this
  | cp k w n =>
    obtain ⟨pre, post, h, hl⟩ := h
    have := getT_mid (c := c) (p := pre) (t := rt (.cp k w n) b) (q := post) h
    rwa [hl] at this
  | nt e => exact (At_nt h).2
  | an x y => exact (At_an h).2.2 ▸ (by show getT c (b + (sz x + sz y + 1) - 1) = _; rw [← Nat.add_assoc, ← Nat.add_assoc, Nat.add_sub_cancel])
  | or x y => exact (At_or h).2.2 ▸ (by show getT c (b + (sz x + sz y + 1) - 1) = _; rw [← Nat.add_assoc, ← Nat.add_assoc, Nat.add_sub_cancel])
theorem tx_nt {e : Ex} (h : isC e = false) : tx (.nt e) = bts [110, 111, 116, 32] ++ rdT (tx e) (decide (j1 e = 1)) := by
  cases e with
  | cp k w n => cases h
  | _ => rfl
theorem tx_ntc {e : Ex} {b : Nat} (h : isC e = true) : tx (.nt e) = cmpT (rt e b) true := by
  cases e with
  | cp k w n => rfl
  | _ => cases h
theorem D_nt {e : Ex} (h : isC e = false) : DpE (.nt e) = DpE e + j1 e + 1 := by
  show (if isC e = true then 0 else _) = _
  rw [h]; rfl
theorem D_ntc {e : Ex} (h : isC e = true) : DpE (.nt e) = 0 := by
  show (if isC e = true then 0 else _) = _
  rw [h]; rfl
theorem prT_tree {c : Cnd} : ∀ (e : Ex) (b n : Nat), OkE e → AtE c e b → b + sz e - 1 < n → prT c n (b + sz e - 1) = tx e
  | e, b, 0, _, _, h => by omega
  | .tr, b, n + 1, ho, ha, hn => by unfold prT; rw [At_rt ha]; rfl
  | .cp k w m, b, n + 1, ho, ha, hn => by
    unfold prT
    have h1 := ho.1
    have e1 := At_rt ha
    rw [e1]
    have n0 : ¬ (rt (.cp k w m) b).1 = 0 := by show ¬ k = 0; omega
    have n4 : ¬ (rt (.cp k w m) b).1 = 4 := by show ¬ k = 4; omega
    have n5 : ¬ (rt (.cp k w m) b).1 = 5 := by show ¬ k = 5; omega
    have n6 : ¬ (rt (.cp k w m) b).1 = 6 := by show ¬ k = 6; omega
    rw [if_neg n0, if_neg n4, if_neg n5, if_neg n6]; rfl
  | .nt e, b, n + 1, ho, ha, hn => by
    have hp := sz_pos e
    obtain ⟨a1, a2⟩ := At_nt ha
    have e1 := At_rt ha
    have e2 := At_rt a1
    have hs : sz (.nt e) = sz e + 1 := rfl
    unfold prT
    have k0 : ¬ (rt (.nt e) b).1 = 0 := by show ¬ (4 : Int) = 0; omega
    have k4 : (rt (.nt e) b).1 = 4 := rfl
    have k1 : (rt (.nt e) b).2.1.toNat = b + sz e - 1 := Int.toNat_natCast _
    have ho : OkE e := ho
    rw [e1, if_neg k0, if_pos k4, k1, e2, rt_c ho, rt_j ho]
    cases hc : isC e with
    | true => rw [if_pos rfl, tx_ntc hc]
    | false => rw [if_neg (by decide), tx_nt hc, prT_tree e b n ho a1 (by omega)]
  | .an x y, b, n + 1, ho, ha, hn => by
    have hp := sz_pos x
    have hq := sz_pos y
    obtain ⟨a1, a2, a3⟩ := At_an ha
    have e1 := At_rt ha
    have e2 := At_rt a1
    have e3 := At_rt a2
    have hs : sz (.an x y) = sz x + sz y + 1 := rfl
    unfold prT
    have k0 : ¬ (rt (.an x y) b).1 = 0 := by show ¬ (5 : Int) = 0; omega
    have k4 : ¬ (rt (.an x y) b).1 = 4 := by show ¬ (5 : Int) = 4; omega
    have k5 : (rt (.an x y) b).1 = 5 := rfl
    have k1 : (rt (.an x y) b).2.1.toNat = b + sz x - 1 := Int.toNat_natCast _
    have k2 : (rt (.an x y) b).2.2.1.toNat = b + sz x + sz y - 1 := Int.toNat_natCast _
    rw [e1, if_neg k0, if_neg k4, if_pos k5, k1, k2, e2, e3, rt_o ho.1, rt_j ho.2, prT_tree x b n ho.1 a1 (by omega), prT_tree y (b + sz x) n ho.2 a2 (by omega)]
    rfl
  | .or x y, b, n + 1, ho, ha, hn => by
    have hp := sz_pos x
    have hq := sz_pos y
    obtain ⟨a1, a2, a3⟩ := At_or ha
    have e1 := At_rt ha
    have e2 := At_rt a1
    have e3 := At_rt a2
    have hs : sz (.or x y) = sz x + sz y + 1 := rfl
    unfold prT
    have k0 : ¬ (rt (.or x y) b).1 = 0 := by show ¬ (6 : Int) = 0; omega
    have k4 : ¬ (rt (.or x y) b).1 = 4 := by show ¬ (6 : Int) = 4; omega
    have k5 : ¬ (rt (.or x y) b).1 = 5 := by show ¬ (6 : Int) = 5; omega
    have k6 : (rt (.or x y) b).1 = 6 := rfl
    have k1 : (rt (.or x y) b).2.1.toNat = b + sz x - 1 := Int.toNat_natCast _
    have k2 : (rt (.or x y) b).2.2.1.toNat = b + sz x + sz y - 1 := Int.toNat_natCast _
    rw [e1, if_neg k0, if_neg k4, if_neg k5, if_pos k6, k1, k2, e3, rt_o ho.2, prT_tree x b n ho.1 a1 (by omega), prT_tree y (b + sz x) n ho.2 a2 (by omega)]
    rfl
def GdE (l : Cnd) (b : Nat) : Prop := ∀ i t, l[i]? = some t → shp t ((b + i : Nat) : Int) = true ∧ (cmpK t.1 = true → nmB t.2.2.2.1 = true)
theorem Gd_app {l m : Cnd} {b : Nat} (h1 : GdE l b) (h2 : GdE m (b + List.length l)) : GdE (l ++ m) b := by
  intro i t ht
  by_cases h : i < List.length l
  · rw [List.getElem?_append_left h] at ht; exact h1 i t ht
  · rw [List.getElem?_append_right (by omega)] at ht
    have := h2 _ t ht
    rwa [show b + List.length l + (i - List.length l) = b + i by omega] at this
theorem Gd_one {t : Tm} {b : Nat} (h : shp t (b : Int) = true) (h2 : cmpK t.1 = true → nmB t.2.2.2.1 = true) : GdE [t] b := by
  intro i u hu
  cases i with
  | zero => simp only [List.getElem?_cons_zero, Option.some.injEq] at hu; subst hu; exact ⟨h, h2⟩
  | succ i => simp at hu
theorem Gd_flat : ∀ (e : Ex) (b : Nat), OkE e → GdE (flat e b) b
  | .tr, b, _ => Gd_one rfl (fun h => by cases h)
  | .cp k w n, b, ho => Gd_one (by
      unfold shp
      have := ho.1
      rw [if_neg (show ¬ k = 0 by omega), if_pos (show 1 ≤ k ∧ k ≤ 3 from ho.1)]
      exact decide_eq_true ⟨rfl, rfl, ho.2.2⟩) (fun _ => ho.2.1)
  | .nt e, b, ho => by
    have hp := sz_pos e
    refine Gd_app (Gd_flat e b ho) (Gd_one ?_ (fun h => by cases h))
    rw [flatE_len]
    exact decide_eq_true ⟨rfl, rfl, by simp only [tmK]; omega, by simp only [tmK]; omega, rfl⟩
  | .an x y, b, ho => by
    have hp := sz_pos x
    have hq := sz_pos y
    refine Gd_app (Gd_app (Gd_flat x b ho.1) (by rw [flatE_len]; exact Gd_flat y _ ho.2)) (Gd_one ?_ (fun h => by cases h))
    rw [List.length_append, flatE_len, flatE_len]
    exact decide_eq_true ⟨rfl, rfl, by simp only [tmK]; omega, by simp only [tmK]; omega, by simp only [tmK]; omega, by simp only [tmK]; omega⟩
  | .or x y, b, ho => by
    have hp := sz_pos x
    have hq := sz_pos y
    refine Gd_app (Gd_app (Gd_flat x b ho.1) (by rw [flatE_len]; exact Gd_flat y _ ho.2)) (Gd_one ?_ (fun h => by cases h))
    rw [List.length_append, flatE_len, flatE_len]
    exact decide_eq_true ⟨rfl, rfl, by simp only [tmK]; omega, by simp only [tmK]; omega, by simp only [tmK]; omega, by simp only [tmK]; omega⟩
theorem scan_allW {σ ρ : Type} (g : σ → Nat → Option ρ) : ∀ (l : List σ) (k : Nat), (∀ (i : Nat) (x : σ), l[i]? = some x → g x (k + i) = none) → scan g l k = none
  | [], k, _ => rfl
  | a :: l, k, h => by
    unfold scan
    have h0 := h 0 a rfl
    rw [Nat.add_zero] at h0
    rw [h0]
    exact scan_allW g l (k + 1) fun i x hx => by
      have := h (i + 1) x (by simpa using hx)
      rwa [show k + (i + 1) = k + 1 + i by omega] at this
theorem flat_scan {e : Ex} (h : OkE e) : scan prS (flat e 0) 0 = none := by
  refine scan_allW _ _ _ fun i x hx => ?_
  obtain ⟨h1, h2⟩ := Gd_flat e 0 h i x hx
  unfold prS
  rw [h1]
  cases hk : cmpK x.1 with
  | false => rfl
  | true => rw [h2 hk]; rfl
end Go.K
set_option linter.unusedVariables false
set_option linter.unusedSimpArgs false
set_option maxRecDepth 100000
namespace Go.K
open Go.Sl Go.Sx Go.Proofs
theorem cmpX_size {k n : Int} {w : ByteArray} (h : OkE (.cp k w n)) (neg : Bool) : (cmpT (k, (0, (0, (w, n)))) neg).size ≤ 30 := by
  obtain ⟨h1, h2, h3⟩ := h
  unfold cmpT
  have := It_size h3
  have := opT_size k neg
  unfold nmB at h2
  simp only [Bool.and_eq_true, decide_eq_true_eq] at h2
  have := h2.1.1.2
  simp only [size_app, bts_size, List.length_cons, List.length_nil]; omega
theorem tx_size : ∀ e, OkE e → (tx e).size ≤ 50 * sz e
  | .tr, _ => by unfold tx sz; rw [bts_size]; simp
  | .cp k w n, h => by have := cmpX_size h false; unfold tx sz; omega
  | .nt e, h => by
    have h : OkE e := h
    have ih := tx_size e h
    have hs : sz (.nt e) = sz e + 1 := rfl
    cases hc : isC e with
    | true =>
      cases e with
      | cp k w n => have := cmpX_size h true; rw [hs]; unfold tx; omega
      | _ => cases hc
    | false =>
      rw [tx_nt hc, hs]
      have := rdT_size (tx e) (decide (j1 e = 1))
      simp only [size_app, bts_size, List.length_cons, List.length_nil]; omega
  | .an x y, h => by
    have h1 := tx_size x h.1
    have h2 := tx_size y h.2
    have := rdT_size (tx x) (decide (jo x = 1))
    have := rdT_size (tx y) (decide (j1 y = 1))
    unfold tx sz
    simp only [size_app, bts_size, List.length_cons, List.length_nil]; omega
  | .or x y, h => by
    have h1 := tx_size x h.1
    have h2 := tx_size y h.2
    have := rdT_size (tx y) (decide (jo y = 1))
    unfold tx sz
    simp only [size_app, bts_size, List.length_cons, List.length_nil]; omega
def sE (e : Ex) : Sz3 := (((tx e).size : Int), ((DpE e : Int), (sz e : Int)))
theorem rdS_E (e : Ex) (j : Nat) (hj : j ≤ 1) : rdS (sE e) (decide (j = 1)) = (((rdT (tx e) (decide (j = 1))).size : Int), (((DpE e + j : Nat) : Int), (sz e : Int))) := by
  unfold rdS sE rdT
  have : j = 0 ∨ j = 1 := by omega
  rcases this with e' | e' <;> subst e'
  · rfl
  · simp only [decide_true, cond_true, size_app, bts_size, List.length_cons, List.length_nil, Prod.mk.injEq]
    refine ⟨by omega, by omega, trivial⟩
theorem capS_E {r : Sz3} (h1 : r.1 ≤ 8001) (h2 : r.2.2 ≤ 31) : capS r = r := by
  unfold capS
  rw [if_neg (by omega), if_neg (by omega)]
theorem getS_szL (c : Cnd) : ∀ (N a : Nat), a < N → getS (szL c N) a = capS (szR c (szL c a) a)
  | 0, a, h => by omega
  | N + 1, a, h => by
    have hl := szL_len c N
    by_cases e : a < N
    · have ih := getS_szL c N a e
      unfold getS at ih ⊢
      have es : szL c (N + 1) = szL c N ++ [capS (szR c (szL c N) N)] := rfl
      rw [es, List.getD_eq_getElem?_getD, List.getElem?_append_left (by omega)]
      rwa [List.getD_eq_getElem?_getD] at ih
    · have ea : a = N := by omega
      subst ea
      unfold getS
      have es : szL c (a + 1) = szL c a ++ [capS (szR c (szL c a) a)] := rfl
      rw [es, List.getD_eq_getElem?_getD, List.getElem?_append_right (by omega), hl, Nat.sub_self]; rfl
theorem jo_le (e : Ex) : jo e ≤ 1 := Nat.le_trans (jo_j1 e) (j1_le e)
theorem mx_nat (a b : Nat) : mx (a : Int) (b : Int) = ((max a b : Nat) : Int) := by
  unfold mx
  split <;> omega
theorem szR_tree {c : Cnd} : ∀ (e : Ex) (b : Nat), OkE e → AtE c e b → sz e ≤ 30 → szR c (szL c (b + sz e - 1)) (b + sz e - 1) = sE e
  | .tr, b, ho, ha, hs => by
    unfold szR
    rw [At_rt ha]; rfl
  | .cp k w n, b, ho, ha, hs => by
    unfold szR
    rw [At_rt ha, if_pos (show cmpK (rt (.cp k w n) b).1 = true from rt_c ho b)]; rfl
  | .nt e, b, ho, ha, hs => by
    have hp := sz_pos e
    have ho : OkE e := ho
    obtain ⟨a1, a2⟩ := At_nt ha
    have e1 := At_rt ha
    have e2 := At_rt a1
    have hz : sz (.nt e) = sz e + 1 := rfl
    have hx := tx_size e ho
    have k4 : (rt (.nt e) b).1 = 4 := rfl
    have kc : ¬ cmpK (rt (.nt e) b).1 = true := fun h => by cases h
    have k1 : (rt (.nt e) b).2.1.toNat = b + sz e - 1 := Int.toNat_natCast _
    unfold szR
    rw [e1, if_neg kc, if_pos k4, k1, e2, rt_c ho, rt_j ho]
    cases hc : isC e with
    | true =>
      rw [if_pos rfl]
      unfold sE
      rw [tx_ntc (b := b) hc, D_ntc hc, hz]
      cases e with
      | cp k w n => rfl
      | _ => cases hc
    | false =>
      rw [if_neg (by decide), getS_szL c _ _ (show b + sz e - 1 < b + sz (.nt e) - 1 by omega), szR_tree e b ho a1 (by omega), capS_E (by unfold sE; simp only; omega) (by unfold sE; simp only; omega), rdS_E e (j1 e) (j1_le e)]
      unfold sE
      rw [tx_nt hc, D_nt hc, hz]
      simp only [size_app, bts_size, List.length_cons, List.length_nil, Prod.mk.injEq]
      refine ⟨by omega, by omega, by omega⟩
  | .an x y, b, ho, ha, hs => by
    have hp := sz_pos x
    have hq := sz_pos y
    obtain ⟨a1, a2, a3⟩ := At_an ha
    have e1 := At_rt ha
    have e2 := At_rt a1
    have e3 := At_rt a2
    have hz : sz (.an x y) = sz x + sz y + 1 := rfl
    have hx := tx_size x ho.1
    have hy := tx_size y ho.2
    have kc : ¬ cmpK (rt (.an x y) b).1 = true := fun h => by cases h
    have k4 : ¬ (rt (.an x y) b).1 = 4 := by show ¬ (5 : Int) = 4; omega
    have k5 : (rt (.an x y) b).1 = 5 := rfl
    have k1 : (rt (.an x y) b).2.1.toNat = b + sz x - 1 := Int.toNat_natCast _
    have k2 : (rt (.an x y) b).2.2.1.toNat = b + sz x + sz y - 1 := Int.toNat_natCast _
    unfold szR
    rw [e1, if_neg kc, if_neg k4, if_pos k5, k1, k2, e2, e3, rt_o ho.1, rt_j ho.2,
      getS_szL c _ _ (show b + sz x - 1 < b + sz (.an x y) - 1 by omega), getS_szL c _ _ (show b + sz x + sz y - 1 < b + sz (.an x y) - 1 by omega),
      szR_tree x b ho.1 a1 (by omega), szR_tree y (b + sz x) ho.2 a2 (by omega), capS_E (by unfold sE; simp only; omega) (by unfold sE; simp only; omega), capS_E (by unfold sE; simp only; omega) (by unfold sE; simp only; omega),
      rdS_E x (jo x) (jo_le x), rdS_E y (j1 y) (j1_le y)]
    unfold sE two
    rw [hz]
    simp only [tx, DpE, mx_nat, size_app, bts_size, List.length_cons, List.length_nil, Prod.mk.injEq]
    refine ⟨by omega, trivial, by omega⟩
  | .or x y, b, ho, ha, hs => by
    have hp := sz_pos x
    have hq := sz_pos y
    obtain ⟨a1, a2, a3⟩ := At_or ha
    have e1 := At_rt ha
    have e2 := At_rt a1
    have e3 := At_rt a2
    have hz : sz (.or x y) = sz x + sz y + 1 := rfl
    have hx := tx_size x ho.1
    have hy := tx_size y ho.2
    have kc : ¬ cmpK (rt (.or x y) b).1 = true := fun h => by cases h
    have k4 : ¬ (rt (.or x y) b).1 = 4 := by show ¬ (6 : Int) = 4; omega
    have k5 : ¬ (rt (.or x y) b).1 = 5 := by show ¬ (6 : Int) = 5; omega
    have k6 : (rt (.or x y) b).1 = 6 := rfl
    have k1 : (rt (.or x y) b).2.1.toNat = b + sz x - 1 := Int.toNat_natCast _
    have k2 : (rt (.or x y) b).2.2.1.toNat = b + sz x + sz y - 1 := Int.toNat_natCast _
    have hr0 : rdS (sE x) false = sE x := rfl
    unfold szR
    rw [e1, if_neg kc, if_neg k4, if_neg k5, if_pos k6, k1, k2, e3, rt_o ho.2,
      getS_szL c _ _ (show b + sz x - 1 < b + sz (.or x y) - 1 by omega), getS_szL c _ _ (show b + sz x + sz y - 1 < b + sz (.or x y) - 1 by omega),
      szR_tree x b ho.1 a1 (by omega), szR_tree y (b + sz x) ho.2 a2 (by omega), capS_E (by unfold sE; simp only; omega) (by unfold sE; simp only; omega), capS_E (by unfold sE; simp only; omega) (by unfold sE; simp only; omega),
      hr0, rdS_E y (jo y) (jo_le y)]
    unfold sE two
    rw [hz]
    simp only [tx, DpE, mx_nat, size_app, bts_size, List.length_cons, List.length_nil, Prod.mk.injEq]
    refine ⟨by omega, trivial, by omega⟩
theorem printB_tree {e : Ex} (ho : OkE e) (hd : DpE e ≤ 8) (hs : sz e ≤ 30) : printB (flat e 0) = (tx e, 0) := by
  have hp := sz_pos e
  have hl := flatE_len e 0
  have ha : AtE (flat e 0) e 0 := ⟨[], [], by simp, rfl⟩
  have hx := tx_size e ho
  unfold printB
  rw [if_neg (by omega), flat_scan ho]
  show printW (flat e 0) = _
  have h1 := szR_tree e 0 ho ha hs
  have h2 := prT_tree e 0 LF ho ha (by show 0 + sz e - 1 < 9223372036854775808; omega)
  rw [Nat.zero_add] at h1 h2
  unfold printW
  rw [hl, getS_szL _ _ _ (show sz e - 1 < sz e by omega), h1, capS_E (by unfold sE; simp only; omega) (by unfold sE; simp only; omega), h2]
  unfold sE
  rw [if_neg (by simp only; omega), if_neg (by simp only; omega)]
end Go.K
set_option linter.unusedVariables false
set_option linter.unusedSimpArgs false
set_option maxRecDepth 100000
namespace Go.K
open Go.Sl Go.Sx Go.Proofs
theorem num_itoaW {n : Int} {sg : Bool} (hs : n < 0 → sg = true) (h : -1000000000000 ≤ n ∧ n ≤ 1000000000000) : num 13 (Lib.itoa n) sg = some n := by
  have e10 : 10 ^ (12 + 1) = 10000000000000 := by decide
  unfold num
  by_cases hn : n < 0
  · rw [itoa_neg hn, hs hn]
    have ok := dec_ok (m := 13) (k := 12) (u := n.natAbs) (by omega) (by omega)
    have hh := dec_head n.natAbs (by omega)
    simp only [List.head?_cons, if_true, List.tail_cons, ok, Bool.true_and, decide_eq_true_eq, hh, ne_eq, not_false_eq_true, dec_val]
    congr 1
    omega
  · rw [itoa_pos hn]
    have ok := dec_ok (m := 13) (k := 12) (u := n.toNat) (by omega) (by omega)
    have hh : (Lib.decDigits n.toNat).head? ≠ some 45 := by
      intro e
      have := isD_iff.1 (dec_all n.toNat 45 (List.mem_of_mem_head? e))
      have e45 : (45 : UInt8).toNat = 45 := rfl
      omega
    rw [if_neg hh, ok, dec_val]
    simp only [if_true]
    congr 1
    omega
theorem num_It {n : Int} (h : -1000000000000 ≤ n ∧ n ≤ 1000000000000) : num 13 (It n).data.toList true = some n := by
  unfold It; rw [ofL_data]; exact num_itoaW (fun _ => rfl) h
theorem opS_T {k : Int} (neg : Bool) (h : 1 ≤ k ∧ k ≤ 3) : opS (opT k neg) = some (k, neg) := by
  have : k = 1 ∨ k = 2 ∨ k = 3 := by omega
  rcases this with e | e | e <;> subst e <;> cases neg <;> decide
def rwW (l : List ByteArray) (j : Nat) : List ByteArray := if j = 1 then wOpen :: (l ++ [wClose]) else l
def tw : Ex → List ByteArray
  | .tr => [wTrue]
  | .cp k w n => [w, opT k false, It n]
  | .nt (.cp k w n) => [w, opT k true, It n]
  | .nt e => wNot :: rwW (tw e) (j1 e)
  | .an a b => rwW (tw a) (jo a) ++ (wAnd :: rwW (tw b) (j1 b))
  | .or a b => tw a ++ (wOr :: rwW (tw b) (jo b))
theorem tw_nt {e : Ex} (h : isC e = false) : tw (.nt e) = wNot :: rwW (tw e) (j1 e) := by
  cases e with
  | cp k w n => cases h
  | _ => rfl
def Occ (ws : List ByteArray) (i : Nat) (l : List ByteArray) : Prop := ∃ pre post, ws = pre ++ (l ++ post) ∧ pre.length = i
theorem Occ.hd {ws : List ByteArray} {i : Nat} {w : ByteArray} {l : List ByteArray} (h : Occ ws i (w :: l)) : wAt ws i = w := by
  obtain ⟨pre, post, h, hl⟩ := h
  subst hl h
  unfold wAt
  rw [List.getD_eq_getElem?_getD, List.getElem?_append_right (Nat.le_refl _), Nat.sub_self]; rfl
theorem Occ.tl {ws : List ByteArray} {i : Nat} {w : ByteArray} {l : List ByteArray} (h : Occ ws i (w :: l)) : Occ ws (i + 1) l := by
  obtain ⟨pre, post, h, hl⟩ := h
  exact ⟨pre ++ [w], post, by rw [h]; simp only [List.append_assoc, List.cons_append, List.nil_append], by rw [List.length_append, hl]; rfl⟩
theorem Occ.l {ws : List ByteArray} {i : Nat} {l m : List ByteArray} (h : Occ ws i (l ++ m)) : Occ ws i l := by
  obtain ⟨pre, post, h, hl⟩ := h
  exact ⟨pre, m ++ post, by rw [h, List.append_assoc], hl⟩
theorem Occ.r {ws : List ByteArray} {i : Nat} {l m : List ByteArray} (h : Occ ws i (l ++ m)) : Occ ws (i + l.length) m := by
  obtain ⟨pre, post, h, hl⟩ := h
  exact ⟨pre ++ l, post, by rw [h]; simp only [List.append_assoc], by rw [List.length_append, hl]⟩
theorem Occ.le {ws : List ByteArray} {i : Nat} {l : List ByteArray} (h : Occ ws i l) : i + l.length ≤ ws.length := by
  obtain ⟨pre, post, h, hl⟩ := h
  rw [h, List.length_append, List.length_append]; omega
def StE (i : Nat) (ts : Cnd) (e : Ex) : PS := (i, (ts ++ flat e (List.length ts), ((List.length ts + sz e - 1 : Nat) : Int)))
theorem St_mk {i j : Nat} {ts : Cnd} {a b c : Ex} {kind : Int} (hsz : sz c = sz a + sz b + 1)
    (hfl : flat c (List.length ts) = flat a (List.length ts) ++ flat b (List.length ts + sz a) ++ [tmK kind ((List.length ts + sz a - 1 : Nat) : Int) ((List.length ts + sz a + sz b - 1 : Nat) : Int)]) :
    ((StE j (StE i ts a).2.1 b).1, ((StE j (StE i ts a).2.1 b).2.1 ++ [tmK kind (StE i ts a).2.2 (StE j (StE i ts a).2.1 b).2.2], ((List.length (StE j (StE i ts a).2.1 b).2.1 : Nat) : Int))) = StE j ts c := by
  have hl : List.length (ts ++ flat a (List.length ts)) = List.length ts + sz a := by rw [List.length_append, flatE_len]
  unfold StE
  simp only [hl, hfl, hsz, List.length_append, flatE_len, List.append_assoc, Prod.mk.injEq, true_and]
  omega
theorem nm_ne {w : ByteArray} (h : nmB w = true) : ¬ (w = wNot ∨ w = wOpen) ∧ ¬ w = wTrue := by
  refine ⟨fun e => ?_, fun e => ?_⟩
  · rcases e with e | e <;> subst e <;> exact absurd h (by decide)
  · subst e; exact absurd h (by decide)
def OneT (ws : List ByteArray) (F : Nat) (e : Ex) : Prop := ∀ (n deep i : Nat) (ts : Cnd), DpE e + j1 e + deep ≤ 8 → 9 ≤ n + deep → Occ ws i (rwW (tw e) (j1 e)) → oneS ws F n deep i ts = .inl (StE (i + (rwW (tw e) (j1 e)).length) ts e)
def AllT (ws : List ByteArray) (F : Nat) (e : Ex) : Prop := ∀ (n deep i : Nat) (ts : Cnd), DpE e + jo e + deep ≤ 8 → 9 ≤ n + deep → Occ ws i (rwW (tw e) (jo e)) → ∃ F', ws.length - (i + (rwW (tw e) (jo e)).length) < F' ∧ allS ws (oneS ws F n deep) F i ts = loopS wAnd 5 ws (oneS ws F n deep) F' (StE (i + (rwW (tw e) (jo e)).length) ts e)
def CdT (ws : List ByteArray) (F : Nat) (e : Ex) : Prop := ∀ (n deep i : Nat) (ts : Cnd), DpE e + deep ≤ 8 → 9 ≤ n + deep → Occ ws i (tw e) → wAt ws (i + (tw e).length) ≠ wAnd → ∃ F', ws.length - (i + (tw e).length) < F' ∧ cndS ws (oneS ws F n deep) F i ts = loopS wOr 6 ws (allS ws (oneS ws F n deep) F) F' (StE (i + (tw e).length) ts e)
theorem loop_stop {wrd : ByteArray} {kind : Int} {ws : List ByteArray} {next : Nat → Cnd → PE} {F : Nat} {s : PS} (hF : 0 < F) (h : wAt ws s.1 ≠ wrd) : loopS wrd kind ws next F s = .inl s := by
  obtain ⟨f, rfl⟩ : ∃ f, F = f + 1 := ⟨F - 1, by omega⟩
  unfold loopS; rw [if_neg h]
theorem loop_go {wrd : ByteArray} {kind : Int} {ws : List ByteArray} {next : Nat → Cnd → PE} {F : Nat} {s t : PS} (h : wAt ws s.1 = wrd) (hn : next (s.1 + 1) s.2.1 = .inl t) : loopS wrd kind ws next (F + 1) s = loopS wrd kind ws next F (t.1, (t.2.1 ++ [tmK kind s.2.2 t.2.2], ((List.length t.2.1 : Nat) : Int))) := by
  show (if wAt ws s.1 = wrd then _ else _) = _
  rw [if_pos h, hn]
theorem all_of_one {ws : List ByteArray} {F : Nat} (hF : ws.length < F) {e : Ex} (hj : j1 e = jo e) (h : OneT ws F e) : AllT ws F e := by
  intro n deep i ts h1 h2 h3
  rw [← hj] at h1 h3 ⊢
  refine ⟨F, by omega, ?_⟩
  unfold allS
  rw [h n deep i ts h1 h2 h3]
theorem cd_of_all {ws : List ByteArray} {F : Nat} (hF : ws.length < F) {e : Ex} (hj : jo e = 0) (h : AllT ws F e) : CdT ws F e := by
  intro n deep i ts h1 h2 h3 h4
  obtain ⟨F', f1, f2⟩ := h n deep i ts (by omega) h2 (by rw [hj]; exact h3)
  have hr : rwW (tw e) (jo e) = tw e := by rw [hj]; rfl
  rw [hr] at f1 f2
  refine ⟨F, by omega, ?_⟩
  unfold cndS
  rw [f2, loop_stop (by omega) h4]
theorem one_of_cd {ws : List ByteArray} {F : Nat} (hF : ws.length < F) {e : Ex} (hj : j1 e = 1) (h : CdT ws F e) : OneT ws F e := by
  intro n deep i ts h1 h2 h3
  have hr : rwW (tw e) (j1 e) = wOpen :: (tw e ++ [wClose]) := by rw [hj]; rfl
  rw [hr] at h3 ⊢
  rw [hj] at h1
  cases n with
  | zero => omega
  | succ n =>
    have h4 := h3.hd
    have h5 := h3.tl
    have h6 := h5.r.hd
    have hlen : (wOpen :: (tw e ++ [wClose])).length = (tw e).length + 2 := by simp
    obtain ⟨F', f1, f2⟩ := h n (deep + 1) (i + 1) ts (by omega) (by omega) h5.l (by rw [h6]; decide)
    unfold oneS
    rw [if_pos (Or.inr h4), if_neg (by omega), if_neg (by rw [h4]; decide), f2, loop_stop (by omega) (by show wAt ws (i + 1 + (tw e).length) ≠ wOr; rw [h6]; decide)]
    show (if wAt ws (i + 1 + (tw e).length) = wClose then _ else _) = _
    rw [if_pos h6, hlen]
    show Sum.inl (i + 1 + (tw e).length + 1, (StE (i + 1 + (tw e).length) ts e).2) = _
    rw [show i + 1 + (tw e).length + 1 = i + ((tw e).length + 2) by omega]; rfl
theorem cmp_words {ws : List ByteArray} {F n deep i : Nat} {ts : Cnd} {k m : Int} {w : ByteArray} (neg : Bool) (ho : OkE (.cp k w m)) (hn : 9 ≤ n + deep) (hd : deep ≤ 8) (h : Occ ws i [w, opT k neg, It m]) :
    oneS ws F n deep i ts = .inl (if neg then (i + 3, (ts ++ [(k, (0, (0, (w, m))))] ++ [tmK 4 (List.length ts : Nat) 0], ((List.length ts + 1 : Nat) : Int))) else (i + 3, (ts ++ [(k, (0, (0, (w, m))))], ((List.length ts : Nat) : Int)))) := by
  obtain ⟨h1, h2, h3⟩ := ho
  obtain ⟨n1, n2⟩ := nm_ne h2
  cases n with
  | zero => omega
  | succ n =>
    have e1 := h.hd
    have e2 := h.tl.hd
    have e3 := h.tl.tl.hd
    unfold oneS
    rw [e1, if_neg n1, if_neg n2, if_neg (by rw [h2]; decide)]
    unfold cmpS
    rw [e2, opS_T neg h1]
    simp only
    rw [e3, num_It h3]
    simp only
    rw [if_pos h3]
    cases neg <;> rfl
theorem tree_all {ws : List ByteArray} {F : Nat} (hF : ws.length < F) : ∀ e, OkE e → OneT ws F e ∧ AllT ws F e ∧ CdT ws F e
  | .tr, ho => by
    have h1 : OneT ws F .tr := by
      intro n deep i ts h1 h2 h3
      have e1 : wAt ws i = wTrue := Occ.hd (l := []) h3
      cases n with
      | zero => have h1 : 0 + 0 + deep ≤ 8 := h1; omega
      | succ n =>
        unfold oneS
        rw [e1, if_neg (by decide), if_pos rfl]; rfl
    have h2 := all_of_one hF rfl h1
    exact ⟨h1, h2, cd_of_all hF rfl h2⟩
  | .cp k w m, ho => by
    have h1 : OneT ws F (.cp k w m) := by
      intro n deep i ts h1 h2 h3
      have h1 : 0 + 0 + deep ≤ 8 := h1
      rw [cmp_words false ho h2 (by omega) h3]; rfl
    have h2 := all_of_one hF rfl h1
    exact ⟨h1, h2, cd_of_all hF rfl h2⟩
  | .nt e, ho => by
    have ho : OkE e := ho
    obtain ⟨i1, i2, i3⟩ := tree_all hF e ho
    have h1 : OneT ws F (.nt e) := by
      intro n deep i ts h1 h2 h3
      cases hc : isC e with
      | true =>
        cases e with
        | cp k w m =>
          have h1 : (if isC (.cp k w m) = true then 0 else DpE (.cp k w m) + j1 (.cp k w m) + 1) + 0 + deep ≤ 8 := h1
          rw [if_pos hc] at h1
          rw [cmp_words true ho h2 (by omega) h3]
          show Sum.inl (i + 3, (ts ++ [(k, (0, (0, (w, m))))] ++ [tmK 4 (List.length ts : Nat) 0], ((List.length ts + 1 : Nat) : Int))) = Sum.inl (i + 3, (ts ++ ([(k, (0, (0, (w, m))))] ++ [tmK 4 ((List.length ts + 1 - 1 : Nat) : Int) 0]), ((List.length ts + (1 + 1) - 1 : Nat) : Int)))
          rw [Nat.add_sub_cancel, List.append_assoc]; rfl
        | _ => cases hc
      | false =>
        have hr : rwW (tw (.nt e)) (j1 (.nt e)) = wNot :: rwW (tw e) (j1 e) := tw_nt hc
        rw [D_nt hc] at h1
        have h1 : DpE e + j1 e + 1 + 0 + deep ≤ 8 := h1
        rw [hr] at h3 ⊢
        cases n with
        | zero => omega
        | succ n =>
          have e1 := h3.hd
          unfold oneS
          rw [e1, if_pos (Or.inl rfl), if_neg (by omega), if_pos rfl, i1 n (deep + 1) (i + 1) ts (by omega) (by omega) h3.tl]
          unfold StE
          simp only [flat, sz, List.length_append, flatE_len, List.append_assoc, List.length_cons]
          rw [show i + 1 + (rwW (tw e) (j1 e)).length = i + ((rwW (tw e) (j1 e)).length + 1) by omega]
          rfl
    have h2 := all_of_one hF rfl h1
    exact ⟨h1, h2, cd_of_all hF rfl h2⟩
  | .an a b, ho => by
    obtain ⟨a1, a2, a3⟩ := tree_all hF a ho.1
    obtain ⟨b1, b2, b3⟩ := tree_all hF b ho.2
    have h2 : AllT ws F (.an a b) := by
      intro n deep i ts h1 h2 h3
      have h1 : max (DpE a + jo a) (DpE b + j1 b) + 0 + deep ≤ 8 := h1
      have h3 : Occ ws i (rwW (tw a) (jo a) ++ (wAnd :: rwW (tw b) (j1 b))) := h3
      obtain ⟨F', f1, f2⟩ := a2 n deep i ts (by omega) h2 h3.l
      have e1 := h3.r.hd
      have hle := h3.le
      have hb := b1 n deep (i + (rwW (tw a) (jo a)).length + 1) (StE (i + (rwW (tw a) (jo a)).length) ts a).2.1 (by omega) h2 h3.r.tl
      have hlen : (rwW (tw (.an a b)) (jo (.an a b))).length = (rwW (tw a) (jo a)).length + ((rwW (tw b) (j1 b)).length + 1) := by
        show (rwW (tw a) (jo a) ++ (wAnd :: rwW (tw b) (j1 b))).length = _
        rw [List.length_append, List.length_cons]
      rw [List.length_append, List.length_cons] at hle
      obtain ⟨f, rfl⟩ : ∃ f, F' = f + 1 := ⟨F' - 1, by omega⟩
      refine ⟨f, by rw [hlen]; omega, ?_⟩
      rw [f2, loop_go e1 hb, St_mk (c := .an a b) rfl rfl, hlen, show i + (rwW (tw a) (jo a)).length + 1 + (rwW (tw b) (j1 b)).length = i + ((rwW (tw a) (jo a)).length + ((rwW (tw b) (j1 b)).length + 1)) by omega]
    have h3 := cd_of_all hF rfl h2
    exact ⟨one_of_cd hF rfl h3, h2, h3⟩
  | .or a b, ho => by
    obtain ⟨a1, a2, a3⟩ := tree_all hF a ho.1
    obtain ⟨b1, b2, b3⟩ := tree_all hF b ho.2
    have h3 : CdT ws F (.or a b) := by
      intro n deep i ts h1 h2 h3 h4
      have h1 : max (DpE a) (DpE b + jo b) + deep ≤ 8 := h1
      have h3 : Occ ws i (tw a ++ (wOr :: rwW (tw b) (jo b))) := h3
      have e1 := h3.r.hd
      have hle := h3.le
      have hlen : (tw (.or a b)).length = (tw a).length + ((rwW (tw b) (jo b)).length + 1) := by
        show (tw a ++ (wOr :: rwW (tw b) (jo b))).length = _
        rw [List.length_append, List.length_cons]
      rw [List.length_append, List.length_cons] at hle
      rw [hlen] at h4
      obtain ⟨F', f1, f2⟩ := a3 n deep i ts (by omega) h2 h3.l (by rw [e1]; decide)
      obtain ⟨G', g1, g2⟩ := b2 n deep (i + (tw a).length + 1) (StE (i + (tw a).length) ts a).2.1 (by omega) h2 h3.r.tl
      have ei : i + (tw a).length + 1 + (rwW (tw b) (jo b)).length = i + ((tw a).length + ((rwW (tw b) (jo b)).length + 1)) := by omega
      rw [loop_stop (by omega) (by show wAt ws (i + (tw a).length + 1 + (rwW (tw b) (jo b)).length) ≠ wAnd; rw [ei]; exact h4)] at g2
      obtain ⟨f, rfl⟩ : ∃ f, F' = f + 1 := ⟨F' - 1, by omega⟩
      refine ⟨f, by rw [hlen]; omega, ?_⟩
      rw [f2, loop_go e1 g2, St_mk (c := .or a b) rfl rfl, hlen, ei]
    have h1 := one_of_cd hF rfl h3
    exact ⟨h1, all_of_one hF rfl h1, h3⟩
theorem parseW_tree {e : Ex} (ho : OkE e) (hd : DpE e ≤ 8) (hs : sz e ≤ 30) : parseW (tw e) = (flat e 0, (0, 0)) := by
  obtain ⟨h1, h2, h3⟩ := tree_all (ws := tw e) (F := (tw e).length + 1) (by omega) e ho
  have hend : wAt (tw e) (tw e).length = bts [] := wAt_end _
  obtain ⟨F', f1, f2⟩ := h3 LF 0 0 [] (by omega) (by show 9 ≤ 9223372036854775808 + 0; omega) ⟨[], [], by simp, rfl⟩ (by rw [Nat.zero_add, hend]; decide)
  rw [Nat.zero_add] at f1 f2
  have hl := flatE_len e 0
  unfold parseW condW
  rw [f2, loop_stop (by omega) (by show wAt (tw e) (tw e).length ≠ wOr; rw [hend]; decide)]
  show (if (tw e).length < (tw e).length then _ else _) = _
  rw [if_neg (by omega)]
  show (if 30 < List.length ([] ++ flat e 0) then _ else _) = _
  rw [List.nil_append, if_neg (by omega)]
  rfl
end Go.K
set_option linter.unusedVariables false
set_option linter.unusedSimpArgs false
set_option maxRecDepth 100000
namespace Go.K
open Go.Sl Go.Sx Go.Proofs
theorem wd_app : ∀ (l cur m : List UInt8), wd cur (l ++ 32 :: m) = wd cur l ++ wd [] m
  | [], cur, m => by
    simp only [List.nil_append, wd, if_true]
    by_cases h : cur = []
    · simp only [h, if_true, List.nil_append]
    · simp only [h, if_false, List.cons_append, List.nil_append]
  | b :: r, cur, m => by
    simp only [List.cons_append, wd]
    by_cases hb : b = 32
    · by_cases h : cur = []
      · simp only [hb, h, if_true, wd_app r [] m]
      · simp only [hb, h, if_true, if_false, wd_app r [] m, List.cons_append]
    · simp only [hb, if_false, wd_app r (cur ++ [b]) m]
theorem words_sp (a b : ByteArray) : wordsB (a ++ bts [32] ++ b) = wordsB a ++ wordsB b := by
  unfold wordsB
  have e : (a ++ bts [32] ++ b).data.toList = a.data.toList ++ 32 :: b.data.toList := by
    rw [app_data, app_data, List.append_assoc]; rfl
  rw [e, wd_app, List.map_append]
theorem words_one {s : ByteArray} (h1 : s.data.toList ≠ []) (h2 : ∀ b ∈ s.data.toList, b ≠ 32) : wordsB s = [s] := by
  unfold wordsB
  rw [wd_one _ h1 h2]
  simp only [List.map_cons, List.map_nil, ofL_back]
theorem words_lit {l : List Nat} (h1 : (bts l).data.toList ≠ []) (h2 : ∀ b ∈ (bts l).data.toList, b ≠ 32) : wordsB (bts l) = [bts l] := words_one h1 h2
theorem word_rd (s : ByteArray) : (bts [40, 32] ++ s) ++ bts [32, 41] = ((bts [40] ++ bts [32] ++ s) ++ bts [32]) ++ bts [41] := by
  apply ext_data; simp only [app_data, List.append_assoc]; rfl
theorem words_rd {s : ByteArray} {j : Nat} (hj : j ≤ 1) : wordsB (rdT s (decide (j = 1))) = rwW (wordsB s) j := by
  have : j = 0 ∨ j = 1 := by omega
  rcases this with e | e <;> subst e
  · rfl
  · show wordsB ((bts [40, 32] ++ s) ++ bts [32, 41]) = wOpen :: (wordsB s ++ [wClose])
    rw [word_rd, words_sp, words_sp, words_lit (by decide) (by decide), words_lit (by decide) (by decide)]; rfl
theorem nm_no {w : ByteArray} (h : nmB w = true) : w.data.toList ≠ [] ∧ ∀ b ∈ w.data.toList, b ≠ 32 := by
  unfold nmB at h
  simp only [Bool.and_eq_true, decide_eq_true_eq] at h
  refine ⟨fun e => ?_, fun b hb e => ?_⟩
  · have := h.1.1.1
    rw [size_len, e] at this
    simp at this
  · have hs : scan chB w.data.toList 0 = none := by simpa using h.2
    obtain ⟨i, hi⟩ := List.getElem?_of_mem hb
    have := scan_noneW chB _ 0 hs i b hi
    subst e
    unfold chB at this
    have e1 : letB 32 = false := by decide
    have e2 : digB 32 = false := by decide
    rw [e1, e2] at this
    cases this
theorem op_no {k : Int} (neg : Bool) (h : 1 ≤ k ∧ k ≤ 3) : (opT k neg).data.toList ≠ [] ∧ ∀ b ∈ (opT k neg).data.toList, b ≠ 32 := by
  have : k = 1 ∨ k = 2 ∨ k = 3 := by omega
  rcases this with e | e | e <;> subst e <;> cases neg <;> decide
theorem It_no (n : Int) : (It n).data.toList ≠ [] ∧ ∀ b ∈ (It n).data.toList, b ≠ 32 := by
  unfold It
  rw [ofL_data]
  exact ⟨itoa_ne n, fun b hb => itoa_no hb (by decide) (by decide)⟩
theorem words_cmp {k n : Int} {w : ByteArray} (neg : Bool) (h : OkE (.cp k w n)) : wordsB (cmpT (k, (0, (0, (w, n)))) neg) = [w, opT k neg, It n] := by
  obtain ⟨h1, h2, h3⟩ := h
  show wordsB ((((w ++ bts [32]) ++ opT k neg) ++ bts [32]) ++ It n) = _
  rw [words_sp, words_sp, words_one (nm_no h2).1 (nm_no h2).2, words_one (op_no neg h1).1 (op_no neg h1).2, words_one (It_no n).1 (It_no n).2]; rfl
theorem words_tx : ∀ e, OkE e → wordsB (tx e) = tw e
  | .tr, _ => words_lit (by decide) (by decide)
  | .cp k w n, h => words_cmp false h
  | .nt e, h => by
    have h : OkE e := h
    cases hc : isC e with
    | true =>
      cases e with
      | cp k w n => exact words_cmp true h
      | _ => cases hc
    | false =>
      rw [tx_nt hc, tw_nt hc, ← word_not, words_sp, words_rd (j1_le e), words_tx e h, words_lit (by decide) (by decide)]; rfl
  | .an x y, h => by
    show wordsB ((rdT (tx x) (decide (jo x = 1)) ++ bts [32, 97, 110, 100, 32]) ++ rdT (tx y) (decide (j1 y = 1))) = rwW (tw x) (jo x) ++ (wAnd :: rwW (tw y) (j1 y))
    rw [← word_and, words_sp, words_sp, words_rd (jo_le x), words_rd (j1_le y), words_tx x h.1, words_tx y h.2, words_lit (by decide) (by decide), List.append_assoc]; rfl
  | .or x y, h => by
    show wordsB ((tx x ++ bts [32, 111, 114, 32]) ++ rdT (tx y) (decide (jo y = 1))) = tw x ++ (wOr :: rwW (tw y) (jo y))
    rw [← word_or, words_sp, words_sp, words_rd (jo_le y), words_tx x h.1, words_tx y h.2, words_lit (by decide) (by decide), List.append_assoc]; rfl
theorem parseB_tx {e : Ex} (ho : OkE e) (hd : DpE e ≤ 8) (hs : sz e ≤ 30) : parseB (tx e) = (flat e 0, (0, 0)) := by
  have := tx_size e ho
  unfold parseB
  rw [if_neg (by omega), words_tx e ho, parseW_tree ho hd hs]
theorem roundE {s : ByteArray} (h : (parseB s).2.2 = 0) : ∃ p, printB (parseB s).1 = (p, 0) ∧ parseB p = ((parseB s).1, (0, 0)) := by
  obtain ⟨e, e1, e2, e3, e4⟩ := parseB_tree h
  refine ⟨tx e, ?_, ?_⟩
  · rw [e1, printB_tree e2 e3 e4]
  · rw [e1, parseB_tx e2 e3 e4]
end Go.K
set_option linter.unusedVariables false
set_option linter.unusedSimpArgs false
set_option maxRecDepth 100000
namespace Go.K
open Go.Sl Go.Sx Go.Proofs
theorem plF_get {f : List Fct} {s : ByteArray} (h : f.any (fun x => decide (x.1 = s)) = true) : ∃ n : Nat, plF f s = (n : Int) ∧ n < f.length ∧ ∃ x, f[n]? = some x ∧ x.1 = s := by
  rw [← idx_any] at h
  cases hi : idx (fun x : Fct => decide (x.1 = s)) f 0 with
  | none => rw [hi] at h; cases h
  | some n =>
    obtain ⟨x, e1, e2, _⟩ := idx_some hi
    exact ⟨n, by unfold plF idxI; rw [hi], idx_lt hi, x, e1, by simpa using e2⟩
theorem term_ok {f : List Fct} {t : Tm} {i : Nat} (h : condS f t i = none) : shp t i = true ∧ (cmpK t.1 = true → f.any (fun x => decide (x.1 = t.2.2.2.1)) = true) := by
  unfold condS at h
  cases h1 : shp t i with
  | false => rw [h1] at h; cases h
  | true =>
    rw [h1] at h
    simp only [Bool.not_true, cond_false] at h
    refine ⟨rfl, fun hc => ?_⟩
    rw [hc] at h
    cases h2 : f.any (fun x => decide (x.1 = t.2.2.2.1)) with
    | true => rfl
    | false => rw [h2] at h; cases h
inductive Kdt (f : List Fct) (i : Nat) : Tm → Prop
  | tru {a b s n} : Kdt f i (0, (a, (b, (s, n))))
  | cmp {k a b s n} : (k = 1 ∨ k = 2 ∨ k = 3) → f.any (fun x => decide (x.1 = s)) = true → Kdt f i (k, (a, (b, (s, n))))
  | neg {a : Nat} {b s n} : a < i → Kdt f i (4, ((a : Int), (b, (s, n))))
  | bin {k} {a b : Nat} {s n} : (k = 5 ∨ k = 6) → a < i → b < i → Kdt f i (k, ((a : Int), ((b : Int), (s, n))))
theorem term_kd {f : List Fct} {t : Tm} {i : Nat} (h : condS f t i = none) : Kdt f i t := by
  obtain ⟨h1, h2⟩ := term_ok h
  obtain ⟨k, a, b, s, n⟩ := t
  unfold shp at h1
  simp only at h1 h2
  by_cases k0 : k = 0
  · subst k0; exact .tru
  · rw [if_neg k0] at h1
    by_cases k1 : 1 ≤ k ∧ k ≤ 3
    · exact .cmp (by omega) (h2 (decide_eq_true k1))
    · rw [if_neg k1] at h1
      by_cases k4 : k = 4
      · subst k4
        simp only [if_true, decide_eq_true_eq] at h1
        obtain ⟨m, rfl⟩ := Int.eq_ofNat_of_zero_le h1.2.2.1
        exact .neg (by omega)
      · rw [if_neg k4] at h1
        by_cases k5 : k = 5 ∨ k = 6
        · rw [if_pos k5, decide_eq_true_eq] at h1
          obtain ⟨m, rfl⟩ := Int.eq_ofNat_of_zero_le h1.2.2.1
          obtain ⟨q, rfl⟩ := Int.eq_ofNat_of_zero_le h1.2.2.2.2.1
          exact .bin k5 (by omega) (by omega)
        · rw [if_neg k5] at h1; cases h1
end Go.K
set_option linter.unusedVariables false
set_option linter.unusedSimpArgs false
set_option maxRecDepth 100000
namespace Go.K
open Go.Sl Go.Sx Go.Proofs
structure VC (c : Cd) : Prop where
  fn : c.2.1 ≠ []
  fl : c.2.1.length ≤ 6
  ll : c.2.2.length ≤ 12
  fs : scan (factS c.2.1) c.2.1 0 = none
  rs : scan (ruleS c.2.1 c.2.2) c.2.2 0 = none
  mn : manyL (startsL c.2.1 (condsL c.2.2)) ≤ 4000
theorem VC.of {c : Cd} (h : codeE c = 0) : VC c := by
  unfold codeE at h
  cases h0 : nmB c.1 with
  | false => rw [h0] at h; cases h
  | true =>
    rw [h0] at h
    simp only [Bool.not_true, cond_false] at h
    split at h
    · cases h
    · rename_i h1
      split at h
      · cases h
      · rename_i h2
        have key : ∀ (e : Int) (l : List Fct) (i : Nat), scan (factS c.2.1) l i = some e → e ≠ 0 := by
          intro e l
          induction l with
          | nil => intro i hh; cases hh
          | cons x l ih =>
            intro i hh
            simp only [scan] at hh
            cases hf : factS c.2.1 x i with
            | none => rw [hf] at hh; exact ih _ hh
            | some e' =>
              rw [hf] at hh
              cases hh
              unfold factS at hf
              intro he
              subst he
              revert hf
              cases (!nmB x.1 || (c.2.1.take i).any fun y => decide (y.1 = x.1)) with
              | true => simp
              | false => cases spanB x <;> simp
        have key2 : ∀ (e : Int) (l : List Rl) (i : Nat), scan (ruleS c.2.1 c.2.2) l i = some e → e ≠ 0 := by
          intro e l
          induction l with
          | nil => intro i hh; cases hh
          | cons x l ih =>
            intro i hh
            simp only [scan] at hh
            cases hf : ruleS c.2.1 c.2.2 x i with
            | none => rw [hf] at hh; exact ih _ hh
            | some e' =>
              rw [hf] at hh
              cases hh
              unfold ruleS at hf
              split at hf
              · rename_i hz; cases hf; exact hz
              · cases hf
        split at h
        · rename_i e he; exact absurd h (key _ _ _ he)
        · rename_i he
          split at h
          · rename_i e he2; exact absurd h (key2 _ _ _ he2)
          · rename_i he2
            split at h
            · cases h
            · rename_i hm
              exact ⟨h1, by omega, by omega, he, he2, by omega⟩
theorem VC.rule {c : Cd} (h : VC c) {i : Nat} {r : Rl} (hr : c.2.2[i]? = some r) : nmB r.1 = true ∧ hasR (c.2.2.take i) r.1 = false ∧ (0 ≤ r.2.1 ∧ r.2.1 ≤ r.2.2.1 ∧ r.2.2.1 ≤ 100000) ∧ condE c.2.1 r.2.2.2.1 = 0 ∧ condE c.2.1 r.2.2.2.2.1 = 0 ∧ r.2.2.2.2.2.length ≤ 6 ∧ (scan (unlS (c.2.2.take i) r.2.2.2.2.2) r.2.2.2.2.2 0).getD 0 = 0 := rule_ok (rules_ok h.rs hr)
theorem VC.fl' {c : Cd} (h : VC c) : c.2.1.length < LF := by show c.2.1.length < 9223372036854775808; have := h.fl; omega
end Go.K
set_option linter.unusedVariables false
set_option linter.unusedSimpArgs false
set_option maxRecDepth 100000
namespace Go.K
open Go.Sl Go.Sx Go.Proofs
def prodL (l : List (List Int)) : Nat := l.foldr (fun x n => x.length * n) 1
theorem choL_len : ∀ l : List (List Int), (choL l).length = prodL l
  | [] => rfl
  | x :: l => by
    have ih := choL_len l
    show (x.flatMap fun n => (choL l).map (n :: ·)).length = x.length * prodL l
    rw [← ih]
    induction x with
    | nil => simp
    | cons a x ihx => rw [List.flatMap_cons, List.length_append, ihx, List.length_map, List.length_cons, Nat.add_mul]; omega
theorem prod_pos : ∀ {l : List (List Int)}, (∀ x ∈ l, x ≠ []) → 1 ≤ prodL l
  | [], _ => Nat.le_refl _
  | x :: l, h => Nat.mul_pos (List.length_pos_iff.2 (h x (List.mem_cons_self ..))) (prod_pos fun y hy => h y (List.mem_cons_of_mem _ hy))
theorem many_prod : ∀ (l : List (List Int)) (n : Nat), (∀ x ∈ l, x ≠ [] ∧ x.length ≤ 1000000) → 1 ≤ n → n ≤ 4001 →
    l.foldl (fun (n : Int) x => if (4001 : Int) < w64 (n * (x.length : Int)) then 4001 else w64 (n * (x.length : Int))) (n : Int) ≤ 4000 → n * prodL l ≤ 4000
  | [], n, _, _, h2, h => by
    simp only [List.foldl_nil] at h
    simp [prodL]; omega
  | x :: l, n, hl, h1, h2, h => by
    obtain ⟨hx0, hx1⟩ := hl x (List.mem_cons_self ..)
    have hxp := List.length_pos_iff.2 hx0
    have hb : n * x.length ≤ 4001 * 1000000 := Nat.mul_le_mul h2 hx1
    have hp : n ≤ n * x.length := Nat.le_mul_of_pos_right _ hxp
    have he : w64 ((n : Int) * (x.length : Int)) = ((n * x.length : Nat) : Int) := by
      rw [← Int.natCast_mul, w64_in (by omega)]
    rw [List.foldl_cons, he] at h
    have hprod := prod_pos (l := l) fun y hy => (hl y (List.mem_cons_of_mem _ hy)).1
    by_cases hc : 4001 < n * x.length
    · rw [if_pos (by omega)] at h
      have := many_prod l 4001 (fun y hy => hl y (List.mem_cons_of_mem _ hy)) (by omega) (by omega) h
      have : 4001 * 1 ≤ 4001 * prodL l := Nat.mul_le_mul (Nat.le_refl _) hprod
      omega
    · rw [if_neg (by omega)] at h
      have := many_prod l (n * x.length) (fun y hy => hl y (List.mem_cons_of_mem _ hy)) (by omega) (by omega) h
      show n * (x.length * prodL l) ≤ 4000
      rw [← Nat.mul_assoc]; exact this
theorem rise_le : ∀ {l m : List Int}, Rise l → Rise m → (∀ x ∈ l, x ∈ m) → l.length ≤ m.length
  | [], _, _, _, _ => by simp
  | a :: l, [], _, _, h => absurd (h a (List.mem_cons_self ..)) (by simp)
  | a :: l, b :: m, hl, hm, h => by
    obtain ⟨l1, l2⟩ := List.pairwise_cons.1 hl
    obtain ⟨m1, m2⟩ := List.pairwise_cons.1 hm
    by_cases e : a = b
    · subst e
      have := rise_le l2 m2 fun x hx => by
        rcases List.mem_cons.1 (h x (List.mem_cons_of_mem _ hx)) with e | e
        · subst e; exact absurd (l1 x hx) (Int.lt_irrefl _)
        · exact e
      simp only [List.length_cons]; omega
    · have ha : a ∈ m := by
        rcases List.mem_cons.1 (h a (List.mem_cons_self ..)) with e' | e'
        · exact absurd e' e
        · exact e'
      have hb := m1 a ha
      have := rise_le hl m2 fun x hx => by
        rcases List.mem_cons.1 (h x hx) with e' | e'
        · rcases List.mem_cons.1 hx with e2 | e2
          · subst e2; exact ha
          · have := l1 x e2; omega
        · exact e'
      simp only [List.length_cons] at this ⊢; omega
theorem cuts_mem (cs : List Cnd) (x : Fct) : Rise (cutsOf cs x) ∧ ∀ n, n ∈ cutsOf cs x ↔ n = x.2.1 ∨ n ∈ cutN x cs := by
  obtain ⟨h1, h2⟩ := sc_rise (x.2.1 :: cutN x cs)
  exact ⟨h1, fun n => by rw [show cutsOf cs x = compL (sortL (x.2.1 :: cutN x cs)) from rfl, h2, List.mem_cons]⟩
theorem cuts_ne (cs : List Cnd) (x : Fct) : cutsOf cs x ≠ [] := fun e => by
  have := (cuts_mem cs x).2 x.2.1
  rw [e] at this
  simp at this
theorem cutN_mem {x : Fct} {cs : List Cnd} {n : Int} : n ∈ cutN x cs ↔ (∃ c ∈ cs, ∃ t ∈ c, t.2.2.2.1 = x.1 ∧ n ∈ partsL t) ∧ x.2.1 < n ∧ n ≤ x.2.2 := by
  unfold cutN cutT
  simp only [List.mem_flatMap]
  constructor
  · rintro ⟨c, hc, t, ht, hn⟩
    cases hd : decide (t.2.2.2.1 = x.1) with
    | false => rw [hd] at hn; simp at hn
    | true =>
      rw [hd] at hn
      simp only [cond_true, List.mem_filter] at hn
      obtain ⟨h1, h2⟩ := hn
      unfold inS at h2
      simp only [Bool.and_eq_true, decide_eq_true_eq] at h2
      exact ⟨⟨c, hc, t, ht, of_decide_eq_true hd, h1⟩, h2.1, h2.2⟩
  · rintro ⟨⟨c, hc, t, ht, e, h1⟩, h2, h3⟩
    refine ⟨c, hc, t, ht, ?_⟩
    rw [decide_eq_true e]
    simp only [cond_true, List.mem_filter]
    exact ⟨h1, by unfold inS; simp [h2, h3]⟩
theorem cutN_len (x : Fct) (cs : List Cnd) (hc : cs.length ≤ 100) (ht : ∀ c ∈ cs, List.length c ≤ 1000) : (cutN x cs).length ≤ 200000 := by
  have := flat_len (fun c : Cnd => c.flatMap (cutT x)) 2000 cs (fun c hc => by
    have h1 := flat_len (cutT x) 2 c (fun t _ => cutT_len x t)
    have h2 := ht c hc
    omega)
  unfold cutN; omega
theorem compact_le (xs : List Int) : (compL xs).length ≤ xs.length := by
  unfold compL Lib.compact Lib.compactUpTo
  rw [List.length_map]
  exact Nat.le_trans (List.length_filter_le _ _) (by simp)
theorem cuts_len (x : Fct) (cs : List Cnd) (hc : cs.length ≤ 100) (ht : ∀ c ∈ cs, List.length c ≤ 1000) : (cutsOf cs x).length ≤ 200001 := by
  have h1 := compact_le (sortL (x.2.1 :: cutN x cs))
  have h2 := sortL_len (x.2.1 :: cutN x cs)
  have h3 := cutN_len x cs hc ht
  unfold cutsOf
  simp only [List.length_cons] at h2
  omega
theorem cuts_le {cs : List Cnd} {x y : Fct} (h : fitB x y = true) : (cutsOf cs y).length ≤ (cutsOf cs x).length := by
  unfold fitB at h
  simp only [Bool.and_eq_true, decide_eq_true_eq] at h
  obtain ⟨e, h1, h2, h3⟩ := h
  obtain ⟨r1, m1⟩ := cuts_mem cs y
  obtain ⟨r2, m2⟩ := cuts_mem cs x
  -- without the least one
  have tl : ∀ {z : Fct}, ∃ t, cutsOf cs z = z.2.1 :: t ∧ ∀ n, n ∈ t ↔ n ∈ cutN z cs := by
    intro z
    obtain ⟨r, m⟩ := cuts_mem cs z
    cases hz : cutsOf cs z with
    | nil => exact absurd hz (cuts_ne cs z)
    | cons a t =>
      rw [hz] at r m
      obtain ⟨p1, p2⟩ := List.pairwise_cons.1 r
      have hlo : ∀ n, n ∈ cutN z cs → z.2.1 < n := fun n hn => (cutN_mem.1 hn).2.1
      have ha : a = z.2.1 := by
        rcases (m a).1 (List.mem_cons_self ..) with e | e
        · exact e
        · have h1 := hlo a e
          rcases List.mem_cons.1 ((m z.2.1).2 (.inl rfl)) with e' | e'
          · exact e'.symm
          · have := p1 _ e'; omega
      subst ha
      refine ⟨t, rfl, fun n => ⟨fun hn => ?_, fun hn => ?_⟩⟩
      · rcases (m n).1 (List.mem_cons_of_mem _ hn) with e | e
        · subst e; exact absurd (p1 _ hn) (Int.lt_irrefl _)
        · exact e
      · rcases List.mem_cons.1 ((m n).2 (.inr hn)) with e | e
        · subst e; exact absurd (hlo _ hn) (Int.lt_irrefl _)
        · exact e
  obtain ⟨t1, e1, n1⟩ := tl (z := y)
  obtain ⟨t2, e2, n2⟩ := tl (z := x)
  rw [e1] at r1
  rw [e2] at r2
  rw [e1, e2]
  have := rise_le (List.pairwise_cons.1 r1).2 (List.pairwise_cons.1 r2).2 fun n hn => by
    rw [n2, cutN_mem]
    obtain ⟨⟨c, hc, t, ht, e', hp⟩, h4, h5⟩ := cutN_mem.1 ((n1 n).1 hn)
    exact ⟨⟨c, hc, t, ht, by rw [e', e], hp⟩, by omega, by omega⟩
  simp only [List.length_cons]; omega
theorem fit_iff {f g : List Fct} (h : fitS f g = true) : f.length = g.length ∧ ∀ (i : Nat) (x y : Fct), f[i]? = some x → g[i]? = some y → fitB x y = true := by
  unfold fitS at h
  simp only [Bool.and_eq_true, decide_eq_true_eq, List.all_eq_true] at h
  refine ⟨h.1, fun i x y hx hy => h.2 (x, y) (List.mem_of_getElem? (i := i) ?_)⟩
  rw [List.getElem?_zip_eq_some]
  exact ⟨hx, hy⟩
theorem prod_le : ∀ {l m : List (List Int)}, l.length = m.length → (∀ (i : Nat) (x y : List Int), l[i]? = some x → m[i]? = some y → x.length ≤ y.length) → prodL l ≤ prodL m
  | [], [], _, _ => Nat.le_refl _
  | x :: l, y :: m, h, hh => Nat.mul_le_mul (hh 0 x y rfl rfl) (prod_le (by simpa using h) fun i a b ha hb => hh (i + 1) a b (by simpa using ha) (by simpa using hb))
  | [], _ :: _, h, _ => by simp at h
  | _ :: _, [], h, _ => by simp at h
theorem VC.cl {c : Cd} (h : VC c) : (condsL c.2.2).length ≤ 100 := by rw [conds_len]; have := h.ll; omega
theorem VC.cs {c : Cd} (h : VC c) : ∀ x ∈ condsL c.2.2, List.length x ≤ 1000 := conds_short h.rs
theorem starts_ne (f : List Fct) (cs : List Cnd) : ∀ x ∈ startsL f cs, x ≠ [] := by
  intro x hx
  unfold startsL at hx
  obtain ⟨y, _, rfl⟩ := List.mem_map.1 hx
  exact cuts_ne cs y
theorem starts_get {f : List Fct} {cs : List Cnd} {i : Nat} {x : List Int} (h : (startsL f cs)[i]? = some x) : ∃ y, f[i]? = some y ∧ x = cutsOf cs y := by
  unfold startsL at h
  rw [List.getElem?_map] at h
  cases hf : f[i]? with
  | none => rw [hf] at h; cases h
  | some y => rw [hf] at h; cases h; exact ⟨y, rfl, rfl⟩
theorem VC.prod {c : Cd} (h : VC c) : prodL (startsL c.2.1 (condsL c.2.2)) ≤ 4000 := by
  have := many_prod (startsL c.2.1 (condsL c.2.2)) 1 (fun x hx => ⟨starts_ne _ _ x hx, by
    unfold startsL at hx
    obtain ⟨y, _, rfl⟩ := List.mem_map.1 hx
    have := cuts_len y (condsL c.2.2) h.cl h.cs
    omega⟩) (by omega) (by omega) h.mn
  omega
structure VF (c : Cd) (f : List Fct) : Prop where
  ln : f.length = c.2.1.length
  cs : (choL (startsL f (condsL c.2.2))).length ≤ 4000
  fit : ∀ (i : Nat) (x y : Fct), c.2.1[i]? = some x → f[i]? = some y → fitB x y = true
theorem VF.of {c : Cd} (h : VC c) {f : List Fct} (hf : fitS c.2.1 f = true) : VF c f := by
  obtain ⟨h1, h2⟩ := fit_iff hf
  refine ⟨h1.symm, ?_, h2⟩
  rw [choL_len]
  refine Nat.le_trans (prod_le (m := startsL c.2.1 (condsL c.2.2)) (by simp [startsL, h1]) fun i x y hx hy => ?_) h.prod
  obtain ⟨u, hu, rfl⟩ := starts_get hx
  obtain ⟨w, hw, rfl⟩ := starts_get hy
  exact cuts_le (h2 i w u hw hu)
end Go.K
set_option linter.unusedVariables false
set_option linter.unusedSimpArgs false
set_option maxRecDepth 100000
namespace Go.K
open Go.Sl Go.Sx Go.Proofs
theorem VF.prod {c : Cd} {f : List Fct} (h : VF c f) : prodL (startsL f (condsL c.2.2)) ≤ 4000 := by rw [← choL_len]; exact h.cs
end Go.K
namespace Go.K
theorem sane_true : G22 LF () = some true := by kernel_rfl
end Go.K
set_option linter.unusedVariables false
set_option linter.unusedSimpArgs false
set_option maxRecDepth 100000
namespace Go.K
open Go.Sl Go.Sx Go.Proofs
theorem VF.le {c : Cd} {f : List Fct} (h : VF c f) {i : Nat} {x : Fct} (hx : f[i]? = some x) : x.2.1 ≤ x.2.2 := by
  have hi := lt_of_get hx
  have hl := h.ln
  have := h.fit i _ x (List.getElem?_eq_getElem (show i < c.2.1.length by omega)) hx
  unfold fitB at this
  simp only [Bool.and_eq_true, decide_eq_true_eq] at this
  exact this.2.2.1
end Go.K
set_option linter.unusedVariables false
set_option linter.unusedSimpArgs false
set_option maxRecDepth 100000
namespace Go.K
open Go.Sl Go.Sx Go.Proofs
def near1 (l : List Int) (n m : Int) : Prop := m ∈ l ∧ m ≤ n ∧ ∀ k ∈ l, k ≤ n → k ≤ m
def Near (c : Cd) (f : List Fct) (v w : List Int) : Prop := w.length = v.length ∧ ∀ (i : Nat) (x : Fct) (n m : Int), f[i]? = some x → v[i]? = some n → w[i]? = some m → near1 (cutsOf (condsL c.2.2) x) n m
def In (f : List Fct) (v : List Int) : Prop := v.length = f.length ∧ ∀ (i : Nat) (x : Fct) (n : Int), f[i]? = some x → v[i]? = some n → x.2.1 ≤ n ∧ n ≤ x.2.2
theorem cut_side {cs : List Cnd} {x : Fct} {n m : Int} (hx : x.2.1 ≤ n ∧ n ≤ x.2.2) (h : near1 (cutsOf cs x) n m) {cd : Cnd} {t : Tm} (hc : cd ∈ cs) (ht : t ∈ cd) (hn : t.2.2.2.1 = x.1) {k : Int} (hk : k ∈ partsL t) : n < k ↔ m < k := by
  obtain ⟨h1, h2, h3⟩ := h
  have hlo : x.2.1 ≤ m := h3 _ (((cuts_mem cs x).2 _).2 (.inl rfl)) hx.1
  by_cases hk1 : x.2.1 < k
  · by_cases hk2 : k ≤ x.2.2
    · have hmem : k ∈ cutsOf cs x := ((cuts_mem cs x).2 k).2 (.inr (cutN_mem.2 ⟨⟨cd, hc, t, ht, hn, hk⟩, hk1, hk2⟩))
      constructor
      · intro h; omega
      · intro h
        by_cases hkn : k ≤ n
        · have := h3 k hmem hkn; omega
        · omega
    · omega
  · omega
theorem Near.term {c : Cd} (h : VC c) {f : List Fct} (hf : VF c f) {v w : List Int} (hv : In f v) (hw : Near c f v w) {cd : Cnd} (hc : cd ∈ condsL c.2.2) (hcd : condE c.2.1 cd = 0) {i : Nat} {t : Tm} (ht : cd[i]? = some t) (l : List Bool) : tmSo c.2.1 v t l = tmSo c.2.1 w t l := by
  obtain ⟨c1, c2, c3⟩ := cond_short hcd
  have hs := c3 i t ht
  have hkd := term_kd hs
  obtain ⟨hshp, hsh2⟩ := term_ok hs
  have htm := List.mem_of_getElem? ht
  cases hkd with
  | tru => rfl
  | neg _ => rfl
  | bin h0 _ _ => rcases h0 with rfl | rfl <;> rfl
  | cmp h1 h2 =>
    rename_i k a b s n
    obtain ⟨p, hp, hpl, x, hx, hxs⟩ := plF_get h2
    have hfl := hf.ln
    have hvl := hv.1
    have hwl := hw.1
    have hfp : f[p]? = some f[p] := List.getElem?_eq_getElem (by omega)
    have hname : x.1 = f[p].1 := by
      have := hf.fit p x f[p] hx hfp
      unfold fitB at this
      simp only [Bool.and_eq_true, decide_eq_true_eq] at this
      exact this.1
    have hvp : v[p]? = some v[p] := List.getElem?_eq_getElem (by omega)
    have hwp : w[p]? = some w[p] := List.getElem?_eq_getElem (by omega)
    have hin := hv.2 p _ _ hfp hvp
    have hne := hw.2 p _ _ _ hfp hvp hwp
    have hside : ∀ q, q ∈ partsL (k, (a, (b, (s, n)))) → (v[p] < q ↔ w[p] < q) := fun q hq => cut_side hin hne hc htm (by show s = f[p].1; rw [← hname, hxs]) hq
    have gv : v.getD (plF c.2.1 s).toNat 0 = v[p] := by rw [hp, Int.toNat_natCast, List.getD_eq_getElem?_getD, hvp]; rfl
    have gw : w.getD (plF c.2.1 s).toNat 0 = w[p] := by rw [hp, Int.toNat_natCast, List.getD_eq_getElem?_getD, hwp]; rfl
    have hnb : -1000000000000 ≤ n ∧ n ≤ 1000000000000 := by
      unfold shp at hshp
      simp only at hshp
      rw [if_neg (by omega), if_pos (by omega), decide_eq_true_eq] at hshp
      exact hshp.2.2
    have hw1 : w64 (n + 1) = n + 1 := w64_in (by omega)
    unfold tmSo
    simp only [gv, gw]
    rcases h1 with rfl | rfl | rfl
    · have := hside n (by simp [partsL])
      rw [if_neg (by decide), if_pos rfl, if_neg (by decide), if_pos rfl]
      exact decide_eq_decide.2 this
    · have := hside (n + 1) (by simp [partsL, hw1])
      rw [if_neg (by decide), if_neg (by decide), if_pos rfl, if_neg (by decide), if_neg (by decide), if_pos rfl]
      exact decide_eq_decide.2 (by omega)
    · have e1 := hside n (by simp [partsL])
      have e2 := hside (n + 1) (by simp [partsL, hw1])
      rw [if_neg (by decide), if_neg (by decide), if_neg (by decide), if_pos rfl, if_neg (by decide), if_neg (by decide), if_neg (by decide), if_pos rfl]
      exact decide_eq_decide.2 (by omega)
theorem Near.so {c : Cd} (h : VC c) {f : List Fct} (hf : VF c f) {v w : List Int} (hv : In f v) (hw : Near c f v w) {cd : Cnd} (hc : cd ∈ condsL c.2.2) (hcd : condE c.2.1 cd = 0) : soB c.2.1 v cd = soB c.2.1 w cd := by
  unfold soB soL
  congr 1
  have key : ∀ (m : Cnd), (∀ t ∈ m, t ∈ cd) → ∀ l, m.foldl (fun l t => l ++ [tmSo c.2.1 v t l]) l = m.foldl (fun l t => l ++ [tmSo c.2.1 w t l]) l := by
    intro m
    induction m with
    | nil => intro _ l; rfl
    | cons t m ih =>
      intro hs l
      obtain ⟨i, hi⟩ := List.mem_iff_getElem?.1 (hs t (List.mem_cons_self ..))
      rw [List.foldl_cons, List.foldl_cons, hw.term h hf hv hc hcd hi, ih (fun q hq => hs q (List.mem_cons_of_mem _ hq))]
  exact key cd (fun _ h => h) []
theorem conds_mem {l : List Rl} {r : Rl} (h : r ∈ l) : r.2.2.2.1 ∈ condsL l ∧ r.2.2.2.2.1 ∈ condsL l := by
  unfold condsL
  exact ⟨List.mem_flatMap.2 ⟨r, h, List.mem_cons_self ..⟩, List.mem_flatMap.2 ⟨r, h, List.mem_cons_of_mem _ (List.mem_cons_self ..)⟩⟩
theorem VC.conds {c : Cd} (h : VC c) {r : Rl} (hr : r ∈ c.2.2) : condE c.2.1 r.2.2.2.1 = 0 ∧ condE c.2.1 r.2.2.2.2.1 = 0 := by
  obtain ⟨i, hi⟩ := List.mem_iff_getElem?.1 hr
  obtain ⟨_, _, _, h1, h2, _⟩ := h.rule hi
  exact ⟨h1, h2⟩
theorem Near.binds {c : Cd} (h : VC c) {f : List Fct} (hf : VF c f) {v w : List Int} (hv : In f v) (hw : Near c f v w) (d : Int) : bindsL c d v = bindsL c d w := by
  unfold bindsL
  have key : ∀ (m : List Rl), (∀ r ∈ m, r ∈ c.2.2) → ∀ out, nbL c.2.1 c.2.2 d v m out = nbL c.2.1 c.2.2 d w m out := by
    intro m
    induction m with
    | nil => intro _ out; rfl
    | cons r m ih =>
      intro hs out
      have hr := hs r (List.mem_cons_self ..)
      have e : bindB c.2.1 c.2.2 d v r out = bindB c.2.1 c.2.2 d w r out := by
        unfold bindB
        rw [hw.so h hf hv (conds_mem hr).1 (h.conds hr).1]
      simp only [nbL, e]
      rw [ih (fun q hq => hs q (List.mem_cons_of_mem _ hq))]
  exact key c.2.2 (fun _ h => h) []
theorem Near.kept {c : Cd} (h : VC c) {f : List Fct} (hf : VF c f) {v w : List Int} (hv : In f v) (hw : Near c f v w) (d : Int) : keptL c d v = keptL c d w := by
  unfold keptL
  rw [hw.binds h hf hv d]
  have key : ∀ (m : List Rl), (∀ r ∈ m, r ∈ c.2.2) → ∀ bs : List Bool, List.zipWith (fun b (r : Rl) => !b || soB c.2.1 v r.2.2.2.2.1) bs m = List.zipWith (fun b (r : Rl) => !b || soB c.2.1 w r.2.2.2.2.1) bs m := by
    intro m
    induction m with
    | nil => intro _ bs; simp
    | cons r m ih =>
      intro hs bs
      have hr := hs r (List.mem_cons_self ..)
      cases bs with
      | nil => rfl
      | cons b bs =>
        simp only [List.zipWith_cons_cons]
        rw [hw.so h hf hv (conds_mem hr).2 (h.conds hr).2, ih (fun q hq => hs q (List.mem_cons_of_mem _ hq))]
  exact key c.2.2 (fun _ h => h) _
end Go.K
set_option linter.unusedVariables false
set_option linter.unusedSimpArgs false
set_option maxRecDepth 100000
namespace Go.K
open Go.Sl Go.Sx Go.Proofs
theorem same_loop {σ : Type} {f : Int → Option (Int ⊕ Bool)} (l : List σ) (h1 : ∀ (i : Nat) x, l[i]? = some x → f (i : Int) = some (.inl ((i + 1 : Nat) : Int))) (h2 : f (l.length : Int) = some (.inr true)) (hl : l.length < LF) : iter LF f 0 = some true := by
  refine (iter_scan (fun (_ : σ) _ => (none : Option Bool)) l (some true) (fun i x hx _ => h1 i x hx) (fun _ => h2) hl).trans ?_
  have : ∀ (l : List σ) (i : Nat), scan (fun (_ : σ) _ => (none : Option Bool)) l i = none := by
    intro l
    induction l with
    | nil => intro i; rfl
    | cons x l ih => intro i; simp only [scan]; exact ih _
  rw [this]
end Go.K
set_option linter.unusedVariables false
set_option linter.unusedSimpArgs false
set_option maxRecDepth 100000
namespace Go.K
open Go.Sl Go.Sx Go.Proofs
abbrev Cl := Int × (Int × (Int × List Int))
end Go.K
set_option linter.unusedVariables false
set_option linter.unusedSimpArgs false
set_option maxRecDepth 100000
namespace Go.K
open Go.Sl Go.Sx Go.Proofs
theorem cond_len {f : List Fct} {c : Cnd} (h : condE f c = 0) : List.length c ≤ 30 := by
  unfold condE at h
  split at h
  · cases h
  · omega
theorem VC.lens {c : Cd} (h : VC c) {i : Nat} {r : Rl} (hr : c.2.2[i]? = some r) : List.length r.2.2.2.1 ≤ 30 ∧ List.length r.2.2.2.2.1 ≤ 30 ∧ r.2.2.2.2.2.length ≤ 6 := by
  obtain ⟨h1, h2⟩ := h.conds (List.mem_of_getElem? hr)
  exact ⟨cond_len h1, cond_len h2, (h.rule hr).2.2.2.2.2.1⟩
theorem G21_same (l : Cnd) (hl : List.length l < LF) : G21 LF (l, l) = some true := by
  unfold G21
  simp only [decide_true, Bool.not_true, cond_false]
  refine same_loop l (fun i x hx => ?_) ?_ hl
  · have hi := lt_of_get hx
    simp only [dlt hi, cond_true, getI_nat hx, Option.bind_some, eqD, decide_true, Bool.and_self, Bool.and_true, Bool.not_true, cond_false, succ_W (Nat.lt_of_le_of_lt hi hl)]
  · simp only [dnlt, cond_false]
end Go.K
set_option linter.unusedVariables false
set_option linter.unusedSimpArgs false
set_option maxRecDepth 100000
namespace Go.K
open Go.Sl Go.Sx Go.Proofs
theorem parseB_len (s : ByteArray) : List.length (parseB s).1 ≤ 30 := by
  unfold parseB
  split
  · simp
  · unfold parseW condW
    split
    · simp
    · split
      · simp
      · split
        · simp
        · simp only; omega
theorem G3_true (x : ByteArray × Cnd) : G3 LF x = some true := by
  obtain ⟨s, c⟩ := x
  unfold G3
  have hcut : cutC s (0 : Int) (if (2000 : Int) < (s.size : Int) then (2000 : Int) else (s.size : Int)) = some () := cutC_of (by
    split
    · refine ⟨by omega, by omega, by omega⟩
    · refine ⟨by omega, by omega, by omega⟩)
  simp only [hcut, Option.bind_some]
  generalize ByteArray.extract s 0 (Int.toNat (if (2000 : Int) < (s.size : Int) then (2000 : Int) else (s.size : Int))) = p
  have hl : List.length (parseB p).1 < LF := by have := parseB_len p; show List.length (parseB p).1 < 9223372036854775808; omega
  have hb : ∀ l : List UInt8, (l == l) = true := fun l => by simp
  simp only [G17_parse, G18_parse, G19_print, G20_print, Option.bind_some, G21_same _ hl, Bool.not_true, cond_false, decide_true, hb, jl, sane_true]
  by_cases h : (parseB p).2.2 = 0
  · obtain ⟨q, h1, h2⟩ := roundE h
    simp only [h, decide_true, Bool.not_true, cond_false, h1, h2, G17_parse, Option.bind_some, cond_true, G21_same _ hl]
  · simp only [decide_eq_false h, Bool.not_false, cond_true]
end Go.K
set_option linter.unusedVariables false
set_option maxRecDepth 100000
set_option maxHeartbeats 0
namespace Go.K
open Go.Sl Go.Sx Go.Proofs
def S21x : FuncId → Sp := fun g => match g with
  | 21 => { loops := [(4, [(.slot 16, .dat .i)])] }
  | 128 => { nz := [(11, [12])] }
  | _ => {}
noncomputable def F21x (P : Program) (lf : Nat) (x : tt [(true, (.sl (.pair .i (.pair .i (.pair .i (.pair .str .i)))))), (true, (.sl (.pair .i (.pair .i (.pair .i (.pair .str .i))))))]) : Option (tt [(false, .bool)]) := fnF P (C33 P lf) S21x 21 [(true, (.sl (.pair .i (.pair .i (.pair .i (.pair .str .i)))))), (true, (.sl (.pair .i (.pair .i (.pair .i (.pair .str .i))))))] [(false, .bool)] lf x
noncomputable def C21x (P : Program) (lf : Nat) : FuncId → Option Con := extC (C33 P lf) 21 (dataCon [(true, (.sl (.pair .i (.pair .i (.pair .i (.pair .str .i)))))), (true, (.sl (.pair .i (.pair .i (.pair .i (.pair .str .i))))))] [(false, .bool)] (F21x P lf))
theorem F21x_eq (lf : Nat) (a0 : (List (Int × (Int × (Int × (ByteArray × Int)))))) (a1 : (List (Int × (Int × (Int × (ByteArray × Int)))))) : F21x Tryz.prog lf (a0, a1) =
  cond (!(decide ((a0.length : Int) = (a1.length : Int)))) (some false) (iter lf (fun y5 : Int => cond (decide (y5 < (a0.length : Int))) (((getI a0 y5)).bind fun r6 => ((getI a1 y5)).bind fun r7 => cond (!((decide (r6.1 = r7.1)) && ((decide (r6.2.1 = r7.2.1)) && ((decide (r6.2.2.1 = r7.2.2.1)) && (((ByteArray.toList r6.2.2.2.1) == (ByteArray.toList r7.2.2.2.1)) && ((decide (r6.2.2.2.2 = r7.2.2.2.2)) && true)))))) (some (.inr false)) (some (.inl (w64 (y5 + (1 : Int)))))) (some (.inr true))) (0 : Int)) := by kernel_rfl
def S90x : FuncId → Sp := fun g => match g with
  | 90 => { joins := [(7, [(.slot 21, .dat .bool)])], loops := [(4, [(.slot 4, .dat .str), (.slot 3, .own .str 9), (.slot 5, .dat .i)])] }
  | 128 => { nz := [(11, [12])] }
  | _ => {}
noncomputable def F90x (P : Program) (lf : Nat) (x : tt [(false, .str)]) : Option (tt [(false, (.sl .str))]) := fnF P (C21x P lf) S90x 90 [(false, .str)] [(false, (.sl .str))] lf x
noncomputable def C90x (P : Program) (lf : Nat) : FuncId → Option Con := extC (C21x P lf) 90 (dataCon [(false, .str)] [(false, (.sl .str))] (F90x P lf))
theorem F90x_eq (lf : Nat) (a0 : ByteArray) : F90x Tryz.prog lf a0 =
  iter lf (fun y9 : (ByteArray × ((List ByteArray) × Int)) => cond (decide (y9.2.2 ≤ (a0.size : Int))) (jn (cond (decide (y9.2.2 < (a0.size : Int))) (((byteAt a0 y9.2.2)).bind fun r10 => some (.inl (!(decide (r10 = (32 : Int)))))) (some (.inl false))) (fun y11 : Bool => cond y11 (((cutC a0 y9.2.2 (w64 (y9.2.2 + (1 : Int))))).bind fun r12 => ((catC y9.1 (ByteArray.extract a0 (Int.toNat y9.2.2) (Int.toNat (w64 (y9.2.2 + (1 : Int))))))).bind fun r13 => some (.inl ((y9.1 ++ (ByteArray.extract a0 (Int.toNat y9.2.2) (Int.toNat (w64 (y9.2.2 + (1 : Int)))))), (y9.2.1, (w64 (y9.2.2 + (1 : Int))))))) (cond (!((ByteArray.toList y9.1) == ([] : List UInt8))) (((appC y9.2.1 [y9.1])).bind fun r14 => some (.inl ((bts []), (r14, (w64 (y9.2.2 + (1 : Int))))))) (some (.inl ((bts []), (y9.2.1, (w64 (y9.2.2 + (1 : Int)))))))))) (some (.inr y9.2.1))) ((bts []), (([] : List ByteArray), (0 : Int))) := by kernel_rfl
def S276x : FuncId → Sp := fun g => match g with
  | 128 => { nz := [(11, [12])] }
  | _ => {}
noncomputable def F276x (P : Program) (lf : Nat) (x : tt [(false, .str)]) : Option (tt [(false, .i), (false, .bool), (false, .bool)]) := fnF P (C90x P lf) S276x 276 [(false, .str)] [(false, .i), (false, .bool), (false, .bool)] lf x
noncomputable def C276x (P : Program) (lf : Nat) : FuncId → Option Con := extC (C90x P lf) 276 (dataCon [(false, .str)] [(false, .i), (false, .bool), (false, .bool)] (F276x P lf))
theorem F276x_eq (lf : Nat) (a0 : ByteArray) : F276x Tryz.prog lf a0 =
  cond ((ByteArray.toList a0) == [(UInt8.ofNat 60)]) (some ((1 : Int), (false, true))) (cond ((ByteArray.toList a0) == [(UInt8.ofNat 60), (UInt8.ofNat 61)]) (some ((2 : Int), (false, true))) (cond ((ByteArray.toList a0) == [(UInt8.ofNat 61)]) (some ((3 : Int), (false, true))) (cond ((ByteArray.toList a0) == [(UInt8.ofNat 62), (UInt8.ofNat 61)]) (some ((1 : Int), (true, true))) (cond ((ByteArray.toList a0) == [(UInt8.ofNat 62)]) (some ((2 : Int), (true, true))) (cond ((ByteArray.toList a0) == [(UInt8.ofNat 33), (UInt8.ofNat 61)]) (some ((3 : Int), (true, true))) (some ((0 : Int), (false, false)))))))) := by kernel_rfl
def S203x : FuncId → Sp := fun g => match g with
  | 203 => { joins := [(12, [(.slot 63, .dat .bool)]), (6, [(.slot 47, .dat .bool)]), (5, [(.slot 8, .dat .i), (.slot 0, .dat .str)]), (3, [(.slot 26, .dat .bool)])], loops := [(9, [(.slot 9, .dat .i), (.slot 10, .dat .i)])] }
  | 128 => { nz := [(11, [12])] }
  | _ => {}
noncomputable def F203x (P : Program) (lf : Nat) (x : tt [(false, .str), (false, .i), (false, .bool)]) : Option (tt [(false, .i), (false, .bool)]) := fnF P (C276x P lf) S203x 203 [(false, .str), (false, .i), (false, .bool)] [(false, .i), (false, .bool)] lf x
noncomputable def C203x (P : Program) (lf : Nat) : FuncId → Option Con := extC (C276x P lf) 203 (dataCon [(false, .str), (false, .i), (false, .bool)] [(false, .i), (false, .bool)] (F203x P lf))
theorem F203x_eq (lf : Nat) (a0 : ByteArray) (a1 : Int) (a2 : Bool) : F203x Tryz.prog lf (a0, (a1, a2)) =
  jn (jn (cond a2 (cond (decide ((a0.size : Int) > (1 : Int))) (((byteAt a0 (0 : Int))).bind fun r17 => cond (decide (r17 = (45 : Int))) (((byteAt a0 (1 : Int))).bind fun r18 => some (.inl (!(decide (r18 = (48 : Int)))))) (some (.inl false))) (some (.inl false))) (some (.inl false))) (fun y19 : Bool => cond y19 (((cutC a0 (1 : Int) (a0.size : Int))).bind fun r20 => some (.inl ((-1 : Int), (ByteArray.extract a0 1 (Int.toNat (a0.size : Int)))))) (some (.inl ((1 : Int), a0))))) (fun y21 : (Int × ByteArray) => jn (cond (decide ((y21.2.size : Int) < (1 : Int))) (some (.inl true)) (cond (decide ((y21.2.size : Int) > a1)) (some (.inl true)) (cond (decide ((y21.2.size : Int) > (1 : Int))) (((byteAt y21.2 (0 : Int))).bind fun r22 => some (.inl (decide (r22 = (48 : Int))))) (some (.inl false))))) (fun y23 : Bool => cond y23 (some ((0 : Int), false)) (iter lf (fun y24 : (Int × Int) => cond (decide (y24.2 < (y21.2.size : Int))) (jn (((byteAt y21.2 y24.2)).bind fun r25 => cond (decide (r25 < (48 : Int))) (some (.inl true)) (((byteAt y21.2 y24.2)).bind fun r26 => some (.inl (decide (r26 > (57 : Int)))))) (fun y27 : Bool => cond y27 (some (.inr ((0 : Int), false))) (((byteAt y21.2 y24.2)).bind fun r28 => some (.inl ((w64 ((w64 ((10 : Int) * y24.1)) + (w64 (Go.IntKind.wrap .u8 (r28 - (48 : Int)))))), (w64 (y24.2 + (1 : Int)))))))) (some (.inr ((w64 (y21.1 * y24.1)), true)))) ((0 : Int), (0 : Int))))) := by kernel_rfl
abbrev CK245x : List CK := [.d (.sl .str), .d .i, .d .i, .o (.pair .i (.pair .i (.pair .i (.pair .str .i)))) 131]
abbrev U245x : AT := (true, .i)
def S245x : FuncId → Sp := fun g => match g with
  | 245 => { joins := [(29, [(.slot 128, .dat .bool)]), (28, [(.slot 12, .dat .i), (.slot 13, .dat .bool)]), (23, [(.slot 8, .dat .str)]), (13, [(.slot 62, .dat .bool)]), (12, [(.slot 7, .dat .i), (.cell 0 3, .own (.pair .i (.pair .i (.pair .i (.pair .str .i)))) 131), (.cell 0 0, .dat (.sl .str)), (.cell 0 1, .dat .i), (.cell 0 2, .dat .i)]), (3, [(.slot 22, .dat .bool)]), (2, [(.slot 5, .dat .str)])] }
  | 163 => { joins := [(5, [(.slot 6, .dat .i), (.cell 0 3, .own (.pair .i (.pair .i (.pair .i (.pair .str .i)))) 131), (.cell 0 0, .dat (.sl .str)), (.cell 0 1, .dat .i), (.cell 0 2, .dat .i)]), (2, [(.slot 5, .dat .i), (.cell 0 3, .own (.pair .i (.pair .i (.pair .i (.pair .str .i)))) 131), (.cell 0 0, .dat (.sl .str)), (.cell 0 1, .dat .i), (.cell 0 2, .dat .i)])], loops := [(2, [(.slot 5, .dat .i), (.cell 0 3, .own (.pair .i (.pair .i (.pair .i (.pair .str .i)))) 131), (.cell 0 0, .dat (.sl .str)), (.cell 0 1, .dat .i), (.cell 0 2, .dat .i)])] }
  | 217 => { loops := [(2, [(.slot 5, .dat .i), (.cell 0 3, .own (.pair .i (.pair .i (.pair .i (.pair .str .i)))) 131), (.cell 0 0, .dat (.sl .str)), (.cell 0 1, .dat .i), (.cell 0 2, .dat .i)])] }
  | 128 => { nz := [(11, [12])] }
  | _ => {}
noncomputable def F245x (P : Program) (lf : Nat) : Nat → ckT CK245x × tt [(false, .i)] → Option ((ckT CK245x × tt [(false, .i)]) ⊕ U245x.2.den)
  | 0, _ => none
  | n + 1, x => fnR P (extC (C203x P lf) 245 (refCon 209 CK245x [(false, .i)] [(false, .i)] 122 U245x (F245x P lf n))) S245x 245 209 CK245x [(false, .i)] [(false, .i)] 122 U245x lf x
noncomputable def C245x (P : Program) (lf : Nat) : FuncId → Option Con := extC (C203x P lf) 245 (refCon 209 CK245x [(false, .i)] [(false, .i)] 122 U245x (F245x P lf lf))
theorem F245x_eq (lf n : Nat) (a0 : (List ByteArray)) (a1 : Int) (a2 : Int) (a3 : (List (Int × (Int × (Int × (ByteArray × Int)))))) (a4 : Int) : F245x Tryz.prog lf (n + 1) ((a0, (a1, (a2, (a3, ())))), a4) =
  jn (cond (decide (a1 < (a0.length : Int))) (((getI a0 a1)).bind fun r103 => some (.inl r103)) (some (.inl (bts [])))) (fun y104 : ByteArray => jn (cond ((ByteArray.toList y104) == [(UInt8.ofNat 110), (UInt8.ofNat 111), (UInt8.ofNat 116)]) (some (.inl true)) (some (.inl ((ByteArray.toList y104) == [(UInt8.ofNat 40)])))) (fun y105 : Bool => cond y105 (cond (decide (a4 = (8 : Int))) (cond (decide (a2 = (0 : Int))) (some (.inl ((a0, (a1, ((w64 (a1 + (1 : Int))), (a3, ())))), (0 : Int)))) (some (.inl ((a0, (a1, (a2, (a3, ())))), (0 : Int))))) (cond ((ByteArray.toList y104) == [(UInt8.ofNat 110), (UInt8.ofNat 111), (UInt8.ofNat 116)]) (((F245x Tryz.prog lf n ((a0, ((w64 (a1 + (1 : Int))), (a2, (a3, ())))), (w64 (a4 + (1 : Int)))))).bind fun r106 => sm r106 (fun r107 : (((List ByteArray) × (Int × (Int × ((List (Int × (Int × (Int × (ByteArray × Int))))) × PUnit)))) × Int) => cond (!(decide (r107.1.2.2.1 = (0 : Int)))) (some (.inl ((r107.1.1, (r107.1.2.1, (r107.1.2.2.1, (r107.1.2.2.2.1, ())))), (0 : Int)))) (((appC r107.1.2.2.2.1 [((4 : Int), (r107.2, ((0 : Int), ((bts []), (0 : Int)))))])).bind fun r108 => some (.inl ((r107.1.1, (r107.1.2.1, (r107.1.2.2.1, (r108, ())))), (w64 ((r108.length : Int) - (1 : Int))))))) (fun r109 : Int => some (.inr r109))) (jn (jn (((F245x Tryz.prog lf n ((a0, ((w64 (a1 + (1 : Int))), (a2, (a3, ())))), (w64 (a4 + (1 : Int)))))).bind fun r110 => sm r110 (fun r111 : (((List ByteArray) × (Int × (Int × ((List (Int × (Int × (Int × (ByteArray × Int))))) × PUnit)))) × Int) => iter lf (fun y112 : (Int × ((List (Int × (Int × (Int × (ByteArray × Int))))) × ((List ByteArray) × (Int × Int)))) => cond (decide (y112.2.2.2.2 = (0 : Int))) (cond (decide (y112.2.2.2.1 < (y112.2.2.1.length : Int))) (((getI y112.2.2.1 y112.2.2.2.1)).bind fun r113 => cond ((ByteArray.toList r113) == [(UInt8.ofNat 97), (UInt8.ofNat 110), (UInt8.ofNat 100)]) (((F245x Tryz.prog lf n ((y112.2.2.1, ((w64 (y112.2.2.2.1 + (1 : Int))), (y112.2.2.2.2, (y112.2.1, ())))), (w64 (a4 + (1 : Int)))))).bind fun r114 => sm r114 (fun r115 : (((List ByteArray) × (Int × (Int × ((List (Int × (Int × (Int × (ByteArray × Int))))) × PUnit)))) × Int) => cond (decide (r115.1.2.2.1 = (0 : Int))) (((appC r115.1.2.2.2.1 [((5 : Int), (y112.1, (r115.2, ((bts []), (0 : Int)))))])).bind fun r116 => some (.inl ((w64 ((r116.length : Int) - (1 : Int))), (r116, (r115.1.1, (r115.1.2.1, r115.1.2.2.1)))))) (some (.inl (y112.1, (r115.1.2.2.2.1, (r115.1.1, (r115.1.2.1, r115.1.2.2.1))))))) (fun r117 : Int => some (.inr (.inr (.inr (.inr r117)))))) (some (.inr (.inl (y112.1, (y112.2.1, (y112.2.2.1, (y112.2.2.2.1, y112.2.2.2.2)))))))) (some (.inr (.inl (y112.1, (y112.2.1, (y112.2.2.1, (y112.2.2.2.1, y112.2.2.2.2)))))))) (some (.inr (.inl (y112.1, (y112.2.1, (y112.2.2.1, (y112.2.2.2.1, y112.2.2.2.2)))))))) (r111.2, (r111.1.2.2.2.1, (r111.1.1, (r111.1.2.1, r111.1.2.2.1))))) (fun r118 : Int => some (.inr (.inr (.inr r118))))) (fun y119 : (Int × ((List (Int × (Int × (Int × (ByteArray × Int))))) × ((List ByteArray) × (Int × Int)))) => iter lf (fun y120 : (Int × ((List (Int × (Int × (Int × (ByteArray × Int))))) × ((List ByteArray) × (Int × Int)))) => cond (decide (y120.2.2.2.2 = (0 : Int))) (cond (decide (y120.2.2.2.1 < (y120.2.2.1.length : Int))) (((getI y120.2.2.1 y120.2.2.2.1)).bind fun r121 => cond ((ByteArray.toList r121) == [(UInt8.ofNat 111), (UInt8.ofNat 114)]) (jn (((F245x Tryz.prog lf n ((y120.2.2.1, ((w64 (y120.2.2.2.1 + (1 : Int))), (y120.2.2.2.2, (y120.2.1, ())))), (w64 (a4 + (1 : Int)))))).bind fun r122 => sm r122 (fun r123 : (((List ByteArray) × (Int × (Int × ((List (Int × (Int × (Int × (ByteArray × Int))))) × PUnit)))) × Int) => iter lf (fun y124 : (Int × ((List (Int × (Int × (Int × (ByteArray × Int))))) × ((List ByteArray) × (Int × Int)))) => cond (decide (y124.2.2.2.2 = (0 : Int))) (cond (decide (y124.2.2.2.1 < (y124.2.2.1.length : Int))) (((getI y124.2.2.1 y124.2.2.2.1)).bind fun r125 => cond ((ByteArray.toList r125) == [(UInt8.ofNat 97), (UInt8.ofNat 110), (UInt8.ofNat 100)]) (((F245x Tryz.prog lf n ((y124.2.2.1, ((w64 (y124.2.2.2.1 + (1 : Int))), (y124.2.2.2.2, (y124.2.1, ())))), (w64 (a4 + (1 : Int)))))).bind fun r126 => sm r126 (fun r127 : (((List ByteArray) × (Int × (Int × ((List (Int × (Int × (Int × (ByteArray × Int))))) × PUnit)))) × Int) => cond (decide (r127.1.2.2.1 = (0 : Int))) (((appC r127.1.2.2.2.1 [((5 : Int), (y124.1, (r127.2, ((bts []), (0 : Int)))))])).bind fun r128 => some (.inl ((w64 ((r128.length : Int) - (1 : Int))), (r128, (r127.1.1, (r127.1.2.1, r127.1.2.2.1)))))) (some (.inl (y124.1, (r127.1.2.2.2.1, (r127.1.1, (r127.1.2.1, r127.1.2.2.1))))))) (fun r129 : Int => some (.inr (.inr (.inr (.inr (.inr r129))))))) (some (.inr (.inl (y124.1, (y124.2.1, (y124.2.2.1, (y124.2.2.2.1, y124.2.2.2.2)))))))) (some (.inr (.inl (y124.1, (y124.2.1, (y124.2.2.1, (y124.2.2.2.1, y124.2.2.2.2)))))))) (some (.inr (.inl (y124.1, (y124.2.1, (y124.2.2.1, (y124.2.2.2.1, y124.2.2.2.2)))))))) (r123.2, (r123.1.2.2.2.1, (r123.1.1, (r123.1.2.1, r123.1.2.2.1))))) (fun r130 : Int => some (.inr (.inr (.inr (.inr r130)))))) (fun y131 : (Int × ((List (Int × (Int × (Int × (ByteArray × Int))))) × ((List ByteArray) × (Int × Int)))) => cond (decide (y131.2.2.2.2 = (0 : Int))) (((appC y131.2.1 [((6 : Int), (y120.1, (y131.1, ((bts []), (0 : Int)))))])).bind fun r132 => some (.inl ((w64 ((r132.length : Int) - (1 : Int))), (r132, (y131.2.2.1, (y131.2.2.2.1, y131.2.2.2.2)))))) (some (.inl (y120.1, (y131.2.1, (y131.2.2.1, (y131.2.2.2.1, y131.2.2.2.2)))))))) (some (.inr (.inl (y120.1, (y120.2.1, (y120.2.2.1, (y120.2.2.2.1, y120.2.2.2.2)))))))) (some (.inr (.inl (y120.1, (y120.2.1, (y120.2.2.1, (y120.2.2.2.1, y120.2.2.2.2)))))))) (some (.inr (.inl (y120.1, (y120.2.1, (y120.2.2.1, (y120.2.2.2.1, y120.2.2.2.2)))))))) (y119.1, (y119.2.1, (y119.2.2.1, (y119.2.2.2.1, y119.2.2.2.2)))))) (fun y133 : (Int × ((List (Int × (Int × (Int × (ByteArray × Int))))) × ((List ByteArray) × (Int × Int)))) => jn (cond (decide (y133.2.2.2.2 = (0 : Int))) (cond (decide (y133.2.2.2.1 < (y133.2.2.1.length : Int))) (((getI y133.2.2.1 y133.2.2.2.1)).bind fun r134 => some (.inl (!((ByteArray.toList r134) == [(UInt8.ofNat 41)])))) (some (.inl true))) (some (.inl false))) (fun y135 : Bool => cond y135 (cond (decide (y133.2.2.2.2 = (0 : Int))) (some (.inl ((y133.2.2.1, (y133.2.2.2.1, ((w64 (y133.2.2.2.1 + (1 : Int))), (y133.2.1, ())))), (0 : Int)))) (some (.inl ((y133.2.2.1, (y133.2.2.2.1, (y133.2.2.2.2, (y133.2.1, ())))), (0 : Int))))) (some (.inl ((y133.2.2.1, ((w64 (y133.2.2.2.1 + (1 : Int))), (y133.2.2.2.2, (y133.2.1, ())))), y133.1)))))))) (cond ((ByteArray.toList y104) == [(UInt8.ofNat 116), (UInt8.ofNat 114), (UInt8.ofNat 117), (UInt8.ofNat 101)]) (((appC a3 [((0 : Int), ((0 : Int), ((0 : Int), ((bts []), (0 : Int)))))])).bind fun r136 => some (.inl ((a0, ((w64 (a1 + (1 : Int))), (a2, (r136, ())))), (w64 ((r136.length : Int) - (1 : Int)))))) (((F99 Tryz.prog lf y104)).bind fun r137 => cond (!r137) (cond (decide (a2 = (0 : Int))) (some (.inl ((a0, (a1, ((w64 (a1 + (1 : Int))), (a3, ())))), (0 : Int)))) (some (.inl ((a0, (a1, (a2, (a3, ())))), (0 : Int))))) (jn (cond (decide ((w64 (a1 + (1 : Int))) < (a0.length : Int))) (((getI a0 (w64 (a1 + (1 : Int))))).bind fun r138 => some (.inl r138)) (some (.inl (bts [])))) (fun y139 : ByteArray => ((F276x Tryz.prog lf y139)).bind fun r140 => cond (!r140.2.2) (cond (decide (a2 = (0 : Int))) (some (.inl ((a0, ((w64 (a1 + (1 : Int))), ((w64 ((w64 (a1 + (1 : Int))) + (1 : Int))), (a3, ())))), (0 : Int)))) (some (.inl ((a0, ((w64 (a1 + (1 : Int))), (a2, (a3, ())))), (0 : Int))))) (jn (cond (decide ((w64 ((w64 (a1 + (1 : Int))) + (1 : Int))) < (a0.length : Int))) (((getI a0 (w64 ((w64 (a1 + (1 : Int))) + (1 : Int))))).bind fun r141 => ((F203x Tryz.prog lf (r141, ((13 : Int), true)))).bind fun r142 => some (.inl (r142.1, r142.2))) (((F203x Tryz.prog lf ((bts []), ((13 : Int), true)))).bind fun r143 => some (.inl (r143.1, r143.2)))) (fun y144 : (Int × Bool) => jn (cond (!y144.2) (some (.inl true)) (((F126 Tryz.prog lf (y144.1, ((-1000000000000 : Int), (1000000000000 : Int))))).bind fun r145 => some (.inl (!r145)))) (fun y146 : Bool => cond y146 (cond (decide (a2 = (0 : Int))) (some (.inl ((a0, ((w64 ((w64 (a1 + (1 : Int))) + (1 : Int))), ((w64 ((w64 ((w64 (a1 + (1 : Int))) + (1 : Int))) + (1 : Int))), (a3, ())))), (0 : Int)))) (some (.inl ((a0, ((w64 ((w64 (a1 + (1 : Int))) + (1 : Int))), (a2, (a3, ())))), (0 : Int))))) (((appC a3 [(r140.1, ((0 : Int), ((0 : Int), (y104, y144.1))))])).bind fun r147 => cond r140.2.1 (((appC r147 [((4 : Int), ((w64 ((r147.length : Int) - (1 : Int))), ((0 : Int), ((bts []), (0 : Int)))))])).bind fun r148 => some (.inl ((a0, ((w64 ((w64 ((w64 (a1 + (1 : Int))) + (1 : Int))) + (1 : Int))), (a2, (r148, ())))), (w64 ((r148.length : Int) - (1 : Int)))))) (some (.inl ((a0, ((w64 ((w64 ((w64 (a1 + (1 : Int))) + (1 : Int))) + (1 : Int))), (a2, (r147, ())))), (w64 ((r147.length : Int) - (1 : Int)))))))))))))))) := by kernel_rfl
abbrev CK163x : List CK := [.d (.sl .str), .d .i, .d .i, .o (.pair .i (.pair .i (.pair .i (.pair .str .i)))) 131]
abbrev U163x : AT := (true, .i)
def S163x : FuncId → Sp := fun g => match g with
  | 163 => { joins := [(5, [(.slot 6, .dat .i), (.cell 0 3, .own (.pair .i (.pair .i (.pair .i (.pair .str .i)))) 131), (.cell 0 0, .dat (.sl .str)), (.cell 0 1, .dat .i), (.cell 0 2, .dat .i)]), (2, [(.slot 5, .dat .i), (.cell 0 3, .own (.pair .i (.pair .i (.pair .i (.pair .str .i)))) 131), (.cell 0 0, .dat (.sl .str)), (.cell 0 1, .dat .i), (.cell 0 2, .dat .i)])], loops := [(2, [(.slot 5, .dat .i), (.cell 0 3, .own (.pair .i (.pair .i (.pair .i (.pair .str .i)))) 131), (.cell 0 0, .dat (.sl .str)), (.cell 0 1, .dat .i), (.cell 0 2, .dat .i)])] }
  | 217 => { loops := [(2, [(.slot 5, .dat .i), (.cell 0 3, .own (.pair .i (.pair .i (.pair .i (.pair .str .i)))) 131), (.cell 0 0, .dat (.sl .str)), (.cell 0 1, .dat .i), (.cell 0 2, .dat .i)])] }
  | 128 => { nz := [(11, [12])] }
  | _ => {}
noncomputable def F163x (P : Program) (lf : Nat) (x : ckT CK163x × tt [(false, .i)]) : Option ((ckT CK163x × tt [(false, .i)]) ⊕ U163x.2.den) := fnR P (C245x P lf) S163x 163 209 CK163x [(false, .i)] [(false, .i)] 122 U163x lf x
noncomputable def C163x (P : Program) (lf : Nat) : FuncId → Option Con := extC (C245x P lf) 163 (refCon 209 CK163x [(false, .i)] [(false, .i)] 122 U163x (F163x P lf))
theorem F163x_eq (lf : Nat) (a0 : (List ByteArray)) (a1 : Int) (a2 : Int) (a3 : (List (Int × (Int × (Int × (ByteArray × Int)))))) (a4 : Int) : F163x Tryz.prog lf ((a0, (a1, (a2, (a3, ())))), a4) =
  jn (((F245x Tryz.prog lf lf ((a0, (a1, (a2, (a3, ())))), a4))).bind fun r75 => sm r75 (fun r76 : (((List ByteArray) × (Int × (Int × ((List (Int × (Int × (Int × (ByteArray × Int))))) × PUnit)))) × Int) => iter lf (fun y77 : (Int × ((List (Int × (Int × (Int × (ByteArray × Int))))) × ((List ByteArray) × (Int × Int)))) => cond (decide (y77.2.2.2.2 = (0 : Int))) (cond (decide (y77.2.2.2.1 < (y77.2.2.1.length : Int))) (((getI y77.2.2.1 y77.2.2.2.1)).bind fun r78 => cond ((ByteArray.toList r78) == [(UInt8.ofNat 97), (UInt8.ofNat 110), (UInt8.ofNat 100)]) (((F245x Tryz.prog lf lf ((y77.2.2.1, ((w64 (y77.2.2.2.1 + (1 : Int))), (y77.2.2.2.2, (y77.2.1, ())))), a4))).bind fun r79 => sm r79 (fun r80 : (((List ByteArray) × (Int × (Int × ((List (Int × (Int × (Int × (ByteArray × Int))))) × PUnit)))) × Int) => cond (decide (r80.1.2.2.1 = (0 : Int))) (((appC r80.1.2.2.2.1 [((5 : Int), (y77.1, (r80.2, ((bts []), (0 : Int)))))])).bind fun r81 => some (.inl ((w64 ((r81.length : Int) - (1 : Int))), (r81, (r80.1.1, (r80.1.2.1, r80.1.2.2.1)))))) (some (.inl (y77.1, (r80.1.2.2.2.1, (r80.1.1, (r80.1.2.1, r80.1.2.2.1))))))) (fun r82 : Int => some (.inr (.inr (.inr r82))))) (some (.inr (.inl (y77.1, (y77.2.1, (y77.2.2.1, (y77.2.2.2.1, y77.2.2.2.2)))))))) (some (.inr (.inl (y77.1, (y77.2.1, (y77.2.2.1, (y77.2.2.2.1, y77.2.2.2.2)))))))) (some (.inr (.inl (y77.1, (y77.2.1, (y77.2.2.1, (y77.2.2.2.1, y77.2.2.2.2)))))))) (r76.2, (r76.1.2.2.2.1, (r76.1.1, (r76.1.2.1, r76.1.2.2.1))))) (fun r83 : Int => some (.inr (.inr r83)))) (fun y84 : (Int × ((List (Int × (Int × (Int × (ByteArray × Int))))) × ((List ByteArray) × (Int × Int)))) => iter lf (fun y85 : (Int × ((List (Int × (Int × (Int × (ByteArray × Int))))) × ((List ByteArray) × (Int × Int)))) => cond (decide (y85.2.2.2.2 = (0 : Int))) (cond (decide (y85.2.2.2.1 < (y85.2.2.1.length : Int))) (((getI y85.2.2.1 y85.2.2.2.1)).bind fun r86 => cond ((ByteArray.toList r86) == [(UInt8.ofNat 111), (UInt8.ofNat 114)]) (jn (((F245x Tryz.prog lf lf ((y85.2.2.1, ((w64 (y85.2.2.2.1 + (1 : Int))), (y85.2.2.2.2, (y85.2.1, ())))), a4))).bind fun r87 => sm r87 (fun r88 : (((List ByteArray) × (Int × (Int × ((List (Int × (Int × (Int × (ByteArray × Int))))) × PUnit)))) × Int) => iter lf (fun y89 : (Int × ((List (Int × (Int × (Int × (ByteArray × Int))))) × ((List ByteArray) × (Int × Int)))) => cond (decide (y89.2.2.2.2 = (0 : Int))) (cond (decide (y89.2.2.2.1 < (y89.2.2.1.length : Int))) (((getI y89.2.2.1 y89.2.2.2.1)).bind fun r90 => cond ((ByteArray.toList r90) == [(UInt8.ofNat 97), (UInt8.ofNat 110), (UInt8.ofNat 100)]) (((F245x Tryz.prog lf lf ((y89.2.2.1, ((w64 (y89.2.2.2.1 + (1 : Int))), (y89.2.2.2.2, (y89.2.1, ())))), a4))).bind fun r91 => sm r91 (fun r92 : (((List ByteArray) × (Int × (Int × ((List (Int × (Int × (Int × (ByteArray × Int))))) × PUnit)))) × Int) => cond (decide (r92.1.2.2.1 = (0 : Int))) (((appC r92.1.2.2.2.1 [((5 : Int), (y89.1, (r92.2, ((bts []), (0 : Int)))))])).bind fun r93 => some (.inl ((w64 ((r93.length : Int) - (1 : Int))), (r93, (r92.1.1, (r92.1.2.1, r92.1.2.2.1)))))) (some (.inl (y89.1, (r92.1.2.2.2.1, (r92.1.1, (r92.1.2.1, r92.1.2.2.1))))))) (fun r94 : Int => some (.inr (.inr (.inr (.inr r94)))))) (some (.inr (.inl (y89.1, (y89.2.1, (y89.2.2.1, (y89.2.2.2.1, y89.2.2.2.2)))))))) (some (.inr (.inl (y89.1, (y89.2.1, (y89.2.2.1, (y89.2.2.2.1, y89.2.2.2.2)))))))) (some (.inr (.inl (y89.1, (y89.2.1, (y89.2.2.1, (y89.2.2.2.1, y89.2.2.2.2)))))))) (r88.2, (r88.1.2.2.2.1, (r88.1.1, (r88.1.2.1, r88.1.2.2.1))))) (fun r95 : Int => some (.inr (.inr (.inr r95))))) (fun y96 : (Int × ((List (Int × (Int × (Int × (ByteArray × Int))))) × ((List ByteArray) × (Int × Int)))) => cond (decide (y96.2.2.2.2 = (0 : Int))) (((appC y96.2.1 [((6 : Int), (y85.1, (y96.1, ((bts []), (0 : Int)))))])).bind fun r97 => some (.inl ((w64 ((r97.length : Int) - (1 : Int))), (r97, (y96.2.2.1, (y96.2.2.2.1, y96.2.2.2.2)))))) (some (.inl (y85.1, (y96.2.1, (y96.2.2.1, (y96.2.2.2.1, y96.2.2.2.2)))))))) (some (.inr (.inl ((y85.2.2.1, (y85.2.2.2.1, (y85.2.2.2.2, (y85.2.1, ())))), y85.1))))) (some (.inr (.inl ((y85.2.2.1, (y85.2.2.2.1, (y85.2.2.2.2, (y85.2.1, ())))), y85.1))))) (some (.inr (.inl ((y85.2.2.1, (y85.2.2.2.1, (y85.2.2.2.2, (y85.2.1, ())))), y85.1))))) (y84.1, (y84.2.1, (y84.2.2.1, (y84.2.2.2.1, y84.2.2.2.2))))) := by kernel_rfl
def S89x : FuncId → Sp := fun g => match g with
  | 89 => { joins := [(5, [(.cell 5 2, .dat .i)]), (4, [(.slot 18, .dat .bool)])] }
  | 128 => { nz := [(11, [12])] }
  | _ => {}
noncomputable def F89x (P : Program) (lf : Nat) (x : tt [(false, (.sl .str))]) : Option (tt [(true, (.sl (.pair .i (.pair .i (.pair .i (.pair .str .i)))))), (false, .i), (false, .i)]) := fnF P (C163x P lf) S89x 89 [(false, (.sl .str))] [(true, (.sl (.pair .i (.pair .i (.pair .i (.pair .str .i)))))), (false, .i), (false, .i)] lf x
noncomputable def C89x (P : Program) (lf : Nat) : FuncId → Option Con := extC (C163x P lf) 89 (dataCon [(false, (.sl .str))] [(true, (.sl (.pair .i (.pair .i (.pair .i (.pair .str .i)))))), (false, .i), (false, .i)] (F89x P lf))
theorem F89x_eq (lf : Nat) (a0 : (List ByteArray)) : F89x Tryz.prog lf a0 =
  ((F163x Tryz.prog lf ((a0, ((0 : Int), ((0 : Int), (([] : List (Int × (Int × (Int × (ByteArray × Int))))), ())))), (0 : Int)))).bind fun r6 => sm r6 (fun r7 : (((List ByteArray) × (Int × (Int × ((List (Int × (Int × (Int × (ByteArray × Int))))) × PUnit)))) × Int) => jn (jn (cond (decide (r7.1.2.2.1 = (0 : Int))) (some (.inl (decide (r7.1.2.1 < (a0.length : Int))))) (some (.inl false))) (fun y8 : Bool => cond y8 (cond (decide (r7.1.2.2.1 = (0 : Int))) (some (.inl (w64 (r7.1.2.1 + (1 : Int))))) (some (.inl r7.1.2.2.1))) (some (.inl r7.1.2.2.1)))) (fun y9 : Int => cond (!(decide (y9 = (0 : Int)))) (agree (some (([] : List (Int × (Int × (Int × (ByteArray × Int))))), (y9, (46 : Int)))) (some (([] : List (Int × (Int × (Int × (ByteArray × Int))))), (y9, (46 : Int))))) (cond (decide ((r7.1.2.2.2.1.length : Int) > (30 : Int))) (some (([] : List (Int × (Int × (Int × (ByteArray × Int))))), ((0 : Int), (2 : Int)))) (some (r7.1.2.2.2.1, ((0 : Int), (0 : Int))))))) (fun r10 : Int => none) := by kernel_rfl
def S18x : FuncId → Sp := fun g => match g with
  | 128 => { nz := [(11, [12])] }
  | _ => {}
noncomputable def F18x (P : Program) (lf : Nat) (x : tt [(false, .str)]) : Option (tt [(true, (.sl (.pair .i (.pair .i (.pair .i (.pair .str .i)))))), (false, .i), (false, .i)]) := fnF P (C89x P lf) S18x 18 [(false, .str)] [(true, (.sl (.pair .i (.pair .i (.pair .i (.pair .str .i)))))), (false, .i), (false, .i)] lf x
noncomputable def C18x (P : Program) (lf : Nat) : FuncId → Option Con := extC (C89x P lf) 18 (dataCon [(false, .str)] [(true, (.sl (.pair .i (.pair .i (.pair .i (.pair .str .i)))))), (false, .i), (false, .i)] (F18x P lf))
theorem F18x_eq (lf : Nat) (a0 : ByteArray) : F18x Tryz.prog lf a0 =
  cond (decide ((a0.size : Int) > (8000 : Int))) (some (([] : List (Int × (Int × (Int × (ByteArray × Int))))), ((0 : Int), (2 : Int)))) (((F90x Tryz.prog lf a0)).bind fun r3 => ((F89x Tryz.prog lf r3)).bind fun r4 => some (r4.1, (r4.2.1, r4.2.2))) := by kernel_rfl
def S141x : FuncId → Sp := fun g => match g with
  | 128 => { nz := [(11, [12])] }
  | _ => {}
noncomputable def F141x (P : Program) (lf : Nat) : Nat → tt [(false, .i)] → Option (tt [(false, .str)])
  | 0, _ => none
  | n + 1, x => fnF P (extC (C18x P lf) 141 (dataCon [(false, .i)] [(false, .str)] (F141x P lf n))) S141x 141 [(false, .i)] [(false, .str)] lf x
noncomputable def C141x (P : Program) (lf : Nat) : FuncId → Option Con := extC (C18x P lf) 141 (dataCon [(false, .i)] [(false, .str)] (F141x P lf lf))
theorem F141x_eq (lf n : Nat) (a0 : Int) : F141x Tryz.prog lf (n + 1) a0 =
  cond (decide (a0 < (-9 : Int))) (agree (((F141x Tryz.prog lf n (w64 (Int.tdiv a0 (10 : Int))))).bind fun r11 => ((catC r11 (strI [(Go.IntKind.wrap .u8 (w64 ((48 : Int) - (Int.tmod a0 (10 : Int)))))]))).bind fun r12 => some (r11 ++ (strI [(Go.IntKind.wrap .u8 (w64 ((48 : Int) - (Int.tmod a0 (10 : Int)))))]))) (((F141x Tryz.prog lf n (w64 (Int.tdiv a0 (10 : Int))))).bind fun r13 => ((catC r13 (strI [(Go.IntKind.wrap .u8 (w64 ((48 : Int) - (Int.tmod a0 (10 : Int)))))]))).bind fun r14 => some (r13 ++ (strI [(Go.IntKind.wrap .u8 (w64 ((48 : Int) - (Int.tmod a0 (10 : Int)))))])))) (cond (decide (a0 < (0 : Int))) (((F141x Tryz.prog lf n (w64 ((0 : Int) - a0)))).bind fun r15 => ((catC (bts [45]) r15)).bind fun r16 => some ((bts [45]) ++ r15)) (cond (decide (a0 < (10 : Int))) (some (strI [(Go.IntKind.wrap .u8 (w64 ((48 : Int) + a0)))])) (agree (((F141x Tryz.prog lf n (w64 (Int.tdiv a0 (10 : Int))))).bind fun r17 => ((catC r17 (strI [(Go.IntKind.wrap .u8 (w64 ((48 : Int) + (Int.tmod a0 (10 : Int)))))]))).bind fun r18 => some (r17 ++ (strI [(Go.IntKind.wrap .u8 (w64 ((48 : Int) + (Int.tmod a0 (10 : Int)))))]))) (((F141x Tryz.prog lf n (w64 (Int.tdiv a0 (10 : Int))))).bind fun r19 => ((catC r19 (strI [(Go.IntKind.wrap .u8 (w64 ((48 : Int) + (Int.tmod a0 (10 : Int)))))]))).bind fun r20 => some (r19 ++ (strI [(Go.IntKind.wrap .u8 (w64 ((48 : Int) + (Int.tmod a0 (10 : Int)))))])))))) := by kernel_rfl
def S169x : FuncId → Sp := fun g => match g with
  | 128 => { nz := [(11, [12])] }
  | _ => {}
noncomputable def F169x (P : Program) (lf : Nat) (x : tt [(true, (.pair .i (.pair .i (.pair .i (.pair .str .i))))), (false, .bool)]) : Option (tt [(false, .str)]) := fnF P (C141x P lf) S169x 169 [(true, (.pair .i (.pair .i (.pair .i (.pair .str .i))))), (false, .bool)] [(false, .str)] lf x
noncomputable def C169x (P : Program) (lf : Nat) : FuncId → Option Con := extC (C141x P lf) 169 (dataCon [(true, (.pair .i (.pair .i (.pair .i (.pair .str .i))))), (false, .bool)] [(false, .str)] (F169x P lf))
theorem F169x_eq (lf : Nat) (a0 : Int) (a1 : Int) (a2 : Int) (a3 : ByteArray) (a4 : Int) (a5 : Bool) : F169x Tryz.prog lf ((a0, (a1, (a2, (a3, a4)))), a5) =
  ((getI [((bts [60]), (bts [62, 61])), ((bts [60, 61]), (bts [62])), ((bts [61]), (bts [33, 61]))] (w64 (a0 - (1 : Int))))).bind fun r18 => ((getI [((bts [60]), (bts [62, 61])), ((bts [60, 61]), (bts [62])), ((bts [61]), (bts [33, 61]))] (w64 (a0 - (1 : Int))))).bind fun r19 => cond a5 (((catC a3 (bts [32]))).bind fun r20 => ((catC (a3 ++ (bts [32])) r19.2)).bind fun r21 => ((catC ((a3 ++ (bts [32])) ++ r19.2) (bts [32]))).bind fun r22 => ((F141x Tryz.prog lf lf a4)).bind fun r23 => ((catC (((a3 ++ (bts [32])) ++ r19.2) ++ (bts [32])) r23)).bind fun r24 => some ((((a3 ++ (bts [32])) ++ r19.2) ++ (bts [32])) ++ r23)) (((catC a3 (bts [32]))).bind fun r25 => ((catC (a3 ++ (bts [32])) r19.1)).bind fun r26 => ((catC ((a3 ++ (bts [32])) ++ r19.1) (bts [32]))).bind fun r27 => ((F141x Tryz.prog lf lf a4)).bind fun r28 => ((catC (((a3 ++ (bts [32])) ++ r19.1) ++ (bts [32])) r28)).bind fun r29 => some ((((a3 ++ (bts [32])) ++ r19.1) ++ (bts [32])) ++ r28)) := by kernel_rfl
def S171x : FuncId → Sp := fun g => match g with
  | 128 => { nz := [(11, [12])] }
  | _ => {}
noncomputable def F171x (P : Program) (lf : Nat) (x : tt [(true, (.pair .i (.pair .i (.pair .i (.pair .str .i)))))]) : Option (tt [(false, .bool)]) := fnF P (C169x P lf) S171x 171 [(true, (.pair .i (.pair .i (.pair .i (.pair .str .i)))))] [(false, .bool)] lf x
noncomputable def C171x (P : Program) (lf : Nat) : FuncId → Option Con := extC (C169x P lf) 171 (dataCon [(true, (.pair .i (.pair .i (.pair .i (.pair .str .i)))))] [(false, .bool)] (F171x P lf))
theorem F171x_eq (lf : Nat) (a0 : Int) (a1 : Int) (a2 : Int) (a3 : ByteArray) (a4 : Int) : F171x Tryz.prog lf (a0, (a1, (a2, (a3, a4)))) =
  cond (decide (a0 = (5 : Int))) (some true) (some (decide (a0 = (6 : Int)))) := by kernel_rfl
def S170x : FuncId → Sp := fun g => match g with
  | 128 => { nz := [(11, [12])] }
  | _ => {}
noncomputable def F170x (P : Program) (lf : Nat) (x : tt [(true, (.pair .i (.pair .i .i))), (false, .bool)]) : Option (tt [(true, (.pair .i (.pair .i .i)))]) := fnF P (C171x P lf) S170x 170 [(true, (.pair .i (.pair .i .i))), (false, .bool)] [(true, (.pair .i (.pair .i .i)))] lf x
noncomputable def C170x (P : Program) (lf : Nat) : FuncId → Option Con := extC (C171x P lf) 170 (dataCon [(true, (.pair .i (.pair .i .i))), (false, .bool)] [(true, (.pair .i (.pair .i .i)))] (F170x P lf))
theorem F170x_eq (lf : Nat) (a0 : Int) (a1 : Int) (a2 : Int) (a3 : Bool) : F170x Tryz.prog lf ((a0, (a1, a2)), a3) =
  cond a3 (some ((w64 (a0 + (4 : Int))), ((w64 (a1 + (1 : Int))), a2))) (some (a0, (a1, a2))) := by kernel_rfl
def S100x : FuncId → Sp := fun g => match g with
  | 100 => { joins := [(27, [(.cell 6 0, .dat .i), (.cell 6 1, .dat .i), (.cell 6 2, .dat .i)]), (26, [(.slot 13, .dat .i)]), (19, [(.slot 65, .dat .bool)]), (10, [(.slot 24, .dat .bool)])], loops := [(3, [(.slot 3, .own (.pair .i (.pair .i .i)) 141), (.slot 17, .dat .i)])] }
  | 128 => { nz := [(11, [12])] }
  | _ => {}
noncomputable def F100x (P : Program) (lf : Nat) (x : tt [(true, (.sl (.pair .i (.pair .i (.pair .i (.pair .str .i))))))]) : Option (tt [(false, (.sl (.pair .i (.pair .i .i))))]) := fnF P (C170x P lf) S100x 100 [(true, (.sl (.pair .i (.pair .i (.pair .i (.pair .str .i))))))] [(false, (.sl (.pair .i (.pair .i .i))))] lf x
noncomputable def C100x (P : Program) (lf : Nat) : FuncId → Option Con := extC (C170x P lf) 100 (dataCon [(true, (.sl (.pair .i (.pair .i (.pair .i (.pair .str .i))))))] [(false, (.sl (.pair .i (.pair .i .i))))] (F100x P lf))
theorem F100x_eq (lf : Nat) (a0 : (List (Int × (Int × (Int × (ByteArray × Int)))))) : F100x Tryz.prog lf a0 =
  iter lf (fun y117 : ((List (Int × (Int × Int))) × Int) => cond (decide (y117.2 < (a0.length : Int))) (((getI a0 y117.2)).bind fun r118 => jn (jn (cond (decide (r118.1 = (1 : Int))) (some (.inl (decide (r118.1 = (1 : Int))))) (cond (decide (r118.1 = (2 : Int))) (some (.inl (decide (r118.1 = (2 : Int))))) (some (.inl (decide (r118.1 = (3 : Int))))))) (fun y119 : Bool => cond y119 (((F169x Tryz.prog lf ((r118.1, (r118.2.1, (r118.2.2.1, (r118.2.2.2.1, r118.2.2.2.2)))), false))).bind fun r120 => some (.inl ((r120.size : Int), ((0 : Int), (1 : Int))))) (cond (decide (r118.1 = (4 : Int))) (((getI a0 r118.2.1)).bind fun r121 => ((F98 Tryz.prog lf r121.1)).bind fun r122 => cond r122 (((F169x Tryz.prog lf ((r121.1, (r121.2.1, (r121.2.2.1, (r121.2.2.2.1, r121.2.2.2.2)))), true))).bind fun r123 => some (.inl ((r123.size : Int), ((0 : Int), (2 : Int))))) (((getI y117.1 r118.2.1)).bind fun r124 => ((getI y117.1 r118.2.1)).bind fun r125 => agree (((F171x Tryz.prog lf (r121.1, (r121.2.1, (r121.2.2.1, (r121.2.2.2.1, r121.2.2.2.2)))))).bind fun r126 => agree (((F170x Tryz.prog lf ((r125.1, (r125.2.1, r125.2.2)), r126))).bind fun r127 => some (.inl ((w64 (r127.1 + (4 : Int))), ((w64 (r127.2.1 + (1 : Int))), (w64 (r127.2.2 + (1 : Int))))))) (((F170x Tryz.prog lf ((r125.1, (r125.2.1, r125.2.2)), r126))).bind fun r128 => some (.inl ((w64 (r128.1 + (4 : Int))), ((w64 (r128.2.1 + (1 : Int))), (w64 (r128.2.2 + (1 : Int)))))))) (((F171x Tryz.prog lf (r121.1, (r121.2.1, (r121.2.2.1, (r121.2.2.2.1, r121.2.2.2.2)))))).bind fun r129 => ((F170x Tryz.prog lf ((r125.1, (r125.2.1, r125.2.2)), r129))).bind fun r130 => some (.inl ((w64 (r130.1 + (4 : Int))), ((w64 (r130.2.1 + (1 : Int))), (w64 (r130.2.2 + (1 : Int))))))))) (jn (cond (decide (r118.1 = (5 : Int))) (some (.inl (decide (r118.1 = (5 : Int))))) (some (.inl (decide (r118.1 = (6 : Int)))))) (fun y131 : Bool => cond y131 (((getI a0 r118.2.1)).bind fun r132 => ((getI a0 r118.2.2.1)).bind fun r133 => ((getI y117.1 r118.2.1)).bind fun r134 => ((getI y117.1 r118.2.1)).bind fun r135 => cond (decide (r118.1 = (5 : Int))) (agree (((F170x Tryz.prog lf ((r135.1, (r135.2.1, r135.2.2)), (decide (r132.1 = (6 : Int)))))).bind fun r136 => ((getI y117.1 r118.2.2.1)).bind fun r137 => ((getI y117.1 r118.2.2.1)).bind fun r138 => cond (decide (r118.1 = (5 : Int))) (agree (((F171x Tryz.prog lf (r133.1, (r133.2.1, (r133.2.2.1, (r133.2.2.2.1, r133.2.2.2.2)))))).bind fun r139 => cond r139 (agree (((F170x Tryz.prog lf ((r138.1, (r138.2.1, r138.2.2)), true))).bind fun r140 => jn (cond (decide (r118.1 = (6 : Int))) (some (.inl (4 : Int))) (some (.inl (5 : Int)))) (fun y141 : Int => some (.inl ((w64 ((w64 (r136.1 + y141)) + r140.1)), ((if r140.2.1 > r136.2.1 then r140.2.1 else r136.2.1), (w64 ((w64 (r136.2.2 + r140.2.2)) + (1 : Int)))))))) (((F170x Tryz.prog lf ((r138.1, (r138.2.1, r138.2.2)), true))).bind fun r142 => jn (cond (decide (r118.1 = (6 : Int))) (some (.inl (4 : Int))) (some (.inl (5 : Int)))) (fun y143 : Int => some (.inl ((w64 ((w64 (r136.1 + y143)) + r142.1)), ((if r142.2.1 > r136.2.1 then r142.2.1 else r136.2.1), (w64 ((w64 (r136.2.2 + r142.2.2)) + (1 : Int))))))))) (agree (((F170x Tryz.prog lf ((r138.1, (r138.2.1, r138.2.2)), (decide (r133.1 = (6 : Int)))))).bind fun r144 => jn (cond (decide (r118.1 = (6 : Int))) (some (.inl (4 : Int))) (some (.inl (5 : Int)))) (fun y145 : Int => some (.inl ((w64 ((w64 (r136.1 + y145)) + r144.1)), ((if r144.2.1 > r136.2.1 then r144.2.1 else r136.2.1), (w64 ((w64 (r136.2.2 + r144.2.2)) + (1 : Int)))))))) (((F170x Tryz.prog lf ((r138.1, (r138.2.1, r138.2.2)), (decide (r133.1 = (6 : Int)))))).bind fun r146 => jn (cond (decide (r118.1 = (6 : Int))) (some (.inl (4 : Int))) (some (.inl (5 : Int)))) (fun y147 : Int => some (.inl ((w64 ((w64 (r136.1 + y147)) + r146.1)), ((if r146.2.1 > r136.2.1 then r146.2.1 else r136.2.1), (w64 ((w64 (r136.2.2 + r146.2.2)) + (1 : Int)))))))))) (((F171x Tryz.prog lf (r133.1, (r133.2.1, (r133.2.2.1, (r133.2.2.2.1, r133.2.2.2.2)))))).bind fun r148 => cond r148 (((F170x Tryz.prog lf ((r138.1, (r138.2.1, r138.2.2)), true))).bind fun r149 => jn (cond (decide (r118.1 = (6 : Int))) (some (.inl (4 : Int))) (some (.inl (5 : Int)))) (fun y150 : Int => some (.inl ((w64 ((w64 (r136.1 + y150)) + r149.1)), ((if r149.2.1 > r136.2.1 then r149.2.1 else r136.2.1), (w64 ((w64 (r136.2.2 + r149.2.2)) + (1 : Int)))))))) (((F170x Tryz.prog lf ((r138.1, (r138.2.1, r138.2.2)), (decide (r133.1 = (6 : Int)))))).bind fun r151 => jn (cond (decide (r118.1 = (6 : Int))) (some (.inl (4 : Int))) (some (.inl (5 : Int)))) (fun y152 : Int => some (.inl ((w64 ((w64 (r136.1 + y152)) + r151.1)), ((if r151.2.1 > r136.2.1 then r151.2.1 else r136.2.1), (w64 ((w64 (r136.2.2 + r151.2.2)) + (1 : Int)))))))))) (agree (agree (((F170x Tryz.prog lf ((r138.1, (r138.2.1, r138.2.2)), (decide (r133.1 = (6 : Int)))))).bind fun r153 => jn (cond (decide (r118.1 = (6 : Int))) (some (.inl (4 : Int))) (some (.inl (5 : Int)))) (fun y154 : Int => some (.inl ((w64 ((w64 (r136.1 + y154)) + r153.1)), ((if r153.2.1 > r136.2.1 then r153.2.1 else r136.2.1), (w64 ((w64 (r136.2.2 + r153.2.2)) + (1 : Int)))))))) (((F170x Tryz.prog lf ((r138.1, (r138.2.1, r138.2.2)), (decide (r133.1 = (6 : Int)))))).bind fun r155 => jn (cond (decide (r118.1 = (6 : Int))) (some (.inl (4 : Int))) (some (.inl (5 : Int)))) (fun y156 : Int => some (.inl ((w64 ((w64 (r136.1 + y156)) + r155.1)), ((if r155.2.1 > r136.2.1 then r155.2.1 else r136.2.1), (w64 ((w64 (r136.2.2 + r155.2.2)) + (1 : Int))))))))) (((F170x Tryz.prog lf ((r138.1, (r138.2.1, r138.2.2)), (decide (r133.1 = (6 : Int)))))).bind fun r157 => jn (cond (decide (r118.1 = (6 : Int))) (some (.inl (4 : Int))) (some (.inl (5 : Int)))) (fun y158 : Int => some (.inl ((w64 ((w64 (r136.1 + y158)) + r157.1)), ((if r157.2.1 > r136.2.1 then r157.2.1 else r136.2.1), (w64 ((w64 (r136.2.2 + r157.2.2)) + (1 : Int)))))))))) (((F170x Tryz.prog lf ((r135.1, (r135.2.1, r135.2.2)), (decide (r132.1 = (6 : Int)))))).bind fun r159 => ((getI y117.1 r118.2.2.1)).bind fun r160 => ((getI y117.1 r118.2.2.1)).bind fun r161 => cond (decide (r118.1 = (5 : Int))) (agree (((F171x Tryz.prog lf (r133.1, (r133.2.1, (r133.2.2.1, (r133.2.2.2.1, r133.2.2.2.2)))))).bind fun r162 => cond r162 (agree (((F170x Tryz.prog lf ((r161.1, (r161.2.1, r161.2.2)), true))).bind fun r163 => jn (cond (decide (r118.1 = (6 : Int))) (some (.inl (4 : Int))) (some (.inl (5 : Int)))) (fun y164 : Int => some (.inl ((w64 ((w64 (r159.1 + y164)) + r163.1)), ((if r163.2.1 > r159.2.1 then r163.2.1 else r159.2.1), (w64 ((w64 (r159.2.2 + r163.2.2)) + (1 : Int)))))))) (((F170x Tryz.prog lf ((r161.1, (r161.2.1, r161.2.2)), true))).bind fun r165 => jn (cond (decide (r118.1 = (6 : Int))) (some (.inl (4 : Int))) (some (.inl (5 : Int)))) (fun y166 : Int => some (.inl ((w64 ((w64 (r159.1 + y166)) + r165.1)), ((if r165.2.1 > r159.2.1 then r165.2.1 else r159.2.1), (w64 ((w64 (r159.2.2 + r165.2.2)) + (1 : Int))))))))) (agree (((F170x Tryz.prog lf ((r161.1, (r161.2.1, r161.2.2)), (decide (r133.1 = (6 : Int)))))).bind fun r167 => jn (cond (decide (r118.1 = (6 : Int))) (some (.inl (4 : Int))) (some (.inl (5 : Int)))) (fun y168 : Int => some (.inl ((w64 ((w64 (r159.1 + y168)) + r167.1)), ((if r167.2.1 > r159.2.1 then r167.2.1 else r159.2.1), (w64 ((w64 (r159.2.2 + r167.2.2)) + (1 : Int)))))))) (((F170x Tryz.prog lf ((r161.1, (r161.2.1, r161.2.2)), (decide (r133.1 = (6 : Int)))))).bind fun r169 => jn (cond (decide (r118.1 = (6 : Int))) (some (.inl (4 : Int))) (some (.inl (5 : Int)))) (fun y170 : Int => some (.inl ((w64 ((w64 (r159.1 + y170)) + r169.1)), ((if r169.2.1 > r159.2.1 then r169.2.1 else r159.2.1), (w64 ((w64 (r159.2.2 + r169.2.2)) + (1 : Int)))))))))) (((F171x Tryz.prog lf (r133.1, (r133.2.1, (r133.2.2.1, (r133.2.2.2.1, r133.2.2.2.2)))))).bind fun r171 => cond r171 (((F170x Tryz.prog lf ((r161.1, (r161.2.1, r161.2.2)), true))).bind fun r172 => jn (cond (decide (r118.1 = (6 : Int))) (some (.inl (4 : Int))) (some (.inl (5 : Int)))) (fun y173 : Int => some (.inl ((w64 ((w64 (r159.1 + y173)) + r172.1)), ((if r172.2.1 > r159.2.1 then r172.2.1 else r159.2.1), (w64 ((w64 (r159.2.2 + r172.2.2)) + (1 : Int)))))))) (((F170x Tryz.prog lf ((r161.1, (r161.2.1, r161.2.2)), (decide (r133.1 = (6 : Int)))))).bind fun r174 => jn (cond (decide (r118.1 = (6 : Int))) (some (.inl (4 : Int))) (some (.inl (5 : Int)))) (fun y175 : Int => some (.inl ((w64 ((w64 (r159.1 + y175)) + r174.1)), ((if r174.2.1 > r159.2.1 then r174.2.1 else r159.2.1), (w64 ((w64 (r159.2.2 + r174.2.2)) + (1 : Int)))))))))) (agree (agree (((F170x Tryz.prog lf ((r161.1, (r161.2.1, r161.2.2)), (decide (r133.1 = (6 : Int)))))).bind fun r176 => jn (cond (decide (r118.1 = (6 : Int))) (some (.inl (4 : Int))) (some (.inl (5 : Int)))) (fun y177 : Int => some (.inl ((w64 ((w64 (r159.1 + y177)) + r176.1)), ((if r176.2.1 > r159.2.1 then r176.2.1 else r159.2.1), (w64 ((w64 (r159.2.2 + r176.2.2)) + (1 : Int)))))))) (((F170x Tryz.prog lf ((r161.1, (r161.2.1, r161.2.2)), (decide (r133.1 = (6 : Int)))))).bind fun r178 => jn (cond (decide (r118.1 = (6 : Int))) (some (.inl (4 : Int))) (some (.inl (5 : Int)))) (fun y179 : Int => some (.inl ((w64 ((w64 (r159.1 + y179)) + r178.1)), ((if r178.2.1 > r159.2.1 then r178.2.1 else r159.2.1), (w64 ((w64 (r159.2.2 + r178.2.2)) + (1 : Int))))))))) (((F170x Tryz.prog lf ((r161.1, (r161.2.1, r161.2.2)), (decide (r133.1 = (6 : Int)))))).bind fun r180 => jn (cond (decide (r118.1 = (6 : Int))) (some (.inl (4 : Int))) (some (.inl (5 : Int)))) (fun y181 : Int => some (.inl ((w64 ((w64 (r159.1 + y181)) + r180.1)), ((if r180.2.1 > r159.2.1 then r180.2.1 else r159.2.1), (w64 ((w64 (r159.2.2 + r180.2.2)) + (1 : Int))))))))))) (agree (((F170x Tryz.prog lf ((r135.1, (r135.2.1, r135.2.2)), false))).bind fun r182 => ((getI y117.1 r118.2.2.1)).bind fun r183 => ((getI y117.1 r118.2.2.1)).bind fun r184 => cond (decide (r118.1 = (5 : Int))) (agree (((F171x Tryz.prog lf (r133.1, (r133.2.1, (r133.2.2.1, (r133.2.2.2.1, r133.2.2.2.2)))))).bind fun r185 => cond r185 (agree (((F170x Tryz.prog lf ((r184.1, (r184.2.1, r184.2.2)), true))).bind fun r186 => jn (cond (decide (r118.1 = (6 : Int))) (some (.inl (4 : Int))) (some (.inl (5 : Int)))) (fun y187 : Int => some (.inl ((w64 ((w64 (r182.1 + y187)) + r186.1)), ((if r186.2.1 > r182.2.1 then r186.2.1 else r182.2.1), (w64 ((w64 (r182.2.2 + r186.2.2)) + (1 : Int)))))))) (((F170x Tryz.prog lf ((r184.1, (r184.2.1, r184.2.2)), true))).bind fun r188 => jn (cond (decide (r118.1 = (6 : Int))) (some (.inl (4 : Int))) (some (.inl (5 : Int)))) (fun y189 : Int => some (.inl ((w64 ((w64 (r182.1 + y189)) + r188.1)), ((if r188.2.1 > r182.2.1 then r188.2.1 else r182.2.1), (w64 ((w64 (r182.2.2 + r188.2.2)) + (1 : Int))))))))) (agree (((F170x Tryz.prog lf ((r184.1, (r184.2.1, r184.2.2)), (decide (r133.1 = (6 : Int)))))).bind fun r190 => jn (cond (decide (r118.1 = (6 : Int))) (some (.inl (4 : Int))) (some (.inl (5 : Int)))) (fun y191 : Int => some (.inl ((w64 ((w64 (r182.1 + y191)) + r190.1)), ((if r190.2.1 > r182.2.1 then r190.2.1 else r182.2.1), (w64 ((w64 (r182.2.2 + r190.2.2)) + (1 : Int)))))))) (((F170x Tryz.prog lf ((r184.1, (r184.2.1, r184.2.2)), (decide (r133.1 = (6 : Int)))))).bind fun r192 => jn (cond (decide (r118.1 = (6 : Int))) (some (.inl (4 : Int))) (some (.inl (5 : Int)))) (fun y193 : Int => some (.inl ((w64 ((w64 (r182.1 + y193)) + r192.1)), ((if r192.2.1 > r182.2.1 then r192.2.1 else r182.2.1), (w64 ((w64 (r182.2.2 + r192.2.2)) + (1 : Int)))))))))) (((F171x Tryz.prog lf (r133.1, (r133.2.1, (r133.2.2.1, (r133.2.2.2.1, r133.2.2.2.2)))))).bind fun r194 => cond r194 (((F170x Tryz.prog lf ((r184.1, (r184.2.1, r184.2.2)), true))).bind fun r195 => jn (cond (decide (r118.1 = (6 : Int))) (some (.inl (4 : Int))) (some (.inl (5 : Int)))) (fun y196 : Int => some (.inl ((w64 ((w64 (r182.1 + y196)) + r195.1)), ((if r195.2.1 > r182.2.1 then r195.2.1 else r182.2.1), (w64 ((w64 (r182.2.2 + r195.2.2)) + (1 : Int)))))))) (((F170x Tryz.prog lf ((r184.1, (r184.2.1, r184.2.2)), (decide (r133.1 = (6 : Int)))))).bind fun r197 => jn (cond (decide (r118.1 = (6 : Int))) (some (.inl (4 : Int))) (some (.inl (5 : Int)))) (fun y198 : Int => some (.inl ((w64 ((w64 (r182.1 + y198)) + r197.1)), ((if r197.2.1 > r182.2.1 then r197.2.1 else r182.2.1), (w64 ((w64 (r182.2.2 + r197.2.2)) + (1 : Int)))))))))) (agree (agree (((F170x Tryz.prog lf ((r184.1, (r184.2.1, r184.2.2)), (decide (r133.1 = (6 : Int)))))).bind fun r199 => jn (cond (decide (r118.1 = (6 : Int))) (some (.inl (4 : Int))) (some (.inl (5 : Int)))) (fun y200 : Int => some (.inl ((w64 ((w64 (r182.1 + y200)) + r199.1)), ((if r199.2.1 > r182.2.1 then r199.2.1 else r182.2.1), (w64 ((w64 (r182.2.2 + r199.2.2)) + (1 : Int)))))))) (((F170x Tryz.prog lf ((r184.1, (r184.2.1, r184.2.2)), (decide (r133.1 = (6 : Int)))))).bind fun r201 => jn (cond (decide (r118.1 = (6 : Int))) (some (.inl (4 : Int))) (some (.inl (5 : Int)))) (fun y202 : Int => some (.inl ((w64 ((w64 (r182.1 + y202)) + r201.1)), ((if r201.2.1 > r182.2.1 then r201.2.1 else r182.2.1), (w64 ((w64 (r182.2.2 + r201.2.2)) + (1 : Int))))))))) (((F170x Tryz.prog lf ((r184.1, (r184.2.1, r184.2.2)), (decide (r133.1 = (6 : Int)))))).bind fun r203 => jn (cond (decide (r118.1 = (6 : Int))) (some (.inl (4 : Int))) (some (.inl (5 : Int)))) (fun y204 : Int => some (.inl ((w64 ((w64 (r182.1 + y204)) + r203.1)), ((if r203.2.1 > r182.2.1 then r203.2.1 else r182.2.1), (w64 ((w64 (r182.2.2 + r203.2.2)) + (1 : Int)))))))))) (((F170x Tryz.prog lf ((r135.1, (r135.2.1, r135.2.2)), false))).bind fun r205 => ((getI y117.1 r118.2.2.1)).bind fun r206 => ((getI y117.1 r118.2.2.1)).bind fun r207 => cond (decide (r118.1 = (5 : Int))) (agree (((F171x Tryz.prog lf (r133.1, (r133.2.1, (r133.2.2.1, (r133.2.2.2.1, r133.2.2.2.2)))))).bind fun r208 => cond r208 (agree (((F170x Tryz.prog lf ((r207.1, (r207.2.1, r207.2.2)), true))).bind fun r209 => jn (cond (decide (r118.1 = (6 : Int))) (some (.inl (4 : Int))) (some (.inl (5 : Int)))) (fun y210 : Int => some (.inl ((w64 ((w64 (r205.1 + y210)) + r209.1)), ((if r209.2.1 > r205.2.1 then r209.2.1 else r205.2.1), (w64 ((w64 (r205.2.2 + r209.2.2)) + (1 : Int)))))))) (((F170x Tryz.prog lf ((r207.1, (r207.2.1, r207.2.2)), true))).bind fun r211 => jn (cond (decide (r118.1 = (6 : Int))) (some (.inl (4 : Int))) (some (.inl (5 : Int)))) (fun y212 : Int => some (.inl ((w64 ((w64 (r205.1 + y212)) + r211.1)), ((if r211.2.1 > r205.2.1 then r211.2.1 else r205.2.1), (w64 ((w64 (r205.2.2 + r211.2.2)) + (1 : Int))))))))) (agree (((F170x Tryz.prog lf ((r207.1, (r207.2.1, r207.2.2)), (decide (r133.1 = (6 : Int)))))).bind fun r213 => jn (cond (decide (r118.1 = (6 : Int))) (some (.inl (4 : Int))) (some (.inl (5 : Int)))) (fun y214 : Int => some (.inl ((w64 ((w64 (r205.1 + y214)) + r213.1)), ((if r213.2.1 > r205.2.1 then r213.2.1 else r205.2.1), (w64 ((w64 (r205.2.2 + r213.2.2)) + (1 : Int)))))))) (((F170x Tryz.prog lf ((r207.1, (r207.2.1, r207.2.2)), (decide (r133.1 = (6 : Int)))))).bind fun r215 => jn (cond (decide (r118.1 = (6 : Int))) (some (.inl (4 : Int))) (some (.inl (5 : Int)))) (fun y216 : Int => some (.inl ((w64 ((w64 (r205.1 + y216)) + r215.1)), ((if r215.2.1 > r205.2.1 then r215.2.1 else r205.2.1), (w64 ((w64 (r205.2.2 + r215.2.2)) + (1 : Int)))))))))) (((F171x Tryz.prog lf (r133.1, (r133.2.1, (r133.2.2.1, (r133.2.2.2.1, r133.2.2.2.2)))))).bind fun r217 => cond r217 (((F170x Tryz.prog lf ((r207.1, (r207.2.1, r207.2.2)), true))).bind fun r218 => jn (cond (decide (r118.1 = (6 : Int))) (some (.inl (4 : Int))) (some (.inl (5 : Int)))) (fun y219 : Int => some (.inl ((w64 ((w64 (r205.1 + y219)) + r218.1)), ((if r218.2.1 > r205.2.1 then r218.2.1 else r205.2.1), (w64 ((w64 (r205.2.2 + r218.2.2)) + (1 : Int)))))))) (((F170x Tryz.prog lf ((r207.1, (r207.2.1, r207.2.2)), (decide (r133.1 = (6 : Int)))))).bind fun r220 => jn (cond (decide (r118.1 = (6 : Int))) (some (.inl (4 : Int))) (some (.inl (5 : Int)))) (fun y221 : Int => some (.inl ((w64 ((w64 (r205.1 + y221)) + r220.1)), ((if r220.2.1 > r205.2.1 then r220.2.1 else r205.2.1), (w64 ((w64 (r205.2.2 + r220.2.2)) + (1 : Int)))))))))) (agree (agree (((F170x Tryz.prog lf ((r207.1, (r207.2.1, r207.2.2)), (decide (r133.1 = (6 : Int)))))).bind fun r222 => jn (cond (decide (r118.1 = (6 : Int))) (some (.inl (4 : Int))) (some (.inl (5 : Int)))) (fun y223 : Int => some (.inl ((w64 ((w64 (r205.1 + y223)) + r222.1)), ((if r222.2.1 > r205.2.1 then r222.2.1 else r205.2.1), (w64 ((w64 (r205.2.2 + r222.2.2)) + (1 : Int)))))))) (((F170x Tryz.prog lf ((r207.1, (r207.2.1, r207.2.2)), (decide (r133.1 = (6 : Int)))))).bind fun r224 => jn (cond (decide (r118.1 = (6 : Int))) (some (.inl (4 : Int))) (some (.inl (5 : Int)))) (fun y225 : Int => some (.inl ((w64 ((w64 (r205.1 + y225)) + r224.1)), ((if r224.2.1 > r205.2.1 then r224.2.1 else r205.2.1), (w64 ((w64 (r205.2.2 + r224.2.2)) + (1 : Int))))))))) (((F170x Tryz.prog lf ((r207.1, (r207.2.1, r207.2.2)), (decide (r133.1 = (6 : Int)))))).bind fun r226 => jn (cond (decide (r118.1 = (6 : Int))) (some (.inl (4 : Int))) (some (.inl (5 : Int)))) (fun y227 : Int => some (.inl ((w64 ((w64 (r205.1 + y227)) + r226.1)), ((if r226.2.1 > r205.2.1 then r226.2.1 else r205.2.1), (w64 ((w64 (r205.2.2 + r226.2.2)) + (1 : Int)))))))))))) (some (.inl ((4 : Int), ((0 : Int), (1 : Int)))))))))) (fun y228 : (Int × (Int × Int)) => ((appC y117.1 [((if (8001 : Int) < y228.1 then (8001 : Int) else y228.1), (y228.2.1, (if (31 : Int) < y228.2.2 then (31 : Int) else y228.2.2)))])).bind fun r229 => some (.inl (r229, (w64 (y117.2 + (1 : Int))))))) (some (.inr y117.1))) (([] : List (Int × (Int × Int))), (0 : Int)) := by kernel_rfl
def S172x : FuncId → Sp := fun g => match g with
  | 128 => { nz := [(11, [12])] }
  | _ => {}
noncomputable def F172x (P : Program) (lf : Nat) (x : tt [(false, .str), (false, .bool)]) : Option (tt [(false, .str)]) := fnF P (C100x P lf) S172x 172 [(false, .str), (false, .bool)] [(false, .str)] lf x
noncomputable def C172x (P : Program) (lf : Nat) : FuncId → Option Con := extC (C100x P lf) 172 (dataCon [(false, .str), (false, .bool)] [(false, .str)] (F172x P lf))
theorem F172x_eq (lf : Nat) (a0 : ByteArray) (a1 : Bool) : F172x Tryz.prog lf (a0, a1) =
  cond a1 (((catC (bts [40, 32]) a0)).bind fun r4 => ((catC ((bts [40, 32]) ++ a0) (bts [32, 41]))).bind fun r5 => some (((bts [40, 32]) ++ a0) ++ (bts [32, 41]))) (some a0) := by kernel_rfl
def S101x : FuncId → Sp := fun g => match g with
  | 128 => { nz := [(11, [12])] }
  | _ => {}
noncomputable def F101x (P : Program) (lf : Nat) : Nat → tt [(true, (.sl (.pair .i (.pair .i (.pair .i (.pair .str .i)))))), (false, .i)] → Option (tt [(false, .str)])
  | 0, _ => none
  | n + 1, x => fnF P (extC (C172x P lf) 101 (dataCon [(true, (.sl (.pair .i (.pair .i (.pair .i (.pair .str .i)))))), (false, .i)] [(false, .str)] (F101x P lf n))) S101x 101 [(true, (.sl (.pair .i (.pair .i (.pair .i (.pair .str .i)))))), (false, .i)] [(false, .str)] lf x
noncomputable def C101x (P : Program) (lf : Nat) : FuncId → Option Con := extC (C172x P lf) 101 (dataCon [(true, (.sl (.pair .i (.pair .i (.pair .i (.pair .str .i)))))), (false, .i)] [(false, .str)] (F101x P lf lf))
theorem F101x_eq (lf n : Nat) (a0 : (List (Int × (Int × (Int × (ByteArray × Int)))))) (a1 : Int) : F101x Tryz.prog lf (n + 1) (a0, a1) =
  ((getI a0 a1)).bind fun r26 => cond (decide (r26.1 = (0 : Int))) (some (bts [116, 114, 117, 101])) (cond (decide (r26.1 = (4 : Int))) (((getI a0 r26.2.1)).bind fun r27 => ((F98 Tryz.prog lf r27.1)).bind fun r28 => cond r28 (((F169x Tryz.prog lf ((r27.1, (r27.2.1, (r27.2.2.1, (r27.2.2.2.1, r27.2.2.2.2)))), true))).bind fun r29 => some r29) (((F101x Tryz.prog lf n (a0, r26.2.1))).bind fun r30 => ((F171x Tryz.prog lf (r27.1, (r27.2.1, (r27.2.2.1, (r27.2.2.2.1, r27.2.2.2.2)))))).bind fun r31 => ((F172x Tryz.prog lf (r30, r31))).bind fun r32 => ((catC (bts [110, 111, 116, 32]) r32)).bind fun r33 => some ((bts [110, 111, 116, 32]) ++ r32))) (cond (decide (r26.1 = (5 : Int))) (((getI a0 r26.2.1)).bind fun r34 => ((getI a0 r26.2.2.1)).bind fun r35 => ((F101x Tryz.prog lf n (a0, r26.2.1))).bind fun r36 => ((F172x Tryz.prog lf (r36, (decide (r34.1 = (6 : Int)))))).bind fun r37 => ((catC r37 (bts [32, 97, 110, 100, 32]))).bind fun r38 => ((F101x Tryz.prog lf n (a0, r26.2.2.1))).bind fun r39 => ((F171x Tryz.prog lf (r35.1, (r35.2.1, (r35.2.2.1, (r35.2.2.2.1, r35.2.2.2.2)))))).bind fun r40 => ((F172x Tryz.prog lf (r39, r40))).bind fun r41 => ((catC (r37 ++ (bts [32, 97, 110, 100, 32])) r41)).bind fun r42 => some ((r37 ++ (bts [32, 97, 110, 100, 32])) ++ r41)) (cond (decide (r26.1 = (6 : Int))) (((getI a0 r26.2.2.1)).bind fun r43 => ((F101x Tryz.prog lf n (a0, r26.2.1))).bind fun r44 => ((catC r44 (bts [32, 111, 114, 32]))).bind fun r45 => ((F101x Tryz.prog lf n (a0, r26.2.2.1))).bind fun r46 => ((F172x Tryz.prog lf (r46, (decide (r43.1 = (6 : Int)))))).bind fun r47 => ((catC (r44 ++ (bts [32, 111, 114, 32])) r47)).bind fun r48 => some ((r44 ++ (bts [32, 111, 114, 32])) ++ r47)) (((F169x Tryz.prog lf ((r26.1, (r26.2.1, (r26.2.2.1, (r26.2.2.2.1, r26.2.2.2.2)))), false))).bind fun r49 => some r49)))) := by kernel_rfl
def S20x : FuncId → Sp := fun g => match g with
  | 20 => { joins := [(14, [(.slot 61, .dat .bool)]), (7, [(.slot 40, .dat .bool)]), (2, [(.slot 17, .dat .bool)])], loops := [(4, [(.slot 21, .dat .i)])] }
  | 128 => { nz := [(11, [12])] }
  | _ => {}
noncomputable def F20x (P : Program) (lf : Nat) (x : tt [(true, (.sl (.pair .i (.pair .i (.pair .i (.pair .str .i))))))]) : Option (tt [(false, .str), (false, .i)]) := fnF P (C101x P lf) S20x 20 [(true, (.sl (.pair .i (.pair .i (.pair .i (.pair .str .i))))))] [(false, .str), (false, .i)] lf x
noncomputable def C20x (P : Program) (lf : Nat) : FuncId → Option Con := extC (C101x P lf) 20 (dataCon [(true, (.sl (.pair .i (.pair .i (.pair .i (.pair .str .i))))))] [(false, .str), (false, .i)] (F20x P lf))
theorem F20x_eq (lf : Nat) (a0 : (List (Int × (Int × (Int × (ByteArray × Int)))))) : F20x Tryz.prog lf a0 =
  jn (cond (decide ((a0.length : Int) = (0 : Int))) (some (.inl true)) (some (.inl (decide ((a0.length : Int) > (30 : Int)))))) (fun y12 : Bool => cond y12 (some ((bts []), (41 : Int))) (iter lf (fun y13 : Int => cond (decide (y13 < (a0.length : Int))) (((getI a0 y13)).bind fun r14 => jn (((F97 Tryz.prog lf ((r14.1, (r14.2.1, (r14.2.2.1, (r14.2.2.2.1, r14.2.2.2.2)))), y13))).bind fun r15 => cond (!r15) (some (.inl true)) (((F98 Tryz.prog lf r14.1)).bind fun r16 => cond r16 (((F99 Tryz.prog lf r14.2.2.2.1)).bind fun r17 => some (.inl (!r17))) (some (.inl false)))) (fun y18 : Bool => cond y18 (some (.inr ((bts []), (41 : Int)))) (some (.inl (w64 (y13 + (1 : Int))))))) (outR (((F100x Tryz.prog lf a0)).bind fun r19 => ((getI r19 (w64 ((a0.length : Int) - (1 : Int))))).bind fun r20 => cond (decide (r20.2.1 > (8 : Int))) (some ((bts []), (41 : Int))) (jn (cond (decide (r20.1 > (8000 : Int))) (some (.inl true)) (some (.inl (decide (r20.2.2 > (30 : Int)))))) (fun y21 : Bool => cond y21 (some ((bts []), (2 : Int))) (((F101x Tryz.prog lf lf (a0, (w64 ((a0.length : Int) - (1 : Int)))))).bind fun r22 => some (r22, (0 : Int)))))))) (0 : Int))) := by kernel_rfl
def S3x : FuncId → Sp := fun g => match g with
  | 3 => { joins := [(7, [(.slot 70, .dat .bool)])] }
  | 128 => { nz := [(11, [12])] }
  | _ => {}
noncomputable def F3x (P : Program) (lf : Nat) (x : tt [(false, .str), (true, (.sl (.pair .i (.pair .i (.pair .i (.pair .str .i))))))]) : Option (tt [(false, .bool)]) := fnF P (C20x P lf) S3x 3 [(false, .str), (true, (.sl (.pair .i (.pair .i (.pair .i (.pair .str .i))))))] [(false, .bool)] lf x
theorem F3x_eq (lf : Nat) (a0 : ByteArray) (a1 : (List (Int × (Int × (Int × (ByteArray × Int)))))) : F3x Tryz.prog lf (a0, a1) =
  ((cutC a0 (0 : Int) (if (2000 : Int) < (a0.size : Int) then (2000 : Int) else (a0.size : Int)))).bind fun r14 => ((F17 Tryz.prog lf (ByteArray.extract a0 0 (Int.toNat (if (2000 : Int) < (a0.size : Int) then (2000 : Int) else (a0.size : Int)))))).bind fun r15 => ((F18x Tryz.prog lf (ByteArray.extract a0 0 (Int.toNat (if (2000 : Int) < (a0.size : Int) then (2000 : Int) else (a0.size : Int)))))).bind fun r16 => ((F19 Tryz.prog lf a1)).bind fun r17 => ((F20x Tryz.prog lf a1)).bind fun r18 => jn (((F21x Tryz.prog lf (r15.1, r16.1))).bind fun r19 => cond (!r19) (some (.inl true)) (cond (!(decide (r15.2.1 = r16.2.1))) (some (.inl true)) (cond (!(decide (r15.2.2 = r16.2.2))) (some (.inl true)) (cond (!((ByteArray.toList r17.1) == (ByteArray.toList r18.1))) (some (.inl true)) (some (.inl (!(decide (r17.2 = r18.2))))))))) (fun y20 : Bool => cond y20 (some false) (cond (!(decide (r15.2.2 = (0 : Int)))) (((F22 Tryz.prog lf ())).bind fun r21 => some r21) (((F19 Tryz.prog lf r15.1)).bind fun r22 => ((F17 Tryz.prog lf r22.1)).bind fun r23 => cond (decide (r22.2 = (0 : Int))) (cond (decide (r23.2.2 = (0 : Int))) (((F21x Tryz.prog lf (r23.1, r15.1))).bind fun r24 => cond r24 (((F22 Tryz.prog lf ())).bind fun r25 => some r25) (some false)) (some false)) (some false)))) := by kernel_rfl
end Go.K
set_option linter.unusedVariables false
set_option linter.unusedSimpArgs false
set_option maxRecDepth 100000
set_option maxHeartbeats 0
namespace Go.K
open Go.Sl Go.Sx Go.Proofs
theorem F21x_G (lf : Nat) (x : ((List (Int × (Int × (Int × (ByteArray × Int))))) × (List (Int × (Int × (Int × (ByteArray × Int))))))) : F21x Tryz.prog lf x = G21 lf x := (F21x_eq lf x.1 x.2).trans (by
  unfold G21
  (try simp only [agree_self, Lib.toList_data]); first | done | rfl)
theorem F90x_G (lf : Nat) (x : ByteArray) : F90x Tryz.prog lf x = G90 lf x := (F90x_eq lf x).trans (by
  unfold G90
  (try simp only [agree_self, Lib.toList_data]); first | done | rfl)
theorem F276x_G (lf : Nat) (x : ByteArray) : F276x Tryz.prog lf x = G276 lf x := (F276x_eq lf x).trans (by
  unfold G276
  (try simp only [agree_self, Lib.toList_data]); first | done | rfl)
theorem F203x_G (lf : Nat) (x : (ByteArray × (Int × Bool))) : F203x Tryz.prog lf x = G203 lf x := (F203x_eq lf x.1 x.2.1 x.2.2).trans (by
  unfold G203
  (try simp only [agree_self, Lib.toList_data]); first | done | rfl)
theorem F245x_G (lf : Nat) : ∀ (n : Nat) (x : (((List ByteArray) × (Int × (Int × ((List (Int × (Int × (Int × (ByteArray × Int))))) × Unit)))) × Int)), F245x Tryz.prog lf n x = G245 lf n x
  | 0, _ => rfl
  | n + 1, x => (F245x_eq lf n x.1.1 x.1.2.1 x.1.2.2.1 x.1.2.2.2.1 x.2).trans (by
    unfold G245
    (try simp only [F245x_G lf n, F99_G, F126_G, F203x_G, F276x_G, agree_self, Lib.toList_data]); first | done | rfl)
theorem F163x_G (lf : Nat) (x : (((List ByteArray) × (Int × (Int × ((List (Int × (Int × (Int × (ByteArray × Int))))) × Unit)))) × Int)) : F163x Tryz.prog lf x = G163 lf x := (F163x_eq lf x.1.1 x.1.2.1 x.1.2.2.1 x.1.2.2.2.1 x.2).trans (by
  unfold G163
  (try simp only [F245x_G, agree_self, Lib.toList_data]); first | done | rfl)
theorem F89x_G (lf : Nat) (x : (List ByteArray)) : F89x Tryz.prog lf x = G89 lf x := (F89x_eq lf x).trans (by
  unfold G89
  (try simp only [F163x_G, agree_self, Lib.toList_data]); first | done | rfl)
theorem F18x_G (lf : Nat) (x : ByteArray) : F18x Tryz.prog lf x = G18 lf x := (F18x_eq lf x).trans (by
  unfold G18
  (try simp only [F89x_G, F90x_G, agree_self, Lib.toList_data]); first | done | rfl)
theorem F141x_G (lf : Nat) : ∀ (n : Nat) (x : Int), F141x Tryz.prog lf n x = G141 lf n x
  | 0, _ => rfl
  | n + 1, x => (F141x_eq lf n x).trans (by
    unfold G141
    (try simp only [F141x_G lf n, agree_self, Lib.toList_data]); first | done | rfl)
theorem F169x_G (lf : Nat) (x : ((Int × (Int × (Int × (ByteArray × Int)))) × Bool)) : F169x Tryz.prog lf x = G169 lf x := (F169x_eq lf x.1.1 x.1.2.1 x.1.2.2.1 x.1.2.2.2.1 x.1.2.2.2.2 x.2).trans (by
  unfold G169
  (try simp only [F141x_G, agree_self, Lib.toList_data]); first | done | rfl)
theorem F171x_G (lf : Nat) (x : (Int × (Int × (Int × (ByteArray × Int))))) : F171x Tryz.prog lf x = G171 lf x := (F171x_eq lf x.1 x.2.1 x.2.2.1 x.2.2.2.1 x.2.2.2.2).trans (by
  unfold G171
  (try simp only [agree_self, Lib.toList_data]); first | done | rfl)
theorem F170x_G (lf : Nat) (x : ((Int × (Int × Int)) × Bool)) : F170x Tryz.prog lf x = G170 lf x := (F170x_eq lf x.1.1 x.1.2.1 x.1.2.2 x.2).trans (by
  unfold G170
  (try simp only [agree_self, Lib.toList_data]); first | done | rfl)
theorem F100x_G (lf : Nat) (x : (List (Int × (Int × (Int × (ByteArray × Int)))))) : F100x Tryz.prog lf x = G100 lf x := (F100x_eq lf x).trans (by
  unfold G100
  (try simp only [F98_G, F169x_G, F170x_G, F171x_G, agree_self, Lib.toList_data]); first | done | rfl)
theorem F172x_G (lf : Nat) (x : (ByteArray × Bool)) : F172x Tryz.prog lf x = G172 lf x := (F172x_eq lf x.1 x.2).trans (by
  unfold G172
  (try simp only [agree_self, Lib.toList_data]); first | done | rfl)
theorem F101x_G (lf : Nat) : ∀ (n : Nat) (x : ((List (Int × (Int × (Int × (ByteArray × Int))))) × Int)), F101x Tryz.prog lf n x = G101 lf n x
  | 0, _ => rfl
  | n + 1, x => (F101x_eq lf n x.1 x.2).trans (by
    unfold G101
    (try simp only [F101x_G lf n, F98_G, F169x_G, F171x_G, F172x_G, agree_self, Lib.toList_data]); first | done | rfl)
theorem F20x_G (lf : Nat) (x : (List (Int × (Int × (Int × (ByteArray × Int)))))) : F20x Tryz.prog lf x = G20 lf x := (F20x_eq lf x).trans (by
  unfold G20
  (try simp only [F97_G, F98_G, F99_G, F100x_G, F101x_G, agree_self, Lib.toList_data]); first | done | rfl)
theorem F3x_G (lf : Nat) (x : (ByteArray × (List (Int × (Int × (Int × (ByteArray × Int))))))) : F3x Tryz.prog lf x = G3 lf x := (F3x_eq lf x.1 x.2).trans (by
  unfold G3
  (try simp only [F17_G, F18x_G, F19_G, F20x_G, F21x_G, F22_G, agree_self, Lib.toList_data]); first | done | rfl)
end Go.K
set_option linter.unusedVariables false
set_option linter.unusedSimpArgs false
set_option maxRecDepth 100000
namespace Go.K
open Go.Sl Go.Sx Go.Proofs Go.Shelf Go.RowKit
variable {P : Program} {ρ' : Ren} {E : Env}
theorem foldl_sum (k : Nat) : ∀ (xs : List ByteArray) (n : Nat), xs.foldl (fun n x => n + x.size + k) n = n + (xs.map fun x => x.size + k).sum
  | [], n => by simp
  | x :: xs, n => by rw [List.foldl_cons, foldl_sum k xs]; simp; omega
theorem join_data (sep : ByteArray) : ∀ (xs : List ByteArray) (r : ByteArray), (xs.foldl (fun r y => r ++ sep ++ y) r).data.toList = r.data.toList ++ (xs.map fun y => sep.data.toList ++ y.data.toList).flatten
  | [], r => by simp
  | y :: xs, r => by rw [List.foldl_cons, join_data sep xs]; simp [ByteArray.data_append]
theorem size_len' (s : ByteArray) : s.size = s.data.toList.length := by simp
theorem lens_eq : ∀ xs : List ByteArray, Lib.lens (xs.map (·.data.toList)) = (xs.map (·.size)).sum
  | [] => rfl
  | x :: xs => by
    have := lens_eq xs
    simp only [Lib.lens, List.map_cons, List.flatten_cons, List.length_append, List.sum_cons] at this ⊢
    rw [this, size_len']
theorem sum_add (k : Nat) : ∀ xs : List ByteArray, (xs.map fun x => x.size + (k + 1)).sum = (xs.map (·.size)).sum + k * xs.length + xs.length
  | [] => by simp
  | x :: xs => by
    simp only [List.map_cons, List.sum_cons, sum_add k xs, List.length_cons, Nat.mul_add]; omega
theorem joinC_lib {sep : ByteArray} {xs : List ByteArray} {y : ByteArray} (h : joinC sep xs = some y) : y = ⟨(Lib.join (xs.map (·.data.toList)) sep.data.toList).toArray⟩ ∧ (Lib.join (xs.map (·.data.toList)) sep.data.toList).length ≤ 140737488355328 ∧ xs.length ≤ 140737488355328 := by
  unfold joinC at h
  split at h
  · rename_i hc
    rw [foldl_sum, sum_add] at hc
    have hll := lens_eq xs
    cases xs with
    | nil =>
      simp only [Option.some.injEq] at h
      subst h
      exact ⟨rfl, by simp [Lib.join_nil], by simp⟩
    | cons x xs =>
      simp only [Option.some.injEq] at h
      have hj : (Lib.join ((x :: xs).map (·.data.toList)) sep.data.toList) = y.data.toList := by
        rw [← h, join_data, List.map_cons, Lib.join_cons]
        congr 1
        unfold Lib.joinTail
        rw [List.map_map]
        rfl
      have hlen := Lib.join_length x.data.toList (xs.map (·.data.toList)) sep.data.toList
      rw [List.map_cons] at hj hll
      simp only [List.length_cons, List.length_map] at hc hlen
      rw [hll] at hlen
      refine ⟨?_, ?_, ?_⟩
      · rw [List.map_cons, hj]
      · rw [List.map_cons, hlen]
        have hs : sep.data.toList.length = sep.size := (size_len' sep).symm
        rw [hs]
        have := Nat.mul_le_mul (Nat.le_refl sep.size) (show xs.length ≤ xs.length + 1 by omega)
        omega
      · simp only [List.length_cons]; omega
  · cases h
theorem join_valid (Ly : Lays.n156 P ρ') (X : Builder.Extra P ρ') : Valid E P (ρ'.f 156) [aSs, aS] [aS] fun x => joinC x.2 x.1 := by
  intro x y hx z L w vs hz hrep hs
  obtain ⟨v, r, rfl, hv, u, rfl, hu⟩ := hrep
  have h2 := rep_str hu
  subst h2
  obtain ⟨rfl, hl, hn⟩ := joinC_lib hx
  have hv' := rep1 hv
  obtain ⟨o, c, e1, hsl⟩ := hv'
  simp only [List.cons.injEq, and_true] at e1
  subst e1
  have fin : ∀ (o : Option Addr), (o = none → x.1 = []) → (∀ a, o = some a → ∀ j s, x.1[j]? = some s → z.cell? (a.add j) = some (.string s)) → x.1.length ≤ c → Calls P (ρ'.f 156) #[.slice o x.1.length c, .string x.2] w fun e w' => e = .returned (.string ⟨(Lib.join (x.1.map (·.data.toList)) x.2.data.toList).toArray⟩) ∧ Below w.heap.size w w' := by
    intro o h0 h1 hcap
    cases hx1 : x.1 with
    | nil =>
      simp only [List.length_nil]
      refine (Any.strings_Join_none Ly X o c x.2 w).mono fun e w' ⟨he, hw⟩ => ⟨he, hw ▸ Below.refl _ _⟩
    | cons s0 ss =>
      cases o with
      | none => rw [h0 rfl] at hx1; cases hx1
      | some a =>
        have hc0 := h1 a rfl 0 s0 (by rw [hx1]; rfl)
        have hspot : a.spot = none ∧ (a.add 0) = a := by
          constructor
          · unfold Zone.cell? at hc0
            split at hc0
            · split at hc0
              · cases hc0
              · rename_i hsp
                rw [add_zero' a] at hsp
                cases hs : a.spot with
                | none => rfl
                | some q => rw [hs] at hsp; simp at hsp
            · cases hc0
          · exact add_zero' a
        obtain ⟨bk, off, sp⟩ := a
        obtain ⟨hsp, _⟩ := hspot
        simp only at hsp
        subst hsp
        have hcell : ∀ (j : Nat) s, (s0 :: ss)[j]? = some s → w.cell? ⟨bk, off + j, none⟩ = some (.string s) := fun j s hj => by
          have := h1 _ rfl j s (by rw [hx1]; exact hj)
          have := hs.cell this
          have ha : (⟨bk, off, none⟩ : Addr).add j = ⟨bk, off + j, none⟩ := by unfold Addr.add; split <;> simp_all
          rwa [ha] at this
        have hbk : bk < w.heap.size := by
          have := hcell 0 s0 rfl
          unfold World.cell? at this
          cases hb : w.heap[bk]? with
          | none => rw [hb] at this; cases this
          | some ob => exact (Array.getElem?_eq_some_iff.1 hb).1
        rw [hx1] at hl hn hcap
        exact Any.strings_Join Ly X bk off c (s0 :: ss) x.2 w hcell hbk hn hcap hl
  refine (fin o (fun e => (hsl.hnil e).1) (fun a e j s hj => ?_) hsl.hcap).mono ?_
  · obtain ⟨cs, hr, hc⟩ := hsl.hat a e j s hj
    have hr' : cs = [.string s] := hr
    have := hc 0 (.string s) (by rw [hr']; rfl)
    have e1 : j * (TC.str.ty).size = j := by show j * 1 = j; omega
    rw [e1] at this
    rwa [add_zero'] at this
  · rintro en w' ⟨rfl, hb⟩
    exact ⟨_, z, rfl, Zone.le_refl _, ⟨[.string _], rfl, _, rfl, .inr ⟨rfl, rfl⟩⟩, hs.of_below hb⟩
end Go.K
set_option linter.unusedVariables false
set_option linter.unusedSimpArgs false
set_option maxRecDepth 100000
namespace Go.Proofs
open Go.Shelf Go.RowKit Go.Lib
theorem Tryz.isBlank (W : World) (r : Nat) : FnGives Tryz.prog 158 #[] #[encR r] (.bool (Nat.beq r 32)) W := by
  unfold FnGives
  have e : Nat.beq r 32 = decide ((r : Int) = 32) := by
    cases h : Nat.beq r 32 with
    | true => have := Nat.eq_of_beq_eq_true h; simp; omega
    | false => have := Nat.ne_of_beq_eq_false h; simp; omega
  rw [e]
  go_enter Tryz.func158, Tryz.ntmps158
  go_wp2
  go_ret
  exact ⟨rfl, 0, rfl⟩
theorem Tryz.extraB : Builder.Extra Tryz.prog Tryz.join_ren := {
  sizeBuilder := by kernel_rfl
  liesBuilder := by kernel_rfl
  t5 := Tryz.underlying5
  a5 := Tryz.isAgg5
  z5 := Tryz.sizeOf5
  v5 := Tryz.zeroValue5
  infoByte := by kernel_rfl
  cellsByte := by kernel_rfl
  sizeByte := by kernel_rfl
  neB5 := by decide }
end Go.Proofs
namespace Go.K
open Go.Sl Go.Sx Go.Proofs Go.Shelf Go.RowKit
theorem mixedT : Tryz.prog.follows .mixedOrders = true := by kernel_rfl
abbrev HC (E : Env) (C : FuncId → Option Con) : Prop := ∀ L, envA E ∈ L → ∀ g con, C g = some con → ConOk Tryz.prog L con g
theorem sort_row : RowOk Tryz.prog 182 .i sortL := ⟨fun xs => (sortL_len xs).symm, fun hS hj hl => sortOwn Tryz.sortI hS hj hl⟩
theorem comp_cut : CutOk Tryz.prog 183 .i compL := fun hS hj hl => compactOwn Tryz.compactI hS hj hl
theorem ct_ok (lf : Nat) : HC (envT Tryz.prog 0) (CT Tryz.prog lf) := by
  intro L hL
  unfold CT
  refine extC_ok (extC_ok (extC_ok (extC_ok (extC_ok (extC_ok (extC_ok (extC_ok (fun g con h => by cases h) ?a) ?b) ?c) ?d) ?e) ?f) ?g) ?h
  case a => exact dataCon_ok (itoa_valid Tryz.itoa) hL
  case b => exact dataCon_ok (trim_valid Tryz.trim (by kernel_rfl)) hL
  case c => exact rowCon_ok sort_row
  case d => exact cutCon_ok comp_cut
  case e => exact dataCon_ok (split_valid Tryz.split (by kernel_rfl)) hL
  case f => exact atoiCon_ok Tryz.atoi
  case g => exact fieldsCon_ok Tryz.fields (enters_of Tryz.func158 (by kernel_rfl) rfl) (fun W x => Tryz.isBlank W x) (by kernel_rfl) (by kernel_rfl)
  case h => exact dataCon_ok (join_valid Tryz.join Tryz.extraB) hL
end Go.K
