/-
  A part of the walk and of the plain law of one given statement. No condition.
-/
import Derived.Test.YtlkffcddfpghkaaGreatDoorR14
import Derived.Test.YtlkffcddfpghkaaGreatDoorProg
import Derived.Test.YtlkffcddfpghkaaGreatDoorK8
import Derived.Test.YtlkffcddfpghkaaGreatDoorG5
import Derived.Shelf.Sort.Plain
import Derived.Shelf.Slices.In.SortNone
import Derived.Shelf.SlicesG.CompactI
import Derived.Shelf.Spec.SlicesGrow
import Derived.Sort.OwnSortedInts
import Derived.Shelf.Strings.OnBuilder
import Derived.Lib.Join
import Derived.WalkKit
import Derived.Test.YtlkffcddfpghkaaGreatDoorSh
import Derived.Shelf.RegionOpenPlain
import Derived.Lib.Slices
import Derived.Lib.Walk
import Derived.Laws.Externs
import Derived.ProofKit
import Derived.OpenShut
import Derived.Stop.Joined
import Derived.Deep.Slices
import Derived.SizedLaws
import Derived.Shelf.Vars
import Derived.Lay
import Derived.LaidMore
set_option linter.unusedVariables false
set_option maxRecDepth 100000
set_option maxHeartbeats 0
namespace Go.K
open Go.Sl Go.Sx Go.Proofs
abbrev AO7 : List AT := [(true, (.pair .str (.pair (.sl (.pair .str (.pair .i .i))) (.sl (.pair .str (.pair .i (.pair .i (.pair (.sl (.pair .i (.pair .i (.pair .i (.pair .str .i))))) (.pair (.sl (.pair .i (.pair .i (.pair .i (.pair .str .i))))) (.sl .str)))))))))), (true, (.pair .i (.pair .i .i))), (false, (.sl .i))]
abbrev RO7 : List AT := [(false, .bool)]
def S7 : FuncId → Sp := fun g => match g with
  | 7 => { joins := [(23, [(.slot 102, .dat .bool)])], loops := [(20, [(.slot 15, .dat .bool), (.slot 89, .dat .i)]), (9, [(.slot 52, .dat .i)])] }
  | 128 => { nz := [(11, [12])] }
  | _ => {}
noncomputable def F7 (P : Program) (lf : Nat) (x : tt AO7) : Option (tt RO7) := fnF P (C12 P lf) S7 7 AO7 RO7 lf x
theorem F7_eq (lf : Nat) (a0 : ByteArray) (a1 : (List (ByteArray × (Int × Int)))) (a2 : (List (ByteArray × (Int × (Int × ((List (Int × (Int × (Int × (ByteArray × Int))))) × ((List (Int × (Int × (Int × (ByteArray × Int))))) × (List ByteArray)))))))) (a3 : Int) (a4 : Int) (a5 : Int) (a6 : (List Int)) : F7 Tryz.prog lf ((a0, (a1, a2)), ((a3, (a4, a5)), a6)) =
  ((F41 Tryz.prog lf (a0, (a1, a2)))).bind fun r30 => ((F32 Tryz.prog lf (a0, (a1, a2)))).bind fun r31 => cond (!(decide (r31 = (0 : Int)))) (cond (!(decide (r30.2 = (0 : Int)))) (((F22 Tryz.prog lf ())).bind fun r32 => some r32) (some false)) (cond (decide ((a2.length : Int) < (2 : Int))) (cond (decide (r30.2 = (0 : Int))) (cond (decide ((r30.1.length : Int) = (0 : Int))) (((F22 Tryz.prog lf ())).bind fun r33 => some r33) (some false)) (some false)) (cond (!(decide (r30.2 = (0 : Int)))) (some false) (iter lf (fun y34 : Int => cond (decide (y34 < (r30.1.length : Int))) (((getI r30.1 y34)).bind fun r35 => ((F42 Tryz.prog lf ((a0, (a1, a2)), (r35.1, (r35.2.1, (r35.2.2.1, r35.2.2.2)))))).bind fun r36 => cond (!(decide (r36 = (0 : Int)))) (some (.inr false)) (some (.inl (w64 (y34 + (1 : Int)))))) (outR (((F43 Tryz.prog lf (((0 : Int), (w64 ((a2.length : Int) - (2 : Int)))), a3))).bind fun r37 => ((F43 Tryz.prog lf (((w64 (r37 + (1 : Int))), (w64 ((a2.length : Int) - (1 : Int)))), a4))).bind fun r38 => ((F43 Tryz.prog lf (((0 : Int), (100000 : Int)), a5))).bind fun r39 => ((F39 Tryz.prog lf (a1, a6))).bind fun r40 => iter lf (fun y41 : (Bool × Int) => cond (decide (y41.2 < (r30.1.length : Int))) (((getI r30.1 y41.2)).bind fun r42 => jn (cond (decide (r42.1 = r37)) (some (.inl (decide (r42.2.1 = r38)))) (some (.inl false))) (fun y43 : Bool => cond y43 (some (.inl (true, (w64 (y41.2 + (1 : Int)))))) (some (.inl (y41.1, (w64 (y41.2 + (1 : Int)))))))) (outR (((F40 Tryz.prog lf ((a0, (a1, a2)), (r39, r40)))).bind fun r44 => ((F42 Tryz.prog lf ((a0, (a1, a2)), (r37, (r38, (r39, r40)))))).bind fun r45 => cond (!(decide (r45 = (0 : Int)))) (cond (decide (r45 = (0 : Int))) (((F22 Tryz.prog lf ())).bind fun r46 => some r46) (cond (decide (r45 = (42 : Int))) (((F22 Tryz.prog lf ())).bind fun r47 => some r47) (some false))) (cond y41.1 (((getI r44 r37)).bind fun r48 => cond r48 (((getI r44 r38)).bind fun r49 => cond r49 (cond (decide (r45 = (0 : Int))) (((F22 Tryz.prog lf ())).bind fun r50 => some r50) (cond (decide (r45 = (42 : Int))) (((F22 Tryz.prog lf ())).bind fun r51 => some r51) (some false))) (some false)) (some false)) (some false))))) (false, (0 : Int))))) (0 : Int)))) := by kernel_rfl
end Go.K
set_option linter.unusedVariables false
set_option linter.unusedSimpArgs false
set_option maxRecDepth 100000
set_option maxHeartbeats 0
namespace Go.K
open Go.Sl Go.Sx Go.Proofs
noncomputable def G42 (lf : Nat) (x : ((ByteArray × ((List (ByteArray × (Int × Int))) × (List (ByteArray × (Int × (Int × ((List (Int × (Int × (Int × (ByteArray × Int))))) × ((List (Int × (Int × (Int × (ByteArray × Int))))) × (List ByteArray))))))))) × (Int × (Int × (Int × (List Int)))))) : Option (Int) :=
  ((G31 lf (x.1.1, (x.1.2.1, x.1.2.2)))).bind fun r28 => cond (!(decide (r28 = (0 : Int)))) (some r28) (jn (cond (decide (x.2.1 < (0 : Int))) (some (.inl true)) (cond (decide (x.2.1 ≥ x.2.2.1)) (some (.inl true)) (cond (decide (x.2.2.1 ≥ (x.1.2.2.length : Int))) (some (.inl true)) (((G91 lf (x.2.2.2.1, ((0 : Int), (100000 : Int))))).bind fun r29 => cond (!r29) (some (.inl true)) (((G129 lf ((x.1.1, (x.1.2.1, x.1.2.2)), x.2.2.2.2))).bind fun r30 => some (.inl (!r30))))))) (fun y31 : Bool => cond y31 (some (42 : Int)) (((G131 lf ())).bind fun r32 => ((G130 lf ((x.1.1, (x.1.2.1, x.1.2.2)), (x.2.2.2.1, (x.2.2.2.2, ()))))).bind fun r33 => ((G128 lf ((x.1.1, (x.1.2.1, x.1.2.2)), (x.2.1, (x.2.2.1, x.2.2.2.1))))).bind fun r34 => jn (cond (!r34.2) (some (.inl true)) (((getI r33.1 x.2.1)).bind fun r35 => cond (!r35) (some (.inl true)) (((getI r33.1 x.2.2.1)).bind fun r36 => some (.inl (!r36))))) (fun y37 : Bool => cond y37 (some (42 : Int)) (some (0 : Int))))))
theorem F42_G (lf : Nat) (x : ((ByteArray × ((List (ByteArray × (Int × Int))) × (List (ByteArray × (Int × (Int × ((List (Int × (Int × (Int × (ByteArray × Int))))) × ((List (Int × (Int × (Int × (ByteArray × Int))))) × (List ByteArray))))))))) × (Int × (Int × (Int × (List Int)))))) : F42 Tryz.prog lf x = G42 lf x := (F42_eq lf x.1.1 x.1.2.1 x.1.2.2 x.2.1 x.2.2.1 x.2.2.2.1 x.2.2.2.2).trans (by
  unfold G42
  (try simp only [F31_G, F91_G, F128_G, F129_G, F130_G, F131_G, agree_self, Lib.toList_data]); first | done | rfl)
end Go.K
set_option linter.unusedVariables false
set_option linter.unusedSimpArgs false
set_option maxRecDepth 100000
set_option maxHeartbeats 0
namespace Go.K
open Go.Sl Go.Sx Go.Proofs
noncomputable def G7 (lf : Nat) (x : ((ByteArray × ((List (ByteArray × (Int × Int))) × (List (ByteArray × (Int × (Int × ((List (Int × (Int × (Int × (ByteArray × Int))))) × ((List (Int × (Int × (Int × (ByteArray × Int))))) × (List ByteArray))))))))) × ((Int × (Int × Int)) × (List Int)))) : Option (Bool) :=
  ((G41 lf (x.1.1, (x.1.2.1, x.1.2.2)))).bind fun r30 => ((G32 lf (x.1.1, (x.1.2.1, x.1.2.2)))).bind fun r31 => cond (!(decide (r31 = (0 : Int)))) (cond (!(decide (r30.2 = (0 : Int)))) (((G22 lf ())).bind fun r32 => some r32) (some false)) (cond (decide ((x.1.2.2.length : Int) < (2 : Int))) (cond (decide (r30.2 = (0 : Int))) (cond (decide ((r30.1.length : Int) = (0 : Int))) (((G22 lf ())).bind fun r33 => some r33) (some false)) (some false)) (cond (!(decide (r30.2 = (0 : Int)))) (some false) (iter lf (fun y34 : Int => cond (decide (y34 < (r30.1.length : Int))) (((getI r30.1 y34)).bind fun r35 => ((G42 lf ((x.1.1, (x.1.2.1, x.1.2.2)), (r35.1, (r35.2.1, (r35.2.2.1, r35.2.2.2)))))).bind fun r36 => cond (!(decide (r36 = (0 : Int)))) (some (.inr false)) (some (.inl (w64 (y34 + (1 : Int)))))) (outR (((G43 lf (((0 : Int), (w64 ((x.1.2.2.length : Int) - (2 : Int)))), x.2.1.1))).bind fun r37 => ((G43 lf (((w64 (r37 + (1 : Int))), (w64 ((x.1.2.2.length : Int) - (1 : Int)))), x.2.1.2.1))).bind fun r38 => ((G43 lf (((0 : Int), (100000 : Int)), x.2.1.2.2))).bind fun r39 => ((G39 lf (x.1.2.1, x.2.2))).bind fun r40 => iter lf (fun y41 : (Bool × Int) => cond (decide (y41.2 < (r30.1.length : Int))) (((getI r30.1 y41.2)).bind fun r42 => jn (cond (decide (r42.1 = r37)) (some (.inl (decide (r42.2.1 = r38)))) (some (.inl false))) (fun y43 : Bool => cond y43 (some (.inl (true, (w64 (y41.2 + (1 : Int)))))) (some (.inl (y41.1, (w64 (y41.2 + (1 : Int)))))))) (outR (((G40 lf ((x.1.1, (x.1.2.1, x.1.2.2)), (r39, r40)))).bind fun r44 => ((G42 lf ((x.1.1, (x.1.2.1, x.1.2.2)), (r37, (r38, (r39, r40)))))).bind fun r45 => cond (!(decide (r45 = (0 : Int)))) (cond (decide (r45 = (0 : Int))) (((G22 lf ())).bind fun r46 => some r46) (cond (decide (r45 = (42 : Int))) (((G22 lf ())).bind fun r47 => some r47) (some false))) (cond y41.1 (((getI r44 r37)).bind fun r48 => cond r48 (((getI r44 r38)).bind fun r49 => cond r49 (cond (decide (r45 = (0 : Int))) (((G22 lf ())).bind fun r50 => some r50) (cond (decide (r45 = (42 : Int))) (((G22 lf ())).bind fun r51 => some r51) (some false))) (some false)) (some false)) (some false))))) (false, (0 : Int))))) (0 : Int))))
theorem F7_G (lf : Nat) (x : ((ByteArray × ((List (ByteArray × (Int × Int))) × (List (ByteArray × (Int × (Int × ((List (Int × (Int × (Int × (ByteArray × Int))))) × ((List (Int × (Int × (Int × (ByteArray × Int))))) × (List ByteArray))))))))) × ((Int × (Int × Int)) × (List Int)))) : F7 Tryz.prog lf x = G7 lf x := (F7_eq lf x.1.1 x.1.2.1 x.1.2.2 x.2.1.1 x.2.1.2.1 x.2.1.2.2 x.2.2).trans (by
  unfold G7
  (try simp only [F22_G, F32_G, F39_G, F40_G, F41_G, F42_G, F43_G, agree_self, Lib.toList_data]); first | done | rfl)
end Go.K
set_option linter.unusedVariables false
set_option linter.unusedSimpArgs false
set_option maxRecDepth 100000
namespace Go.K
open Go.Sl Go.Sx Go.Proofs
theorem castN_lt {k : List Nat} {i : Nat} (h : i < k.length) : decide ((i : Int) < ((castN k).length : Int)) = true := decide_eq_true (by simp [castN]; omega)
theorem vals_of {ρ : Type} {ls : List (List Int)} {k : List Nat} (hk : okI ls k) (hb : ls.length ≤ 1000) {f : List Int × Int → Option ((List Int × Int) ⊕ ρ)} {K : Option ρ}
    (h1 : ∀ (a : List Int) (i : Nat), i < k.length → f (a, (i : Int)) = ((getI (castN k) (i : Int))).bind fun r77 => ((getI (castN k) (i : Int))).bind fun r78 => ((getI ls (i : Int))).bind fun r79 => ((getI r79 r78)).bind fun r80 => ((appC a [r80])).bind fun r81 => some (.inl (r81, (w64 ((i : Int) + (1 : Int))))))
    (h2 : f (valsI ls k, ((castN k).length : Int)) = outR K) : iter LF f (([] : List Int), (0 : Int)) = K := by
  have hl := okI_len hk
  have hcl : (castN k).length = k.length := by simp [castN]
  refine (iter_foldI (f := f) (fun i a => (a, i)) (fun (x : Nat) i (a : List Int) => a ++ [(ls.getD i []).getD x 0]) (fun i a => a = valsI (ls.take i) (k.take i)) k (fun _ => K) []
    (fun i x a hx hg => ?_) (fun i x a hx hg => ?_) (fun a hg => ?_) (by show k.length < 9223372036854775808; omega) (by simp [valsI])).trans rfl
  · obtain ⟨c, hc, hlt⟩ := okI_get hk hx
    have hi := (List.getElem?_eq_some_iff.1 hx).1
    have hn : c[x]? = some c[x] := List.getElem?_eq_getElem hlt
    have hal : a.length ≤ 1000 := by rw [hg, vals_len (by simp; omega)]; simp; omega
    rw [h1 a i hi, getI_nat (show (castN k)[i]? = some (x : Int) by simp [castN, hx]), getI_nat hc]
    simp only [Option.bind_some, getI_nat hn, appC_of (show a.length + [c[x]].length ≤ 1099511627776 by simp; omega), succ_W (show i + 1 < 9223372036854775808 by omega)]
    simp [hc, hn]
  · have hi := (List.getElem?_eq_some_iff.1 hx).1
    have e1 := vals_take hk (i + 1) (by omega)
    have e0 := vals_take hk i (by omega)
    obtain ⟨c, hc, hlt⟩ := okI_get hk hx
    have t1 : k.take (i + 1) = k.take i ++ [x] := by rw [List.take_add_one, hx]; rfl
    have t2 : ls.take (i + 1) = ls.take i ++ [c] := by rw [List.take_add_one, hc]; rfl
    rw [t1, t2, vals_snoc _ _ (by simp; omega), ← hg]
    simp [hc]
  · have : a = valsI ls k := by rw [hg, List.take_length, ← hl, List.take_length]
    rw [this, ← hcl]; exact h2
theorem adv_of {ρ : Type} {ls : List (List Int)} {k : List Nat} (hk : okI ls k) (hb : ls.length ≤ 1000) (hcl : ∀ c ∈ ls, c.length < LF) (END : Option ρ) (NEXT : List Int → Option ρ) :
    jn (iter LF (fun y85 : (Int × (List Int)) => cond (decide (y85.1 ≥ (0 : Int))) (((getI y85.2 y85.1)).bind fun r86 => ((getI y85.2 y85.1)).bind fun r87 => ((getI ls y85.1)).bind fun r88 => cond (decide (r87 = (w64 ((r88.length : Int) - (1 : Int))))) (((getI y85.2 y85.1)).bind fun r89 => ((getI y85.2 y85.1)).bind fun r90 => ((setI y85.2 y85.1 (0 : Int))).bind fun r91 => some (.inl ((w64 (y85.1 - (1 : Int))), r91))) (some (.inr (.inl (y85.1, y85.2))))) (some (.inr (.inl (y85.1, y85.2))))) ((w64 ((ls.length : Int) - (1 : Int))), castN k))
      (fun y92 : (Int × (List Int)) => cond (decide (y92.1 < (0 : Int))) END (((getI y92.2 y92.1)).bind fun r94 => ((getI y92.2 y92.1)).bind fun r95 => ((getI y92.2 y92.1)).bind fun r96 => ((getI y92.2 y92.1)).bind fun r97 => ((setI y92.2 y92.1 (w64 (r95 + (1 : Int))))).bind NEXT))
    = match nxt ls k with
      | none => END
      | some k' => NEXT (castN k') := by
  have hkl := okI_len hk
  obtain ⟨i, at', h1, h2⟩ := adv_loop (ρ := (Int × List Int) ⊕ ρ) (ls := ls) (fun y => .inl y) hb hcl (f := fun y85 : (Int × (List Int)) => cond (decide (y85.1 ≥ (0 : Int))) (((getI y85.2 y85.1)).bind fun r86 => ((getI y85.2 y85.1)).bind fun r87 => ((getI ls y85.1)).bind fun r88 => cond (decide (r87 = (w64 ((r88.length : Int) - (1 : Int))))) (((getI y85.2 y85.1)).bind fun r89 => ((getI y85.2 y85.1)).bind fun r90 => ((setI y85.2 y85.1 (0 : Int))).bind fun r91 => some (.inl ((w64 (y85.1 - (1 : Int))), r91))) (some (.inr (.inl (y85.1, y85.2))))) (some (.inr (.inl (y85.1, y85.2)))))
    (fun at_ => rfl)
    (fun j x at_ c e1 e2 e3 e4 => by
      have hc := hcl c (List.mem_of_getElem? e2)
      have hc' : c.length < 9223372036854775808 := hc
      have d1 : decide ((j : Int) ≥ 0) = true := decide_eq_true (by omega)
      have d2 : decide ((x : Int) = w64 ((c.length : Int) - 1)) = true := decide_eq_true (by rw [w64_in (by omega)]; omega)
      simp only [d1, d2, cond_true, getI_nat e1, getI_nat e2, Option.bind_some])
    (fun j x at_ c e1 e2 e3 e4 => by
      have hc := hcl c (List.mem_of_getElem? e2)
      have hc' : c.length < 9223372036854775808 := hc
      have d1 : decide ((j : Int) ≥ 0) = true := decide_eq_true (by omega)
      have d2 : decide ((x : Int) = w64 ((c.length : Int) - 1)) = false := decide_eq_false (by rw [w64_in (by omega)]; omega)
      simp only [d1, d2, cond_true, cond_false, getI_nat e1, getI_nat e2, Option.bind_some])
    k.length ls [] k 0 LF (by simp) rfl hk (by show k.length < 9223372036854775808; omega)
  have hst : w64 ((ls.length : Int) - 1) = (k.length : Int) - 1 := by rw [w64_in (by omega)]; omega
  simp only [List.replicate_zero, List.append_nil] at h1 h2
  rw [hst, h1]
  simp only [jl]
  cases hn : nxt ls k with
  | none =>
    rw [hn] at h2
    subst h2
    rfl
  | some k' =>
    rw [hn] at h2
    obtain ⟨j, r, rfl, e1, e2⟩ := h2
    have d1 : decide ((j : Int) < 0) = false := decide_eq_false (by omega)
    simp only [d1, cond_false, getI_nat e1, Option.bind_some, e2]
theorem mkC_zer (ls : List (List Int)) (h : ls.length ≤ 1000) : mkC (ls.length : Int) (0 : Int) = some (castN (zerN ls)) := by
  unfold mkC
  rw [if_pos (by omega)]
  simp only [castN, zerN, List.map_map, Int.toNat_natCast]
  congr 1
  exact List.map_const'.symm
def prodL (l : List (List Int)) : Nat := l.foldr (fun x n => x.length * n) 1
theorem choL_len : ∀ l : List (List Int), (choL l).length = prodL l
  | [] => rfl
  | x :: l => by
    have ih := choL_len l
    show (x.flatMap fun n => (choL l).map (n :: ·)).length = x.length * prodL l
    rw [← ih]
    induction x with
    | nil => simp
    | cons a x ihx => rw [List.flatMap_cons, List.length_append, ihx, List.length_map, List.length_cons, Nat.add_mul]; omega
theorem prod_pos : ∀ {l : List (List Int)}, (∀ x ∈ l, x ≠ []) → 1 ≤ prodL l
  | [], _ => Nat.le_refl _
  | x :: l, h => Nat.mul_pos (List.length_pos_iff.2 (h x (List.mem_cons_self ..))) (prod_pos fun y hy => h y (List.mem_cons_of_mem _ hy))
theorem many_prod : ∀ (l : List (List Int)) (n : Nat), (∀ x ∈ l, x ≠ [] ∧ x.length ≤ 1000000) → 1 ≤ n → n ≤ 4001 →
    l.foldl (fun (n : Int) x => if (4001 : Int) < w64 (n * (x.length : Int)) then 4001 else w64 (n * (x.length : Int))) (n : Int) ≤ 4000 → n * prodL l ≤ 4000
  | [], n, _, _, h2, h => by
    simp only [List.foldl_nil] at h
    simp [prodL]; omega
  | x :: l, n, hl, h1, h2, h => by
    obtain ⟨hx0, hx1⟩ := hl x (List.mem_cons_self ..)
    have hxp := List.length_pos_iff.2 hx0
    have hb : n * x.length ≤ 4001 * 1000000 := Nat.mul_le_mul h2 hx1
    have hp : n ≤ n * x.length := Nat.le_mul_of_pos_right _ hxp
    have he : w64 ((n : Int) * (x.length : Int)) = ((n * x.length : Nat) : Int) := by
      rw [← Int.natCast_mul, w64_in (by omega)]
    rw [List.foldl_cons, he] at h
    have hprod := prod_pos (l := l) fun y hy => (hl y (List.mem_cons_of_mem _ hy)).1
    by_cases hc : 4001 < n * x.length
    · rw [if_pos (by omega)] at h
      have := many_prod l 4001 (fun y hy => hl y (List.mem_cons_of_mem _ hy)) (by omega) (by omega) h
      have : 4001 * 1 ≤ 4001 * prodL l := Nat.mul_le_mul (Nat.le_refl _) hprod
      omega
    · rw [if_neg (by omega)] at h
      have := many_prod l (n * x.length) (fun y hy => hl y (List.mem_cons_of_mem _ hy)) (by omega) (by omega) h
      show n * (x.length * prodL l) ≤ 4000
      rw [← Nat.mul_assoc]; exact this
theorem rise_le : ∀ {l m : List Int}, Rise l → Rise m → (∀ x ∈ l, x ∈ m) → l.length ≤ m.length
  | [], _, _, _, _ => by simp
  | a :: l, [], _, _, h => absurd (h a (List.mem_cons_self ..)) (by simp)
  | a :: l, b :: m, hl, hm, h => by
    obtain ⟨l1, l2⟩ := List.pairwise_cons.1 hl
    obtain ⟨m1, m2⟩ := List.pairwise_cons.1 hm
    by_cases e : a = b
    · subst e
      have := rise_le l2 m2 fun x hx => by
        rcases List.mem_cons.1 (h x (List.mem_cons_of_mem _ hx)) with e | e
        · subst e; exact absurd (l1 x hx) (Int.lt_irrefl _)
        · exact e
      simp only [List.length_cons]; omega
    · have ha : a ∈ m := by
        rcases List.mem_cons.1 (h a (List.mem_cons_self ..)) with e' | e'
        · exact absurd e' e
        · exact e'
      have hb := m1 a ha
      have := rise_le hl m2 fun x hx => by
        rcases List.mem_cons.1 (h x hx) with e' | e'
        · rcases List.mem_cons.1 hx with e2 | e2
          · subst e2; exact ha
          · have := l1 x e2; omega
        · exact e'
      simp only [List.length_cons] at this ⊢; omega
theorem cuts_mem (cs : List Cnd) (x : Fct) : Rise (cutsOf cs x) ∧ ∀ n, n ∈ cutsOf cs x ↔ n = x.2.1 ∨ n ∈ cutN x cs := by
  obtain ⟨h1, h2⟩ := sc_rise (x.2.1 :: cutN x cs)
  exact ⟨h1, fun n => by rw [show cutsOf cs x = compL (sortL (x.2.1 :: cutN x cs)) from rfl, h2, List.mem_cons]⟩
theorem cuts_ne (cs : List Cnd) (x : Fct) : cutsOf cs x ≠ [] := fun e => by
  have := (cuts_mem cs x).2 x.2.1
  rw [e] at this
  simp at this
theorem cutN_mem {x : Fct} {cs : List Cnd} {n : Int} : n ∈ cutN x cs ↔ (∃ c ∈ cs, ∃ t ∈ c, t.2.2.2.1 = x.1 ∧ n ∈ partsL t) ∧ x.2.1 < n ∧ n ≤ x.2.2 := by
  unfold cutN cutT
  simp only [List.mem_flatMap]
  constructor
  · rintro ⟨c, hc, t, ht, hn⟩
    cases hd : decide (t.2.2.2.1 = x.1) with
    | false => rw [hd] at hn; simp at hn
    | true =>
      rw [hd] at hn
      simp only [cond_true, List.mem_filter] at hn
      obtain ⟨h1, h2⟩ := hn
      unfold inS at h2
      simp only [Bool.and_eq_true, decide_eq_true_eq] at h2
      exact ⟨⟨c, hc, t, ht, of_decide_eq_true hd, h1⟩, h2.1, h2.2⟩
  · rintro ⟨⟨c, hc, t, ht, e, h1⟩, h2, h3⟩
    refine ⟨c, hc, t, ht, ?_⟩
    rw [decide_eq_true e]
    simp only [cond_true, List.mem_filter]
    exact ⟨h1, by unfold inS; simp [h2, h3]⟩
theorem cutN_len (x : Fct) (cs : List Cnd) (hc : cs.length ≤ 100) (ht : ∀ c ∈ cs, List.length c ≤ 1000) : (cutN x cs).length ≤ 200000 := by
  have := flat_len (fun c : Cnd => c.flatMap (cutT x)) 2000 cs (fun c hc => by
    have h1 := flat_len (cutT x) 2 c (fun t _ => cutT_len x t)
    have h2 := ht c hc
    omega)
  unfold cutN; omega
theorem compact_le (xs : List Int) : (compL xs).length ≤ xs.length := by
  unfold compL Lib.compact Lib.compactUpTo
  rw [List.length_map]
  exact Nat.le_trans (List.length_filter_le _ _) (by simp)
theorem cuts_len (x : Fct) (cs : List Cnd) (hc : cs.length ≤ 100) (ht : ∀ c ∈ cs, List.length c ≤ 1000) : (cutsOf cs x).length ≤ 200001 := by
  have h1 := compact_le (sortL (x.2.1 :: cutN x cs))
  have h2 := sortL_len (x.2.1 :: cutN x cs)
  have h3 := cutN_len x cs hc ht
  unfold cutsOf
  simp only [List.length_cons] at h2
  omega
theorem cuts_le {cs : List Cnd} {x y : Fct} (h : fitB x y = true) : (cutsOf cs y).length ≤ (cutsOf cs x).length := by
  unfold fitB at h
  simp only [Bool.and_eq_true, decide_eq_true_eq] at h
  obtain ⟨e, h1, h2, h3⟩ := h
  obtain ⟨r1, m1⟩ := cuts_mem cs y
  obtain ⟨r2, m2⟩ := cuts_mem cs x
  -- without the least one
  have tl : ∀ {z : Fct}, ∃ t, cutsOf cs z = z.2.1 :: t ∧ ∀ n, n ∈ t ↔ n ∈ cutN z cs := by
    intro z
    obtain ⟨r, m⟩ := cuts_mem cs z
    cases hz : cutsOf cs z with
    | nil => exact absurd hz (cuts_ne cs z)
    | cons a t =>
      rw [hz] at r m
      obtain ⟨p1, p2⟩ := List.pairwise_cons.1 r
      have hlo : ∀ n, n ∈ cutN z cs → z.2.1 < n := fun n hn => (cutN_mem.1 hn).2.1
      have ha : a = z.2.1 := by
        rcases (m a).1 (List.mem_cons_self ..) with e | e
        · exact e
        · have h1 := hlo a e
          rcases List.mem_cons.1 ((m z.2.1).2 (.inl rfl)) with e' | e'
          · exact e'.symm
          · have := p1 _ e'; omega
      subst ha
      refine ⟨t, rfl, fun n => ⟨fun hn => ?_, fun hn => ?_⟩⟩
      · rcases (m n).1 (List.mem_cons_of_mem _ hn) with e | e
        · subst e; exact absurd (p1 _ hn) (Int.lt_irrefl _)
        · exact e
      · rcases List.mem_cons.1 ((m n).2 (.inr hn)) with e | e
        · subst e; exact absurd (hlo _ hn) (Int.lt_irrefl _)
        · exact e
  obtain ⟨t1, e1, n1⟩ := tl (z := y)
  obtain ⟨t2, e2, n2⟩ := tl (z := x)
  rw [e1] at r1
  rw [e2] at r2
  rw [e1, e2]
  have := rise_le (List.pairwise_cons.1 r1).2 (List.pairwise_cons.1 r2).2 fun n hn => by
    rw [n2, cutN_mem]
    obtain ⟨⟨c, hc, t, ht, e', hp⟩, h4, h5⟩ := cutN_mem.1 ((n1 n).1 hn)
    exact ⟨⟨c, hc, t, ht, by rw [e', e], hp⟩, by omega, by omega⟩
  simp only [List.length_cons]; omega
theorem fit_iff {f g : List Fct} (h : fitS f g = true) : f.length = g.length ∧ ∀ (i : Nat) (x y : Fct), f[i]? = some x → g[i]? = some y → fitB x y = true := by
  unfold fitS at h
  simp only [Bool.and_eq_true, decide_eq_true_eq, List.all_eq_true] at h
  refine ⟨h.1, fun i x y hx hy => h.2 (x, y) (List.mem_of_getElem? (i := i) ?_)⟩
  rw [List.getElem?_zip_eq_some]
  exact ⟨hx, hy⟩
theorem prod_le : ∀ {l m : List (List Int)}, l.length = m.length → (∀ (i : Nat) (x y : List Int), l[i]? = some x → m[i]? = some y → x.length ≤ y.length) → prodL l ≤ prodL m
  | [], [], _, _ => Nat.le_refl _
  | x :: l, y :: m, h, hh => Nat.mul_le_mul (hh 0 x y rfl rfl) (prod_le (by simpa using h) fun i a b ha hb => hh (i + 1) a b (by simpa using ha) (by simpa using hb))
  | [], _ :: _, h, _ => by simp at h
  | _ :: _, [], h, _ => by simp at h
theorem VC.cl {c : Cd} (h : VC c) : (condsL c.2.2).length ≤ 100 := by rw [conds_len]; have := h.ll; omega
theorem VC.cs {c : Cd} (h : VC c) : ∀ x ∈ condsL c.2.2, List.length x ≤ 1000 := conds_short h.rs
theorem starts_ne (f : List Fct) (cs : List Cnd) : ∀ x ∈ startsL f cs, x ≠ [] := by
  intro x hx
  unfold startsL at hx
  obtain ⟨y, _, rfl⟩ := List.mem_map.1 hx
  exact cuts_ne cs y
theorem starts_get {f : List Fct} {cs : List Cnd} {i : Nat} {x : List Int} (h : (startsL f cs)[i]? = some x) : ∃ y, f[i]? = some y ∧ x = cutsOf cs y := by
  unfold startsL at h
  rw [List.getElem?_map] at h
  cases hf : f[i]? with
  | none => rw [hf] at h; cases h
  | some y => rw [hf] at h; cases h; exact ⟨y, rfl, rfl⟩
theorem VC.prod {c : Cd} (h : VC c) : prodL (startsL c.2.1 (condsL c.2.2)) ≤ 4000 := by
  have := many_prod (startsL c.2.1 (condsL c.2.2)) 1 (fun x hx => ⟨starts_ne _ _ x hx, by
    unfold startsL at hx
    obtain ⟨y, _, rfl⟩ := List.mem_map.1 hx
    have := cuts_len y (condsL c.2.2) h.cl h.cs
    omega⟩) (by omega) (by omega) h.mn
  omega
structure VF (c : Cd) (f : List Fct) : Prop where
  ln : f.length = c.2.1.length
  cs : (choL (startsL f (condsL c.2.2))).length ≤ 4000
  fit : ∀ (i : Nat) (x y : Fct), c.2.1[i]? = some x → f[i]? = some y → fitB x y = true
theorem VF.of {c : Cd} (h : VC c) {f : List Fct} (hf : fitS c.2.1 f = true) : VF c f := by
  obtain ⟨h1, h2⟩ := fit_iff hf
  refine ⟨h1.symm, ?_, h2⟩
  rw [choL_len]
  refine Nat.le_trans (prod_le (m := startsL c.2.1 (condsL c.2.2)) (by simp [startsL, h1]) fun i x y hx hy => ?_) h.prod
  obtain ⟨u, hu, rfl⟩ := starts_get hx
  obtain ⟨w, hw, rfl⟩ := starts_get hy
  exact cuts_le (h2 i w u hw hu)
theorem fitB_self {x : Fct} (h : x.2.1 ≤ x.2.2) : fitB x x = true := by unfold fitB; simp [h]
theorem VC.fact {c : Cd} (h : VC c) {i : Nat} {x : Fct} (hx : c.2.1[i]? = some x) : nmB x.1 = true ∧ (c.2.1.take i).any (fun y => decide (y.1 = x.1)) = false ∧ -1000000000000 ≤ x.2.1 ∧ x.2.1 ≤ x.2.2 ∧ x.2.2 ≤ 1000000000000 := by
  have := scan_none h.fs i x hx
  rw [Nat.zero_add] at this
  unfold factS at this
  cases h1 : !nmB x.1 || (c.2.1.take i).any fun y => decide (y.1 = x.1) with
  | true => rw [h1] at this; cases this
  | false =>
    rw [h1] at this
    simp only [Bool.or_eq_false_iff, Bool.not_eq_false'] at h1
    cases h2 : spanB x with
    | false => rw [h2] at this; cases this
    | true => unfold spanB at h2; exact ⟨h1.1, h1.2, of_decide_eq_true h2⟩
theorem VF.self {c : Cd} (h : VC c) : VF c c.2.1 := ⟨rfl, by rw [choL_len]; exact h.prod, fun i x y hx hy => by
  rw [hx] at hy; cases hy
  exact fitB_self (h.fact hx).2.2.2.1⟩
theorem cho_len : ∀ {l : List (List Int)} {v : List Int}, v ∈ choL l → v.length = l.length
  | [], v, h => by simp [choL] at h; subst h; rfl
  | x :: l, v, h => by
    simp only [choL, List.mem_flatMap, List.mem_map] at h
    obtain ⟨n, _, u, hu, rfl⟩ := h
    simp [cho_len hu]
theorem VF.vlen {c : Cd} {f : List Fct} (h : VF c f) {v : List Int} (hv : v ∈ casesL c f) : v.length = c.2.1.length := by
  rw [cho_len hv]; simp [startsL, h.ln]
end Go.K
set_option linter.unusedVariables false
set_option linter.unusedSimpArgs false
set_option maxRecDepth 100000
namespace Go.K
open Go.Sl Go.Sx Go.Proofs
theorem scan_all {σ : Type} (p : σ → Bool) : ∀ (l : List σ) (i : Nat), (scan (fun x _ => bif p x then none else some false) l i).getD true = l.all p
  | [], _ => rfl
  | x :: l, i => by
    simp only [scan, List.all_cons]
    cases p x with
    | true => simp only [cond_true, Bool.true_and]; exact scan_all p l (i + 1)
    | false => rfl
theorem starts_len (f : List Fct) (cs : List Cnd) : (startsL f cs).length = f.length := by simp [startsL]
theorem starts_cl (f : List Fct) {c : Cd} (h : VC c) : ∀ x ∈ startsL f (condsL c.2.2), x.length < LF := by
  intro x hx
  unfold startsL at hx
  obtain ⟨y, _, rfl⟩ := List.mem_map.1 hx
  have := cuts_len y (condsL c.2.2) h.cl h.cs
  show (cutsOf (condsL c.2.2) y).length < 9223372036854775808; omega
end Go.K
set_option linter.unusedVariables false
set_option linter.unusedSimpArgs false
set_option maxRecDepth 100000
namespace Go.K
open Go.Sl Go.Sx Go.Proofs
theorem VF.prod {c : Cd} {f : List Fct} (h : VF c f) : prodL (startsL f (condsL c.2.2)) ≤ 4000 := by rw [← choL_len]; exact h.cs
end Go.K
namespace Go.K
theorem sane_true : G22 LF () = some true := by kernel_rfl
end Go.K
set_option linter.unusedVariables false
set_option linter.unusedSimpArgs false
set_option maxRecDepth 100000
namespace Go.K
open Go.Sl Go.Sx Go.Proofs
theorem cho_get : ∀ {l : List (List Int)} {v : List Int}, v ∈ choL l → ∀ {i : Nat} {n : Int}, v[i]? = some n → ∃ x, l[i]? = some x ∧ n ∈ x
  | [], v, h, i, n, hn => by simp [choL] at h; subst h; simp at hn
  | x :: l, v, h, i, n, hn => by
    simp only [choL, List.mem_flatMap, List.mem_map] at h
    obtain ⟨m, hm, u, hu, rfl⟩ := h
    cases i with
    | zero => simp at hn; subst hn; exact ⟨x, rfl, hm⟩
    | succ i =>
      obtain ⟨y, h1, h2⟩ := cho_get hu (i := i) (n := n) (by simpa using hn)
      exact ⟨y, by simpa using h1, h2⟩
theorem cut_in {cs : List Cnd} {x : Fct} (hx : x.2.1 ≤ x.2.2) {n : Int} (h : n ∈ cutsOf cs x) : x.2.1 ≤ n ∧ n ≤ x.2.2 := by
  rcases ((cuts_mem cs x).2 n).1 h with e | e
  · subst e; exact ⟨Int.le_refl _, hx⟩
  · obtain ⟨_, h1, h2⟩ := cutN_mem.1 e
    exact ⟨by omega, h2⟩
theorem VF.le {c : Cd} {f : List Fct} (h : VF c f) {i : Nat} {x : Fct} (hx : f[i]? = some x) : x.2.1 ≤ x.2.2 := by
  have hi := lt_of_get hx
  have hl := h.ln
  have := h.fit i _ x (List.getElem?_eq_getElem (show i < c.2.1.length by omega)) hx
  unfold fitB at this
  simp only [Bool.and_eq_true, decide_eq_true_eq] at this
  exact this.2.2.1
theorem VF.vin {c : Cd} {f : List Fct} (h : VF c f) {v : List Int} (hv : v ∈ casesL c f) {i : Nat} {x : Fct} {n : Int} (hx : f[i]? = some x) (hn : v[i]? = some n) : x.2.1 ≤ n ∧ n ≤ x.2.2 := by
  obtain ⟨y, h1, h2⟩ := cho_get hv hn
  obtain ⟨z, h3, rfl⟩ := starts_get h1
  rw [hx] at h3
  cases h3
  exact cut_in (h.le hx) h2
end Go.K
set_option linter.unusedVariables false
set_option linter.unusedSimpArgs false
set_option maxRecDepth 100000
namespace Go.K
open Go.Sl Go.Sx Go.Proofs
def near1 (l : List Int) (n m : Int) : Prop := m ∈ l ∧ m ≤ n ∧ ∀ k ∈ l, k ≤ n → k ≤ m
theorem near_ex : ∀ {l : List Int} {n : Int}, (∃ k ∈ l, k ≤ n) → ∃ m, near1 l n m
  | [], _, ⟨_, h, _⟩ => by cases h
  | a :: l, n, h => by
    by_cases hl : ∃ k ∈ l, k ≤ n
    · obtain ⟨m, h1, h2, h3⟩ := near_ex hl
      by_cases ha : a ≤ n ∧ m < a
      · exact ⟨a, List.mem_cons_self .., ha.1, fun k hk hkn => by
          rcases List.mem_cons.1 hk with e | e
          · omega
          · have := h3 k e hkn; omega⟩
      · exact ⟨m, List.mem_cons_of_mem _ h1, h2, fun k hk hkn => by
          rcases List.mem_cons.1 hk with e | e
          · subst e; omega
          · exact h3 k e hkn⟩
    · obtain ⟨k, hk, hkn⟩ := h
      rcases List.mem_cons.1 hk with e | e
      · subst e
        exact ⟨k, List.mem_cons_self .., hkn, fun q hq hqn => by
          rcases List.mem_cons.1 hq with e | e
          · omega
          · exact absurd ⟨q, e, hqn⟩ hl⟩
      · exact absurd ⟨k, e, hkn⟩ hl
def Near (c : Cd) (f : List Fct) (v w : List Int) : Prop := w.length = v.length ∧ ∀ (i : Nat) (x : Fct) (n m : Int), f[i]? = some x → v[i]? = some n → w[i]? = some m → near1 (cutsOf (condsL c.2.2) x) n m
def In (f : List Fct) (v : List Int) : Prop := v.length = f.length ∧ ∀ (i : Nat) (x : Fct) (n : Int), f[i]? = some x → v[i]? = some n → x.2.1 ≤ n ∧ n ≤ x.2.2
theorem cut_side {cs : List Cnd} {x : Fct} {n m : Int} (hx : x.2.1 ≤ n ∧ n ≤ x.2.2) (h : near1 (cutsOf cs x) n m) {cd : Cnd} {t : Tm} (hc : cd ∈ cs) (ht : t ∈ cd) (hn : t.2.2.2.1 = x.1) {k : Int} (hk : k ∈ partsL t) : n < k ↔ m < k := by
  obtain ⟨h1, h2, h3⟩ := h
  have hlo : x.2.1 ≤ m := h3 _ (((cuts_mem cs x).2 _).2 (.inl rfl)) hx.1
  by_cases hk1 : x.2.1 < k
  · by_cases hk2 : k ≤ x.2.2
    · have hmem : k ∈ cutsOf cs x := ((cuts_mem cs x).2 k).2 (.inr (cutN_mem.2 ⟨⟨cd, hc, t, ht, hn, hk⟩, hk1, hk2⟩))
      constructor
      · intro h; omega
      · intro h
        by_cases hkn : k ≤ n
        · have := h3 k hmem hkn; omega
        · omega
    · omega
  · omega
theorem Near.term {c : Cd} (h : VC c) {f : List Fct} (hf : VF c f) {v w : List Int} (hv : In f v) (hw : Near c f v w) {cd : Cnd} (hc : cd ∈ condsL c.2.2) (hcd : condE c.2.1 cd = 0) {i : Nat} {t : Tm} (ht : cd[i]? = some t) (l : List Bool) : tmSo c.2.1 v t l = tmSo c.2.1 w t l := by
  obtain ⟨c1, c2, c3⟩ := cond_short hcd
  have hs := c3 i t ht
  have hkd := term_kd hs
  obtain ⟨hshp, hsh2⟩ := term_ok hs
  have htm := List.mem_of_getElem? ht
  cases hkd with
  | tru => rfl
  | neg _ => rfl
  | bin h0 _ _ => rcases h0 with rfl | rfl <;> rfl
  | cmp h1 h2 =>
    rename_i k a b s n
    obtain ⟨p, hp, hpl, x, hx, hxs⟩ := plF_get h2
    have hfl := hf.ln
    have hvl := hv.1
    have hwl := hw.1
    have hfp : f[p]? = some f[p] := List.getElem?_eq_getElem (by omega)
    have hname : x.1 = f[p].1 := by
      have := hf.fit p x f[p] hx hfp
      unfold fitB at this
      simp only [Bool.and_eq_true, decide_eq_true_eq] at this
      exact this.1
    have hvp : v[p]? = some v[p] := List.getElem?_eq_getElem (by omega)
    have hwp : w[p]? = some w[p] := List.getElem?_eq_getElem (by omega)
    have hin := hv.2 p _ _ hfp hvp
    have hne := hw.2 p _ _ _ hfp hvp hwp
    have hside : ∀ q, q ∈ partsL (k, (a, (b, (s, n)))) → (v[p] < q ↔ w[p] < q) := fun q hq => cut_side hin hne hc htm (by show s = f[p].1; rw [← hname, hxs]) hq
    have gv : v.getD (plF c.2.1 s).toNat 0 = v[p] := by rw [hp, Int.toNat_natCast, List.getD_eq_getElem?_getD, hvp]; rfl
    have gw : w.getD (plF c.2.1 s).toNat 0 = w[p] := by rw [hp, Int.toNat_natCast, List.getD_eq_getElem?_getD, hwp]; rfl
    have hnb : -1000000000000 ≤ n ∧ n ≤ 1000000000000 := by
      unfold shp at hshp
      simp only at hshp
      rw [if_neg (by omega), if_pos (by omega), decide_eq_true_eq] at hshp
      exact hshp.2.2
    have hw1 : w64 (n + 1) = n + 1 := w64_in (by omega)
    unfold tmSo
    simp only [gv, gw]
    rcases h1 with rfl | rfl | rfl
    · have := hside n (by simp [partsL])
      rw [if_neg (by decide), if_pos rfl, if_neg (by decide), if_pos rfl]
      exact decide_eq_decide.2 this
    · have := hside (n + 1) (by simp [partsL, hw1])
      rw [if_neg (by decide), if_neg (by decide), if_pos rfl, if_neg (by decide), if_neg (by decide), if_pos rfl]
      exact decide_eq_decide.2 (by omega)
    · have e1 := hside n (by simp [partsL])
      have e2 := hside (n + 1) (by simp [partsL, hw1])
      rw [if_neg (by decide), if_neg (by decide), if_neg (by decide), if_pos rfl, if_neg (by decide), if_neg (by decide), if_neg (by decide), if_pos rfl]
      exact decide_eq_decide.2 (by omega)
theorem Near.so {c : Cd} (h : VC c) {f : List Fct} (hf : VF c f) {v w : List Int} (hv : In f v) (hw : Near c f v w) {cd : Cnd} (hc : cd ∈ condsL c.2.2) (hcd : condE c.2.1 cd = 0) : soB c.2.1 v cd = soB c.2.1 w cd := by
  unfold soB soL
  congr 1
  have key : ∀ (m : Cnd), (∀ t ∈ m, t ∈ cd) → ∀ l, m.foldl (fun l t => l ++ [tmSo c.2.1 v t l]) l = m.foldl (fun l t => l ++ [tmSo c.2.1 w t l]) l := by
    intro m
    induction m with
    | nil => intro _ l; rfl
    | cons t m ih =>
      intro hs l
      obtain ⟨i, hi⟩ := List.mem_iff_getElem?.1 (hs t (List.mem_cons_self ..))
      rw [List.foldl_cons, List.foldl_cons, hw.term h hf hv hc hcd hi, ih (fun q hq => hs q (List.mem_cons_of_mem _ hq))]
  exact key cd (fun _ h => h) []
theorem conds_mem {l : List Rl} {r : Rl} (h : r ∈ l) : r.2.2.2.1 ∈ condsL l ∧ r.2.2.2.2.1 ∈ condsL l := by
  unfold condsL
  exact ⟨List.mem_flatMap.2 ⟨r, h, List.mem_cons_self ..⟩, List.mem_flatMap.2 ⟨r, h, List.mem_cons_of_mem _ (List.mem_cons_self ..)⟩⟩
theorem VC.conds {c : Cd} (h : VC c) {r : Rl} (hr : r ∈ c.2.2) : condE c.2.1 r.2.2.2.1 = 0 ∧ condE c.2.1 r.2.2.2.2.1 = 0 := by
  obtain ⟨i, hi⟩ := List.mem_iff_getElem?.1 hr
  obtain ⟨_, _, _, h1, h2, _⟩ := h.rule hi
  exact ⟨h1, h2⟩
theorem Near.binds {c : Cd} (h : VC c) {f : List Fct} (hf : VF c f) {v w : List Int} (hv : In f v) (hw : Near c f v w) (d : Int) : bindsL c d v = bindsL c d w := by
  unfold bindsL
  have key : ∀ (m : List Rl), (∀ r ∈ m, r ∈ c.2.2) → ∀ out, nbL c.2.1 c.2.2 d v m out = nbL c.2.1 c.2.2 d w m out := by
    intro m
    induction m with
    | nil => intro _ out; rfl
    | cons r m ih =>
      intro hs out
      have hr := hs r (List.mem_cons_self ..)
      have e : bindB c.2.1 c.2.2 d v r out = bindB c.2.1 c.2.2 d w r out := by
        unfold bindB
        rw [hw.so h hf hv (conds_mem hr).1 (h.conds hr).1]
      simp only [nbL, e]
      rw [ih (fun q hq => hs q (List.mem_cons_of_mem _ hq))]
  exact key c.2.2 (fun _ h => h) []
theorem Near.kept {c : Cd} (h : VC c) {f : List Fct} (hf : VF c f) {v w : List Int} (hv : In f v) (hw : Near c f v w) (d : Int) : keptL c d v = keptL c d w := by
  unfold keptL
  rw [hw.binds h hf hv d]
  have key : ∀ (m : List Rl), (∀ r ∈ m, r ∈ c.2.2) → ∀ bs : List Bool, List.zipWith (fun b (r : Rl) => !b || soB c.2.1 v r.2.2.2.2.1) bs m = List.zipWith (fun b (r : Rl) => !b || soB c.2.1 w r.2.2.2.2.1) bs m := by
    intro m
    induction m with
    | nil => intro _ bs; simp
    | cons r m ih =>
      intro hs bs
      have hr := hs r (List.mem_cons_self ..)
      cases bs with
      | nil => rfl
      | cons b bs =>
        simp only [List.zipWith_cons_cons]
        rw [hw.so h hf hv (conds_mem hr).2 (h.conds hr).2, ih (fun q hq => hs q (List.mem_cons_of_mem _ hq))]
  exact key c.2.2 (fun _ h => h) _
theorem cases_in {c : Cd} {f : List Fct} (hf : VF c f) {v : List Int} (hv : v ∈ casesL c f) : In f v := ⟨by rw [hf.vlen hv, hf.ln], fun i x n hx hn => hf.vin hv hx hn⟩
end Go.K
set_option linter.unusedVariables false
set_option linter.unusedSimpArgs false
set_option maxRecDepth 100000
namespace Go.K
open Go.Sl Go.Sx Go.Proofs
def dayR (r : Rl) : List Int := r.2.1 :: if r.2.2.1 < 100000 then [w64 (r.2.2.1 + 1)] else []
theorem dayR_len (r : Rl) : (dayR r).length ≤ 2 := by unfold dayR; split <;> simp
theorem daysL_eq (l : List Rl) : daysL l = compL (sortL (0 :: l.flatMap dayR)) := rfl
theorem days_len (l : List Rl) : (daysL l).length ≤ 2 * l.length + 1 := by
  have h1 := compact_le (sortL (0 :: l.flatMap dayR))
  have h2 := sortL_len (0 :: l.flatMap dayR)
  have h3 := flat_len dayR 2 l (fun r _ => dayR_len r)
  rw [daysL_eq]
  simp only [List.length_cons] at h2
  omega
theorem G127_days (c : Cd) (hl : c.2.2.length ≤ 1000) : G127 LF c = some (daysL c.2.2) := by
  unfold G127
  refine (iter_app (fun i a => (a, i)) dayR c.2.2 (fun a => some (compL (sortL a))) 2 (fun r _ => dayR_len r) [0] ?_ ?_ (by show c.2.2.length < 9223372036854775808; omega)).trans ?_
  · intro i r a hr ha hi
    simp only [List.length_singleton] at ha
    simp only [dlt hi, cond_true, getI_nat hr, Option.bind_some, appC_of (show a.length + [r.2.1].length ≤ 1099511627776 by simp; omega), succ_W (show i + 1 < 9223372036854775808 by omega)]
    unfold dayR
    by_cases h : r.2.2.1 < 100000
    · simp only [decide_eq_true h, cond_true, if_pos h, appC_of (show (a ++ [r.2.1]).length + [w64 (r.2.2.1 + 1)].length ≤ 1099511627776 by simp; omega), Option.bind_some]
      simp
    · simp only [decide_eq_false h, cond_false, if_neg h]
  · intro a ha
    simp only [List.length_singleton] at ha
    have h1 : a.length ≤ 1099511627776 := by omega
    have h2 : (sortL a).length ≤ 1099511627776 := by rw [← sortL_len]; exact h1
    simp only [dnlt, cond_false, ltC_of h1, ltC_of h2, Option.bind_some]
  · rfl
end Go.K
set_option linter.unusedVariables false
set_option linter.unusedSimpArgs false
set_option maxRecDepth 100000
namespace Go.K
open Go.Sl Go.Sx Go.Proofs
def valB (f : List Fct) (v : List Int) : Bool := decide (f.length = v.length) && (f.zip v).all fun p => decide (p.1.2.1 ≤ p.2 ∧ p.2 ≤ p.1.2.2)
theorem val_in {f : List Fct} {v : List Int} : valB f v = true ↔ In f v := by
  unfold valB In
  simp only [Bool.and_eq_true, decide_eq_true_eq, List.all_eq_true]
  constructor
  · rintro ⟨h1, h2⟩
    exact ⟨h1.symm, fun i x n hx hn => h2 (x, n) (List.mem_of_getElem? (i := i) (List.getElem?_zip_eq_some.2 ⟨hx, hn⟩))⟩
  · rintro ⟨h1, h2⟩
    refine ⟨h1.symm, fun p hp => ?_⟩
    obtain ⟨i, hi⟩ := List.mem_iff_getElem?.1 hp
    obtain ⟨a, b⟩ := List.getElem?_zip_eq_some.1 hi
    exact h2 i p.1 p.2 a b
theorem G129_val (c : Cd) (v : List Int) (hl : c.2.1.length < LF) : G129 LF (c, v) = some (valB c.2.1 v) := by
  unfold G129 valB
  by_cases he : c.2.1.length = v.length
  · have e1 : decide ((c.2.1.length : Int) = (v.length : Int)) = true := decide_eq_true (by omega)
    have hz : (c.2.1.zip v).length = c.2.1.length := by simp [he]
    simp only [e1, Bool.not_true, cond_false, decide_eq_true he, Bool.true_and]
    refine (iter_scan (fun (p : Fct × Int) _ => bif decide (p.1.2.1 ≤ p.2 ∧ p.2 ≤ p.1.2.2) then none else some false) (c.2.1.zip v) (some true) ?_ ?_ (by omega)).trans ?_
    · intro i p hp _
      obtain ⟨h1, h2⟩ := List.getElem?_zip_eq_some.1 hp
      have hi := lt_of_get h1
      simp only [dlt hi, cond_true, getI_nat h1, getI_nat h2, Option.bind_some, G91_in, succ_W (Nat.lt_of_le_of_lt hi hl)]
      cases decide (p.1.2.1 ≤ p.2 ∧ p.2 ≤ p.1.2.2) <;> rfl
    · intro _
      rw [hz]
      simp only [dnlt]; rfl
    · exact (getD_none _ _).trans (congrArg some (scan_all (fun p : Fct × Int => decide (p.1.2.1 ≤ p.2 ∧ p.2 ≤ p.1.2.2)) _ _))
  · have e1 : decide ((c.2.1.length : Int) = (v.length : Int)) = false := decide_eq_false (by omega)
    simp only [e1, Bool.not_false, cond_true, decide_eq_false he, Bool.false_and]
def mustB (c : Cd) (i : Nat) (v : List Int) : Bool := soB c.2.1 v (c.2.2.getD i (bts [], (0, (0, ([], ([], [])))))).2.2.2.2.1
def clstep (c : Cd) (i j : Nat) (d : Int) (v : List Int) (s : Option (List Int)) : Option (List Int) ⊕ Unit :=
  if (bindsL c d v).getD i false = true ∧ (bindsL c d v).getD j false = true then (if mustB c i v = true ∧ mustB c j v = true then .inr () else .inl (s.or (some v))) else .inl s
def clA (c : Cd) (i j : Nat) (d : Int) : List Int × Bool := match goS (clstep c i j d) (casesL c c.2.1) none with
  | .inl (some v) => (v, true)
  | .inl none => ([], false)
  | .inr _ => ([], false)
theorem G128_clash {c : Cd} (h : VC c) {i j : Nat} (hi : i < c.2.2.length) (hj : j < c.2.2.length) (d : Int) : G128 LF (c, ((i : Int), ((j : Int), d))) = some (clA c i j d) := by
  have hf := VF.self h
  have hfl := h.fl
  have hll := h.ll
  have hls := starts_len c.2.1 (condsL c.2.2)
  have hri : c.2.2[i]? = some (c.2.2.getD i (bts [], (0, (0, ([], ([], [])))))) := by rw [List.getD_eq_getElem?_getD, List.getElem?_eq_getElem hi]; rfl
  have hrj : c.2.2[j]? = some (c.2.2.getD j (bts [], (0, (0, ([], ([], [])))))) := by rw [List.getD_eq_getElem?_getD, List.getElem?_eq_getElem hj]; rfl
  unfold G128
  simp only [show G131 LF () = some () by rfl, Option.bind_some, G116_conds _ _ _ (show c.2.2.length ≤ 1000 by omega), G115_starts _ _ (show c.2.1.length ≤ 1000 by omega) (show (condsL c.2.2).length ≤ 1000 by have := h.cl; omega) h.cs, mkC_zer _ (show (startsL c.2.1 (condsL c.2.2)).length ≤ 1000 by omega)]
  refine (iter_odo (ρ := List Int × Bool) (fun k (s : Option (List Int)) => (k, s.getD [])) (startsL c.2.1 (condsL c.2.2)) (starts_ne _ _) (fun v s => match clstep c i j d v s with | .inl s => .inl s | .inr _ => .inr ([], false)) (fun _ s => ∀ v, s = some v → v ≠ []) (fun s => some (match s with | some v => (v, true) | none => ([], false))) ?_ ?_ (by have := hf.cs; show _ < 9223372036854775808; omega) none (fun v e => by cases e)).trans ?_
  · intro q s n hq hv hn hs
    have hvl := hf.vlen hv
    have hvne : valsI (startsL c.2.1 (condsL c.2.2)) q ≠ [] := fun e => by
      rw [e] at hvl
      exact h.fn (List.eq_nil_of_length_eq_zero hvl.symm)
    have hbl : (bindsL c d (valsI (startsL c.2.1 (condsL c.2.2)) q)).length = c.2.2.length := bindsL_len _ _ _
    refine vals_of hq (show (startsL c.2.1 (condsL c.2.2)).length ≤ 1000 by omega) (fun a i hi => by simp only [castN_lt hi, cond_true]) ?_
    simp only [dnlt, cond_false]
    congr 1
    have hci := (h.conds (List.mem_of_getElem? hri)).2
    have hcj := (h.conds (List.mem_of_getElem? hrj)).2
    have e0 : ∀ (s' : Option (List Int)), jn (iter LF (fun y110 : (Int × (List Int)) => cond (decide (y110.1 ≥ (0 : Int))) (((getI y110.2 y110.1)).bind fun r111 => ((getI y110.2 y110.1)).bind fun r112 => ((getI (startsL c.2.1 (condsL c.2.2)) y110.1)).bind fun r113 => cond (decide (r112 = (w64 ((r113.length : Int) - (1 : Int))))) (((getI y110.2 y110.1)).bind fun r114 => ((getI y110.2 y110.1)).bind fun r115 => ((setI y110.2 y110.1 (0 : Int))).bind fun r116 => some (.inl ((w64 (y110.1 - (1 : Int))), r116))) (some (.inr (.inl (y110.1, y110.2))))) (some (.inr (.inl (y110.1, y110.2))))) ((w64 (((startsL c.2.1 (condsL c.2.2)).length : Int) - (1 : Int))), castN q)) (fun y117 : (Int × (List Int)) => cond (decide (y117.1 < (0 : Int))) (outR (some (s'.getD [], (!(decide (((s'.getD []).length : Int) = (0 : Int))))))) (((getI y117.2 y117.1)).bind fun r118 => ((getI y117.2 y117.1)).bind fun r119 => ((getI y117.2 y117.1)).bind fun r120 => ((getI y117.2 y117.1)).bind fun r121 => ((setI y117.2 y117.1 (w64 (r119 + (1 : Int))))).bind fun r122 => some (.inl (r122, s'.getD []))))
        = match nxt (startsL c.2.1 (condsL c.2.2)) q with
          | none => (outR (some (s'.getD [], (!(decide (((s'.getD []).length : Int) = (0 : Int)))))) : Option ((List Int × List Int) ⊕ (List Int × Bool)))
          | some k' => some (.inl (castN k', s'.getD [])) := fun s' => adv_of hq (show (startsL c.2.1 (condsL c.2.2)).length ≤ 1000 by omega) (starts_cl c.2.1 h) _ _
    have e1 : ∀ (s' : Option (List Int)), (∀ v, s' = some v → v ≠ []) → (match nxt (startsL c.2.1 (condsL c.2.2)) q with
          | none => (outR (some (s'.getD [], (!(decide (((s'.getD []).length : Int) = (0 : Int)))))) : Option ((List Int × List Int) ⊕ (List Int × Bool)))
          | some k' => some (.inl (castN k', s'.getD []))) = match nxt (startsL c.2.1 (condsL c.2.2)) q with
          | some k' => some (.inl (castN k', s'.getD []))
          | none => outR (some (match s' with | some v => (v, true) | none => ([], false))) := by
      intro s' hs'
      cases nxt (startsL c.2.1 (condsL c.2.2)) q with
      | some k' => rfl
      | none =>
        cases s' with
        | none => rfl
        | some v =>
          have hp := List.length_pos_iff.2 (hs' v rfl)
          have : decide ((v.length : Int) = 0) = false := decide_eq_false (by omega)
          simp only [Option.getD_some, this, Bool.not_false]
    have gi : getI (bindsL (c.1, (c.2.1, c.2.2)) d (valsI (startsL c.2.1 (condsL c.2.2)) q)) (i : Int) = some ((bindsL c d (valsI (startsL c.2.1 (condsL c.2.2)) q)).getD i false) := getI_getD (l := bindsL c d (valsI (startsL c.2.1 (condsL c.2.2)) q)) false (by omega)
    have gj : getI (bindsL (c.1, (c.2.1, c.2.2)) d (valsI (startsL c.2.1 (condsL c.2.2)) q)) (j : Int) = some ((bindsL c d (valsI (startsL c.2.1 (condsL c.2.2)) q)).getD j false) := getI_getD (l := bindsL c d (valsI (startsL c.2.1 (condsL c.2.2)) q)) false (by omega)
    simp only [G130_judge (c := (c.1, (c.2.1, c.2.2))) h hvl, Option.bind_some, gi, gj, getI_nat hri, getI_nat hrj, G147_so hci hvl h.fl', G147_so hcj hvl h.fl']
    unfold clstep mustB
    cases hbi : (bindsL c d (valsI (startsL c.2.1 (condsL c.2.2)) q)).getD i false with
    | false =>
      simp only [Bool.not_false, cond_true, jl, Bool.false_eq_true, false_and, if_false]
      exact (e0 s).trans (e1 s hs)
    | true =>
      simp only [Bool.not_true, cond_false]
      cases hbj : (bindsL c d (valsI (startsL c.2.1 (condsL c.2.2)) q)).getD j false with
      | false =>
        simp only [Bool.not_false, cond_true, jl, Bool.false_eq_true, and_false, if_false]
        exact (e0 s).trans (e1 s hs)
      | true =>
        simp only [Bool.not_true, cond_false, and_self, if_true]
        have nc : neC (valsI (startsL c.2.1 (condsL c.2.2)) q) = some () := by
          cases hq' : valsI (startsL c.2.1 (condsL c.2.2)) q with
          | nil => exact absurd hq' hvne
          | cons _ _ => rfl
        have go1 : ∀ (s' : Option (List Int)), s' = s.or (some (valsI (startsL c.2.1 (condsL c.2.2)) q)) → (∀ v, s' = some v → v ≠ []) := by
          intro s' es v ev
          subst es
          cases s with
          | none => cases ev; exact hvne
          | some u => cases ev; exact hs _ rfl
        have st : ∀ {ρ : Type} (K : List Int × List Int → Option ρ), jn (cond (decide (((s.getD []).length : Int) = (0 : Int))) (((neC (valsI (startsL c.2.1 (condsL c.2.2)) q))).bind fun r108 => some (.inl ((valsI (startsL c.2.1 (condsL c.2.2)) q), (valsI (startsL c.2.1 (condsL c.2.2)) q)))) (some (.inl ((valsI (startsL c.2.1 (condsL c.2.2)) q), s.getD [])))) K = K (valsI (startsL c.2.1 (condsL c.2.2)) q, (s.or (some (valsI (startsL c.2.1 (condsL c.2.2)) q))).getD []) := by
          intro ρ K
          cases s with
          | none => simp [nc, jl]
          | some u =>
            have hp := List.length_pos_iff.2 (hs u rfl)
            have : decide ((u.length : Int) = 0) = false := decide_eq_false (by omega)
            simp only [Option.getD_some, this, cond_false, jl, Option.or_some]
        cases hmi : soB c.2.1 (valsI (startsL c.2.1 (condsL c.2.2)) q) (c.2.2.getD i (bts [], (0, (0, ([], ([], [])))))).2.2.2.2.1 with
        | false =>
          simp only [cond_false, jl, Bool.false_eq_true, false_and, if_false]
          refine (st _).trans ?_
          exact (e0 _).trans (e1 _ (go1 _ rfl))
        | true =>
          simp only [cond_true, jl, true_and]
          cases hmj : soB c.2.1 (valsI (startsL c.2.1 (condsL c.2.2)) q) (c.2.2.getD j (bts [], (0, (0, ([], ([], [])))))).2.2.2.2.1 with
          | false =>
            simp only [cond_false, Bool.false_eq_true, if_false]
            refine (st _).trans ?_
            exact (e0 _).trans (e1 _ (go1 _ rfl))
          | true => simp [jr]
  · intro v s s' n hv hn hs he u hu
    have hvl := hf.vlen hv
    have hvne : v ≠ [] := fun e => by
      rw [e] at hvl
      exact h.fn (List.eq_nil_of_length_eq_zero hvl.symm)
    unfold clstep at he
    split at he
    · rename_i q e1
      cases he
      split at e1
      · split at e1
        · cases e1
        · cases e1
          cases s with
          | none => cases hu; exact hvne
          | some w => cases hu; exact hs _ rfl
      · cases e1
        exact hs u hu
    · cases he
  · have lift : ∀ (l : List (List Int)) (s : Option (List Int)), goS (ρ := List Int × Bool) (fun v s => match clstep c i j d v s with | .inl s => .inl s | .inr _ => .inr ([], false)) l s = match goS (clstep c i j d) l s with | .inl s => .inl s | .inr _ => .inr ([], false) := by
      intro l
      induction l with
      | nil => intro s; rfl
      | cons v l ih =>
        intro s
        simp only [goS]
        cases clstep c i j d v s with
        | inl s' => exact ih s'
        | inr e => rfl
    rw [lift]
    unfold clA casesL
    cases goS (clstep c i j d) (choL (startsL c.2.1 (condsL c.2.2))) none with
    | inl s => cases s <;> rfl
    | inr e => rfl
end Go.K
set_option linter.unusedVariables false
set_option linter.unusedSimpArgs false
set_option maxRecDepth 100000
namespace Go.K
open Go.Sl Go.Sx Go.Proofs
theorem iter_foldF {σ A α ρ : Type} {f : α → Option (α ⊕ ρ)} (mk : Int → A → α) (g : σ → Nat → A → A) (good : Nat → A → Prop) (all : List σ) (fin : A → Option ρ) (k0 : Nat) (hk0 : k0 ≤ all.length) (a : A)
    (h1 : ∀ i x a, all[i]? = some x → k0 ≤ i → good i a → f (mk (i : Nat) a) = some (.inl (mk ((i + 1 : Nat) : Int) (g x i a))))
    (hg : ∀ i x a, all[i]? = some x → k0 ≤ i → good i a → good (i + 1) (g x i a))
    (h2 : ∀ a, good all.length a → f (mk (all.length : Nat) a) = outR (fin a)) (hl : all.length < LF) (h0 : good k0 a) :
    iter LF f (mk (k0 : Nat) a) = fin (foldI g (all.drop k0) k0 a) := by
  suffices H : ∀ (k i : Nat) (a : A) (lf : Nat), k0 ≤ i → i + k = all.length → k < lf → good i a → iter lf f (mk (i : Nat) a) = fin (foldI g (all.drop i) i a) from
    H (all.length - k0) k0 a LF (Nat.le_refl _) (by omega) (by omega) h0
  intro k
  induction k with
  | zero =>
    intro i a lf hi0 hk hlf hgd
    obtain ⟨lf, rfl⟩ : ∃ n, lf = n + 1 := ⟨lf - 1, by omega⟩
    have hi : i = all.length := by omega
    subst hi
    simp only [iter, h2 a hgd, List.drop_length, foldI]
    cases fin a <;> rfl
  | succ k ih =>
    intro i a lf hi0 hk hlf hgd
    obtain ⟨lf, rfl⟩ : ∃ n, lf = n + 1 := ⟨lf - 1, by omega⟩
    have hlt : i < all.length := by omega
    have hx : all[i]? = some all[i] := List.getElem?_eq_getElem hlt
    simp only [iter, h1 i _ a hx hi0 hgd]
    rw [List.drop_eq_getElem_cons hlt]
    simp only [foldI]
    exact ih (i + 1) _ lf (by omega) (by omega) (by omega) (hg i _ a hx hi0 hgd)
theorem fold_st {σ B ρ : Type} (g : σ → Nat → Option B) (F : B → ρ) : ∀ (l : List σ) (i : Nat), foldS (fun x i (_ : Unit) => match g x i with | some e => .inr (F e) | none => .inl ()) l i () = match scan g l i with | some e => .inr (F e) | none => .inl ()
  | [], _ => rfl
  | x :: l, i => by
    simp only [foldS, scan]
    cases g x i with
    | some e => rfl
    | none => exact fold_st g F l (i + 1)
theorem iter_scan_st {σ B ρ : Type} {f : (List B × Int) → Option ((List B × Int) ⊕ ((List B × Int) ⊕ ρ))} (g : σ → Nat → Option B) (b : List B) (all : List σ) (n : Int)
    (h1 : ∀ k d, all[k]? = some d → f (b, (k : Nat)) = some (match g d k with | some e => .inr (.inl (b ++ [e], n)) | none => .inl (b, ((k + 1 : Nat) : Int))))
    (h2 : f (b, (all.length : Nat)) = some (.inr (.inl (b, n)))) (hl : all.length < LF) :
    iter LF f (b, 0) = some (.inl (b ++ (scan g all 0).toList, n)) := by
  have key := iter_go (f := f) (fun i (_ : Unit) => (b, i)) (fun x i _ => match g x i with | some e => .inr ((fun e => Sum.inl (b ++ [e], n)) e) | none => .inl ()) (fun _ _ => True) all (fun _ => some (.inl (b, n))) ()
    (fun i x a hx _ => by rw [h1 i x hx]; cases g x i <;> rfl) (fun _ _ _ _ _ _ _ => trivial) (fun _ _ => by rw [h2]; rfl) hl trivial
  rw [key, fold_st g (fun e => Sum.inl (b ++ [e], n))]
  cases scan g all 0 <;> simp
abbrev Cl := Int × (Int × (Int × List Int))
def clsS (c : Cd) (i j : Nat) (d : Int) (_ : Nat) : Option Cl := bif (clA c i j d).2 then some ((i : Int), ((j : Int), (d, (clA c i j d).1))) else none
def clsD (c : Cd) (i j : Nat) : List Cl := (scan (clsS c i j) (daysL c.2.2) 0).toList
def clsJ (c : Cd) (i : Nat) (a : List Cl) : List Cl := foldI (fun (_ : Rl) j a => a ++ clsD c i j) (c.2.2.drop (i + 1)) (i + 1) a
def clsA (c : Cd) : List Cl := foldI (fun (_ : Rl) i a => clsJ c i a) c.2.2 0 []
theorem clsD_len (c : Cd) (i j : Nat) : (clsD c i j).length ≤ 1 := by unfold clsD; cases scan (clsS c i j) (daysL c.2.2) 0 <;> simp
theorem fold_len {σ B : Type} (g : Nat → List B) (hg : ∀ j, (g j).length ≤ 1) : ∀ (l : List σ) (k : Nat) (a : List B), (foldI (fun _ j a => a ++ g j) l k a).length ≤ a.length + l.length
  | [], _, _ => by simp [foldI]
  | x :: l, k, a => by
    have h1 := fold_len g hg l (k + 1) (a ++ g k)
    have h2 := hg k
    simp only [foldI, List.length_cons]
    rw [List.length_append] at h1; omega
theorem clsJ_len (c : Cd) (i : Nat) (a : List Cl) : (clsJ c i a).length ≤ a.length + c.2.2.length := by
  have := fold_len (σ := Rl) (clsD c i) (clsD_len c i) (c.2.2.drop (i + 1)) (i + 1) a
  unfold clsJ
  rw [List.length_drop] at this; omega
theorem cls_loop {c : Cd} (h : VC c) (D : Option (List Int)) (hD : D = some (daysL c.2.2)) (CL : Int → Int → Int → Option (List Int × Bool)) (hC : ∀ (i j : Nat) (d : Int), i < c.2.2.length → j < c.2.2.length → CL i j d = some (clA c i j d)) :
    iter LF (fun y15 : (List Cl × Int) => cond (decide (y15.2 < (c.2.2.length : Int))) (iter LF (fun y16 : (List Cl × Int) => cond (decide (y16.2 < (c.2.2.length : Int))) (D.bind fun r17 => iter LF (fun y18 : (List Cl × Int) => cond (decide (y18.2 < (r17.length : Int))) (((getI r17 y18.2)).bind fun r19 => (CL y15.2 y16.2 r19).bind fun r20 => cond r20.2 (((appC y18.1 [(y15.2, (y16.2, (r19, r20.1)))])).bind fun r21 => some (.inr (.inl (r21, (w64 (y16.2 + (1 : Int))))))) (some (.inl (y18.1, (w64 (y18.2 + (1 : Int))))))) (some (.inr (.inl (y18.1, (w64 (y16.2 + (1 : Int)))))))) (y16.1, (0 : Int))) (some (.inr (.inl (y16.1, (w64 (y15.2 + (1 : Int)))))))) (y15.1, (w64 (y15.2 + (1 : Int))))) (some (.inr (y15.1, (0 : Int))))) (([] : List Cl), (0 : Int)) = some (clsA c, 0) := by
  have hll := h.ll
  have hdl := days_len c.2.2
  refine (iter_foldI (fun i a => (a, i)) (fun (_ : Rl) i a => clsJ c i a) (fun i a => a.length ≤ 12 * i) c.2.2 (fun a => some (a, 0)) [] ?_ ?_ ?_ h.ll' (by simp)).trans rfl
  · intro i r a hr ha
    have hi := lt_of_get hr
    have hi1 : w64 ((i : Int) + 1) = ((i + 1 : Nat) : Int) := succ_W (show i + 1 < 9223372036854775808 by omega)
    simp only [dlt hi, cond_true, hi1]
    refine (iter_foldF (ρ := (List Cl × Int) ⊕ (List Cl × Int)) (fun j a => (a, j)) (fun (_ : Rl) j a => a ++ clsD c i j) (fun j a => a.length ≤ 12 * i + j) c.2.2 (fun a => some (.inl (a, ((i + 1 : Nat) : Int)))) (i + 1) (by omega) a ?_ ?_ ?_ h.ll' (by omega)).trans rfl
    · intro j r2 b hr2 hj0 hb
      have hj := lt_of_get hr2
      have hj1 : w64 ((j : Int) + 1) = ((j + 1 : Nat) : Int) := succ_W (show j + 1 < 9223372036854775808 by omega)
      simp only [dlt hj, cond_true, hj1, hD, Option.bind_some]
      refine (iter_scan_st (clsS c i j) b (daysL c.2.2) ((j + 1 : Nat) : Int) ?_ ?_ (by show (daysL c.2.2).length < 9223372036854775808; omega)).trans ?_
      · intro k d hd
        have hk := lt_of_get hd
        have hk1 : w64 ((k : Int) + 1) = ((k + 1 : Nat) : Int) := succ_W (show k + 1 < 9223372036854775808 by omega)
        simp only [dlt hk, cond_true, getI_nat hd, Option.bind_some, hC i j d hi hj, hk1]
        unfold clsS
        cases (clA c i j d).2 with
        | true =>
          simp only [cond_true]
          rw [appC_of (by simp; omega)]
          rfl
        | false => rfl
      · simp only [dnlt]; rfl
      · unfold clsD
        cases scan (clsS c i j) (daysL c.2.2) 0 <;> simp
    · intro j r2 b _ _ hb
      have := clsD_len c i j
      rw [List.length_append]; omega
    · intro b _
      simp only [dnlt]; rfl
  · intro i r a _ ha
    have := clsJ_len c i a
    omega
  · intro a _
    simp only [dnlt]; rfl
theorem G41_clashes (c : Cd) : G41 LF c = some (if codeE c = 0 then (clsA c, 0) else ([], codeE c)) := by
  unfold G41
  simp only [show G31 LF (c.1, (c.2.1, c.2.2)) = some (codeE c) from G31_code c, Option.bind_some]
  by_cases he : codeE c = 0
  · have h := VC.of he
    have hll := h.ll
    simp only [he, decide_true, Bool.not_true, cond_false, if_true]
    exact cls_loop h (G127 LF (c.1, (c.2.1, c.2.2))) (G127_days (c.1, (c.2.1, c.2.2)) (show c.2.2.length ≤ 1000 by omega)) (fun i j d => G128 LF ((c.1, (c.2.1, c.2.2)), (i, (j, d)))) (fun i j d hi hj => G128_clash h hi hj d)
  · simp only [he, decide_false, Bool.not_false, cond_true, if_false]
def chkP (c : Cd) (i j d : Int) (v : List Int) : Bool := (decide (0 ≤ i) && decide (i < j) && decide (j < (c.2.2.length : Int))) && (decide (0 ≤ d ∧ d ≤ 100000) && valB c.2.1 v)
def chkR (c : Cd) (i j d : Int) (v : List Int) : Int :=
  if codeE c ≠ 0 then codeE c else if chkP c i j d v = true then (if (clA c i.toNat j.toNat d).2 = true ∧ (bindsL c d v).getD i.toNat false = true ∧ (bindsL c d v).getD j.toNat false = true then 0 else 42) else 42
theorem chk_pre {ρ : Type} (c : Cd) (i j d : Int) (v : List Int) (IN VAL : Option Bool) (h1 : IN = some (decide (0 ≤ d ∧ d ≤ 100000))) (h2 : VAL = some (valB c.2.1 v)) (K : Bool → Option ρ) :
    jn (cond (decide (i < (0 : Int))) (some (.inl true)) (cond (decide (i ≥ j)) (some (.inl true)) (cond (decide (j ≥ (c.2.2.length : Int))) (some (.inl true)) (IN.bind fun r29 => cond (!r29) (some (.inl true)) (VAL.bind fun r30 => some (.inl (!r30))))))) K = K (!chkP c i j d v) := by
  unfold chkP
  by_cases a : i < 0
  · have e : decide (0 ≤ i) = false := decide_eq_false (by omega)
    simp only [decide_eq_true a, cond_true, jl, e, Bool.false_and, Bool.not_false]
  · have e : decide (0 ≤ i) = true := decide_eq_true (by omega)
    by_cases b : i ≥ j
    · have e2 : decide (i < j) = false := decide_eq_false (by omega)
      simp only [decide_eq_false a, cond_false, decide_eq_true b, cond_true, jl, e, e2, Bool.and_false, Bool.false_and, Bool.not_false]
    · have e2 : decide (i < j) = true := decide_eq_true (by omega)
      by_cases g : j ≥ (c.2.2.length : Int)
      · have e3 : decide (j < (c.2.2.length : Int)) = false := decide_eq_false (by omega)
        simp only [decide_eq_false a, cond_false, decide_eq_false b, decide_eq_true g, cond_true, jl, e, e2, e3, Bool.and_false, Bool.false_and, Bool.not_false]
      · have e3 : decide (j < (c.2.2.length : Int)) = true := decide_eq_true (by omega)
        simp only [decide_eq_false a, cond_false, decide_eq_false b, decide_eq_false g, e, e2, e3, Bool.and_true, Bool.true_and, h1, h2, Option.bind_some]
        cases decide (0 ≤ d ∧ d ≤ 100000) with
        | false => rfl
        | true => cases valB c.2.1 v <;> rfl
theorem chk_post {ρ : Type} {c : Cd} {i j d : Int} {v : List Int} (hp : chkP c i j d v = true) (r : List Int × Bool) (K : Bool → Option ρ) :
    jn (cond (!r.2) (some (.inl true)) (((getI (bindsL c d v) i)).bind fun r35 => cond (!r35) (some (.inl true)) (((getI (bindsL c d v) j)).bind fun r36 => some (.inl (!r36))))) K = K (!decide (r.2 = true ∧ (bindsL c d v).getD i.toNat false = true ∧ (bindsL c d v).getD j.toNat false = true)) := by
  unfold chkP at hp
  simp only [Bool.and_eq_true, decide_eq_true_eq] at hp
  obtain ⟨⟨⟨h0, h1⟩, h2⟩, _⟩ := hp
  obtain ⟨a, rfl⟩ := Int.eq_ofNat_of_zero_le h0
  obtain ⟨b, rfl⟩ := Int.eq_ofNat_of_zero_le (show 0 ≤ j by omega)
  have hbl : (bindsL c d v).length = c.2.2.length := bindsL_len _ _ _
  rw [getI_getD (n := a) false (by omega), getI_getD (n := b) false (by omega)]
  simp only [Option.bind_some, Int.toNat_natCast, Bool.decide_and, Bool.decide_eq_true]
  generalize (bindsL c d v).getD a false = x
  generalize (bindsL c d v).getD b false = y
  cases r.2 <;> cases x <;> cases y <;> rfl
theorem chk_out {c : Cd} {i j d : Int} {v : List Int} (hp : chkP c i j d v = true) : (0 ≤ i ∧ i.toNat < c.2.2.length) ∧ (0 ≤ j ∧ j.toNat < c.2.2.length) ∧ valB c.2.1 v = true := by
  unfold chkP at hp
  simp only [Bool.and_eq_true, decide_eq_true_eq] at hp
  exact ⟨⟨by omega, by omega⟩, ⟨by omega, by omega⟩, hp.2.2⟩
theorem G42_chk (c : Cd) (i j d : Int) (v : List Int) : G42 LF (c, (i, (j, (d, v)))) = some (chkR c i j d v) := by
  unfold G42 chkR
  simp only [show G31 LF (c.1, (c.2.1, c.2.2)) = some (codeE c) from G31_code c, Option.bind_some]
  by_cases he : codeE c = 0
  · have h := VC.of he
    simp only [he, decide_true, Bool.not_true, cond_false, ne_eq, not_true, if_false]
    rw [chk_pre c i j d v _ _ (G91_in _ _ _) (show G129 LF ((c.1, (c.2.1, c.2.2)), v) = some (valB c.2.1 v) from G129_val c v h.fl')]
    cases hp : chkP c i j d v with
    | false => rfl
    | true =>
      obtain ⟨⟨i0, i1⟩, ⟨j0, j1⟩, hv⟩ := chk_out hp
      have hvl := (val_in.1 hv).1
      have hcl : G128 LF ((c.1, (c.2.1, c.2.2)), (i, (j, d))) = some (clA c i.toNat j.toNat d) := by
        have := G128_clash h i1 j1 d
        rwa [Int.toNat_of_nonneg i0, Int.toNat_of_nonneg j0] at this
      simp only [Bool.not_true, cond_false, show G131 LF () = some () by rfl, G130_judge (c := (c.1, (c.2.1, c.2.2))) h hvl, Option.bind_some, hcl, if_true]
      refine (chk_post (ρ := Int) hp _ _).trans ?_
      by_cases hq : (clA c i.toNat j.toNat d).2 = true ∧ (bindsL c d v).getD i.toNat false = true ∧ (bindsL c d v).getD j.toNat false = true
      · rw [if_pos hq, decide_eq_true hq]; rfl
      · rw [if_neg hq, decide_eq_false hq]; rfl
  · simp only [he, decide_false, Bool.not_false, cond_true, ne_eq, not_false_eq_true, if_true]
end Go.K
set_option linter.unusedVariables false
set_option linter.unusedSimpArgs false
set_option maxRecDepth 100000
namespace Go.K
open Go.Sl Go.Sx Go.Proofs
theorem scan_mem {σ ρ : Type} {g : σ → Nat → Option ρ} : ∀ {l : List σ} {i : Nat} {e : ρ}, scan g l i = some e → ∃ x ∈ l, ∃ k, g x k = some e
  | x :: l, i, e, h => by
    simp only [scan] at h
    cases hg : g x i with
    | some e' => rw [hg] at h; cases h; exact ⟨x, List.mem_cons_self .., i, hg⟩
    | none =>
      rw [hg] at h
      obtain ⟨y, hy, k, hk⟩ := scan_mem h
      exact ⟨y, List.mem_cons_of_mem _ hy, k, hk⟩
theorem goS_mem {c : Cd} {i j : Nat} {d : Int} : ∀ {l : List (List Int)} {s : Option (List Int)} {v : List Int}, (s = none ∨ ∃ u, s = some u ∧ u ∈ casesL c c.2.1 ∧ (bindsL c d u).getD i false = true ∧ (bindsL c d u).getD j false = true) → (∀ x ∈ l, x ∈ casesL c c.2.1) → goS (clstep c i j d) l s = .inl (some v) → v ∈ casesL c c.2.1 ∧ (bindsL c d v).getD i false = true ∧ (bindsL c d v).getD j false = true
  | [], s, v, hs, _, h => by
    simp only [goS, Sum.inl.injEq] at h
    subst h
    rcases hs with e | ⟨u, e, hu⟩
    · cases e
    · cases e; exact hu
  | x :: l, s, v, hs, hm, h => by
    simp only [goS] at h
    cases hc : clstep c i j d x s with
    | inr e => rw [hc] at h; cases h
    | inl s' =>
      rw [hc] at h
      refine goS_mem ?_ (fun y hy => hm y (List.mem_cons_of_mem _ hy)) h
      unfold clstep at hc
      split at hc
      · rename_i hb
        split at hc
        · cases hc
        · cases hc
          cases s with
          | none => exact .inr ⟨x, rfl, hm x (List.mem_cons_self ..), hb⟩
          | some u => exact hs
      · cases hc; exact hs
theorem clA_of {c : Cd} {i j : Nat} {d : Int} (h : (clA c i j d).2 = true) : (clA c i j d).1 ∈ casesL c c.2.1 ∧ (bindsL c d (clA c i j d).1).getD i false = true ∧ (bindsL c d (clA c i j d).1).getD j false = true := by
  unfold clA at h ⊢
  cases hg : goS (clstep c i j d) (casesL c c.2.1) none with
  | inr e => rw [hg] at h; cases h
  | inl s =>
    cases s with
    | none => rw [hg] at h; cases h
    | some v => exact goS_mem (.inl rfl) (fun _ h => h) hg
theorem clsD_mem {c : Cd} {i j : Nat} {x : Cl} (h : x ∈ clsD c i j) : x.1 = i ∧ x.2.1 = j ∧ x.2.2.1 ∈ daysL c.2.2 ∧ clA c i j x.2.2.1 = (x.2.2.2, true) := by
  unfold clsD at h
  cases hs : scan (clsS c i j) (daysL c.2.2) 0 with
  | none => rw [hs] at h; cases h
  | some e =>
    rw [hs] at h
    simp only [Option.toList_some, List.mem_singleton] at h
    subst h
    obtain ⟨d, hd, k, hk⟩ := scan_mem hs
    unfold clsS at hk
    cases h2 : (clA c i j d).2 with
    | false => rw [h2] at hk; cases hk
    | true =>
      rw [h2] at hk
      simp only [cond_true, Option.some.injEq] at hk
      subst hk
      exact ⟨rfl, rfl, hd, by rw [← h2]⟩
theorem fold_mem {σ B : Type} (g : Nat → List B) : ∀ (l : List σ) (k : Nat) (a : List B) (x : B), x ∈ foldI (fun _ j a => a ++ g j) l k a ↔ x ∈ a ∨ ∃ j, k ≤ j ∧ j < k + l.length ∧ x ∈ g j
  | [], k, a, x => by
    simp only [foldI, List.length_nil, Nat.add_zero]
    exact ⟨.inl, fun h => h.elim id fun ⟨j, h1, h2, _⟩ => by omega⟩
  | y :: l, k, a, x => by
    simp only [foldI, List.length_cons]
    rw [fold_mem g l (k + 1) (a ++ g k) x, List.mem_append]
    constructor
    · rintro ((h | h) | ⟨j, h1, h2, h3⟩)
      · exact .inl h
      · exact .inr ⟨k, Nat.le_refl _, by omega, h⟩
      · exact .inr ⟨j, by omega, by omega, h3⟩
    · rintro (h | ⟨j, h1, h2, h3⟩)
      · exact .inl (.inl h)
      · by_cases e : j = k
        · subst e; exact .inl (.inr h3)
        · exact .inr ⟨j, by omega, by omega, h3⟩
theorem clsJ_mem {c : Cd} {i : Nat} {a : List Cl} {x : Cl} : x ∈ clsJ c i a ↔ x ∈ a ∨ ∃ j, i + 1 ≤ j ∧ j < c.2.2.length ∧ x ∈ clsD c i j := by
  unfold clsJ
  rw [fold_mem (clsD c i)]
  rw [List.length_drop]
  constructor
  · rintro (h | ⟨j, h1, h2, h3⟩)
    · exact .inl h
    · exact .inr ⟨j, h1, by omega, h3⟩
  · rintro (h | ⟨j, h1, h2, h3⟩)
    · exact .inl h
    · exact .inr ⟨j, h1, by omega, h3⟩
theorem clsA_mem {c : Cd} {x : Cl} : x ∈ clsA c ↔ ∃ i j : Nat, i < j ∧ j < c.2.2.length ∧ x ∈ clsD c i j := by
  have key : ∀ (l : List Rl) (k : Nat) (a : List Cl), x ∈ foldI (fun (_ : Rl) i a => clsJ c i a) l k a ↔ x ∈ a ∨ ∃ i, k ≤ i ∧ i < k + l.length ∧ ∃ j, i + 1 ≤ j ∧ j < c.2.2.length ∧ x ∈ clsD c i j := by
    intro l
    induction l with
    | nil =>
      intro k a
      simp only [foldI, List.length_nil, Nat.add_zero]
      exact ⟨.inl, fun h => h.elim id fun ⟨j, h1, h2, _⟩ => by omega⟩
    | cons y l ih =>
      intro k a
      simp only [foldI, List.length_cons]
      rw [ih, clsJ_mem]
      constructor
      · rintro ((h | h) | ⟨i, h1, h2, h3⟩)
        · exact .inl h
        · exact .inr ⟨k, Nat.le_refl _, by omega, h⟩
        · exact .inr ⟨i, by omega, by omega, h3⟩
      · rintro (h | ⟨i, h1, h2, h3⟩)
        · exact .inl (.inl h)
        · by_cases e : i = k
          · subst e; exact .inl (.inr h3)
          · exact .inr ⟨i, by omega, by omega, h3⟩
  unfold clsA
  rw [key]
  constructor
  · rintro (h | ⟨i, h1, h2, j, h3, h4, h5⟩)
    · cases h
    · exact ⟨i, j, by omega, h4, h5⟩
  · rintro ⟨i, j, h1, h2, h3⟩
    exact .inr ⟨i, by omega, by omega, j, by omega, h2, h3⟩
theorem clsA_len {c : Cd} (h : VC c) : (clsA c).length ≤ 144 := by
  have hll := h.ll
  have key : ∀ (l : List Rl) (k : Nat) (a : List Cl), (foldI (fun (_ : Rl) i a => clsJ c i a) l k a).length ≤ a.length + 12 * l.length := by
    intro l
    induction l with
    | nil => intro k a; simp [foldI]
    | cons y l ih =>
      intro k a
      have h1 := ih (k + 1) (clsJ c k a)
      have h2 := clsJ_len c k a
      simp only [foldI, List.length_cons]
      omega
  have := key c.2.2 0 []
  simp only [List.length_nil] at this
  unfold clsA
  omega
end Go.K
set_option linter.unusedVariables false
set_option linter.unusedSimpArgs false
set_option maxRecDepth 100000
namespace Go.K
open Go.Sl Go.Sx Go.Proofs
def pkI (lo hi n : Int) : Int := lo + Int.tmod (Int.tmod n (hi - lo + 1) + (hi - lo + 1)) (hi - lo + 1)
theorem pkI_in {lo hi : Int} (h : lo ≤ hi) (n : Int) : lo ≤ pkI lo hi n ∧ pkI lo hi n ≤ hi := by
  unfold pkI
  have hw : 0 < hi - lo + 1 := by omega
  have h1 := Int.lt_tmod_of_pos n hw
  have h3 := Int.tmod_nonneg (a := Int.tmod n (hi - lo + 1) + (hi - lo + 1)) (hi - lo + 1) (by omega)
  have h4 := Int.tmod_lt_of_pos (Int.tmod n (hi - lo + 1) + (hi - lo + 1)) hw
  omega
theorem G43_pick {lo hi : Int} (h : lo ≤ hi) (h1 : -1000000000000 ≤ lo) (h2 : hi ≤ 1000000000000) (n : Int) : G43 LF ((lo, hi), n) = some (pkI lo hi n) := by
  have hw : 0 < hi - lo + 1 := by omega
  have e1 : w64 (hi - lo) = hi - lo := w64_in (by omega)
  have e2 : w64 (hi - lo + 1) = hi - lo + 1 := w64_in (by omega)
  have a1 := Int.lt_tmod_of_pos n hw
  have a2 := Int.tmod_lt_of_pos n hw
  have e3 : w64 (Int.tmod n (hi - lo + 1) + (hi - lo + 1)) = Int.tmod n (hi - lo + 1) + (hi - lo + 1) := w64_in (by omega)
  have hn : nz (hi - lo + 1) = some () := by unfold nz; rw [if_pos (by omega)]
  have hp := pkI_in h n
  unfold G43
  simp only [e1, e2, hn, Option.bind_some, e3]
  show some (w64 (pkI lo hi n)) = _
  rw [w64_in (by omega)]
def pksL {σ B : Type} (h : σ → Nat → B) : List σ → Nat → List B
  | [], _ => []
  | x :: l, k => h x k :: pksL h l (k + 1)
theorem pks_fold {σ B : Type} (h : σ → Nat → B) : ∀ (l : List σ) (k : Nat) (a : List B), foldI (fun x i a => a ++ [h x i]) l k a = a ++ pksL h l k
  | [], _, a => by simp [foldI, pksL]
  | x :: l, k, a => by simp only [foldI, pksL]; rw [pks_fold h l (k + 1)]; simp
theorem pks_get {σ B : Type} (h : σ → Nat → B) : ∀ (l : List σ) (k i : Nat), (pksL h l k)[i]? = (l[i]?).map fun x => h x (k + i)
  | [], _, _ => rfl
  | x :: l, k, 0 => rfl
  | x :: l, k, i + 1 => by
    simp only [pksL, List.getElem?_cons_succ]
    rw [pks_get h l (k + 1) i, show k + 1 + i = k + (i + 1) by omega]
theorem pks_len {σ B : Type} (h : σ → Nat → B) : ∀ (l : List σ) (k : Nat), (pksL h l k).length = l.length
  | [], _ => rfl
  | x :: l, k => by simp [pksL, pks_len h l]
def pkN (p : List Int) (i : Nat) : Int := if 0 < p.length then p.getD (i % p.length) 0 else 0
def pickV (f : List Fct) (p : List Int) : List Int := pksL (fun x i => pkI x.2.1 x.2.2 (pkN p i)) f 0
theorem G39_picks (f : List Fct) (p : List Int) (hl : f.length ≤ 1000) (hf : ∀ x ∈ f, -1000000000000 ≤ x.2.1 ∧ x.2.1 ≤ x.2.2 ∧ x.2.2 ≤ 1000000000000) : G39 LF (f, p) = some (pickV f p) := by
  unfold G39
  refine (iter_foldI (fun i a => (a, i)) (fun (x : Fct) i a => a ++ [pkI x.2.1 x.2.2 (pkN p i)]) (fun i a => a.length = i) f (fun a => some a) [] ?_ ?_ ?_ (by show f.length < 9223372036854775808; omega) rfl).trans ?_
  · intro i x a hx ha
    have hi := lt_of_get hx
    obtain ⟨b1, b2, b3⟩ := hf x (List.mem_of_getElem? hx)
    simp only [dlt hi, cond_true, getI_nat hx, Option.bind_some, succ_W (show i + 1 < 9223372036854775808 by omega)]
    have key : ∀ {ρ : Type} (K : Int → Option ρ), jn (cond (decide ((p.length : Int) > (0 : Int))) (((nz (p.length : Int))).bind fun r12 => ((getI p (Int.tmod (i : Int) (p.length : Int)))).bind fun r13 => some (.inl r13)) (some (.inl (0 : Int)))) K = K (pkN p i) := by
      intro ρ K
      unfold pkN
      by_cases hp : 0 < p.length
      · have hn : nz (p.length : Int) = some () := by unfold nz; rw [if_pos (by omega)]
        rw [if_pos hp, ← Int.ofNat_tmod, getI_getD (l := p) 0 (Nat.mod_lt _ hp)]
        simp only [decide_eq_true (show (p.length : Int) > 0 by omega), cond_true, hn, Option.bind_some, jl]
      · rw [if_neg hp]
        simp only [decide_eq_false (show ¬ (p.length : Int) > 0 by omega), cond_false, jl]
    rw [key]
    simp only [G43_pick b2 b1 b3, Option.bind_some, appC_of (show a.length + [pkI x.2.1 x.2.2 (pkN p i)].length ≤ 1099511627776 by simp; omega)]
  · intro i x a _ ha
    simp [ha]
  · intro a _
    simp only [dnlt]; rfl
  · rw [pks_fold (fun (x : Fct) i => pkI x.2.1 x.2.2 (pkN p i))]
    rfl
theorem VC.spans {c : Cd} (h : VC c) : ∀ x ∈ c.2.1, -1000000000000 ≤ x.2.1 ∧ x.2.1 ≤ x.2.2 ∧ x.2.2 ≤ 1000000000000 := by
  intro x hx
  obtain ⟨i, hi⟩ := List.mem_iff_getElem?.1 hx
  exact (h.fact hi).2.2
theorem pickV_in {f : List Fct} (hf : ∀ x ∈ f, x.2.1 ≤ x.2.2) (p : List Int) : In f (pickV f p) := by
  refine ⟨pks_len _ _ _, fun i x n hx hn => ?_⟩
  unfold pickV at hn
  rw [pks_get, hx] at hn
  simp only [Option.map_some, Option.some.injEq] at hn
  subst hn
  exact pkI_in (hf x (List.mem_of_getElem? hx)) _
theorem days_mem {l : List Rl} {n : Int} : n ∈ daysL l ↔ n = 0 ∨ ∃ r ∈ l, n ∈ dayR r := by
  rw [daysL_eq, (sc_rise _).2, List.mem_cons, List.mem_flatMap]
theorem days_in {c : Cd} (h : VC c) {n : Int} (hn : n ∈ daysL c.2.2) : 0 ≤ n ∧ n ≤ 100000 := by
  rcases days_mem.1 hn with rfl | ⟨r, hr, hm⟩
  · omega
  · obtain ⟨i, hi⟩ := List.mem_iff_getElem?.1 hr
    obtain ⟨_, _, h3, _⟩ := h.rule hi
    unfold dayR at hm
    rcases List.mem_cons.1 hm with rfl | hm
    · omega
    · split at hm
      · rw [w64_in (by omega)] at hm
        simp only [List.mem_singleton] at hm
        omega
      · cases hm
theorem day_near {c : Cd} (h : VC c) {d : Int} (h0 : 0 ≤ d) (h1 : d ≤ 100000) : ∃ e ∈ daysL c.2.2, ∀ r ∈ c.2.2, (r.2.1 ≤ d ∧ d ≤ r.2.2.1) ↔ (r.2.1 ≤ e ∧ e ≤ r.2.2.1) := by
  obtain ⟨e, e1, e2, e3⟩ := near_ex (l := daysL c.2.2) (n := d) ⟨0, days_mem.2 (.inl rfl), h0⟩
  refine ⟨e, e1, fun r hr => ?_⟩
  obtain ⟨i, hi⟩ := List.mem_iff_getElem?.1 hr
  obtain ⟨_, _, b, _⟩ := h.rule hi
  have m1 : r.2.1 ∈ daysL c.2.2 := days_mem.2 (.inr ⟨r, hr, List.mem_cons_self ..⟩)
  constructor
  · rintro ⟨a1, a2⟩
    have := e3 _ m1 a1
    omega
  · rintro ⟨a1, a2⟩
    refine ⟨by omega, ?_⟩
    by_cases hc : d ≤ r.2.2.1
    · exact hc
    · exfalso
      have m2 : r.2.2.1 + 1 ∈ daysL c.2.2 := days_mem.2 (.inr ⟨r, hr, by
        unfold dayR
        rw [if_pos (by omega), w64_in (by omega)]
        simp⟩)
      have := e3 _ m2 (by omega)
      omega
theorem day_binds {c : Cd} {d e : Int} (hd : ∀ r ∈ c.2.2, (r.2.1 ≤ d ∧ d ≤ r.2.2.1) ↔ (r.2.1 ≤ e ∧ e ≤ r.2.2.1)) (v : List Int) : bindsL c d v = bindsL c e v := by
  unfold bindsL
  have key : ∀ (m : List Rl), (∀ r ∈ m, r ∈ c.2.2) → ∀ out, nbL c.2.1 c.2.2 d v m out = nbL c.2.1 c.2.2 e v m out := by
    intro m
    induction m with
    | nil => intro _ out; rfl
    | cons r m ih =>
      intro hs out
      have e : bindB c.2.1 c.2.2 d v r out = bindB c.2.1 c.2.2 e v r out := by
        unfold bindB
        rw [decide_eq_decide.2 (hd r (hs r (List.mem_cons_self ..)))]
      simp only [nbL, e]
      rw [ih (fun q hq => hs q (List.mem_cons_of_mem _ hq))]
  exact key c.2.2 (fun _ h => h) []
end Go.K
set_option linter.unusedVariables false
set_option linter.unusedSimpArgs false
set_option maxRecDepth 100000
namespace Go.K
open Go.Sl Go.Sx Go.Proofs
theorem any_loop {σ ρ : Type} {f : Bool × Int → Option ((Bool × Int) ⊕ ρ)} (l : List σ) (p : σ → Bool) (R : Option ρ)
    (h1 : ∀ (k : Nat) x b, l[k]? = some x → f (b, (k : Nat)) = some (.inl (b || p x, ((k + 1 : Nat) : Int))))
    (h2 : f (l.any p, (l.length : Nat)) = outR R) (hl : l.length < LF) :
    iter LF f (false, 0) = R := by
  rw [iter_foldI (fun i (b : Bool) => (b, i)) (fun (x : σ) _ b => b || p x) (fun k b => b = (l.take k).any p) l (fun _ => R) false (fun k x b hx _ => h1 k x b hx) (fun k x b hx hb => by
    rw [List.take_add_one, hx, hb]
    simp) (fun b hb => by rw [hb, List.take_length]; exact h2) hl rfl]
end Go.K
set_option linter.unusedVariables false
set_option linter.unusedSimpArgs false
set_option maxRecDepth 100000
namespace Go.K
open Go.Sl Go.Sx Go.Proofs
theorem clA_day {c : Cd} (i j : Nat) {d e : Int} (hd : ∀ r ∈ c.2.2, (r.2.1 ≤ d ∧ d ≤ r.2.2.1) ↔ (r.2.1 ≤ e ∧ e ≤ r.2.2.1)) : clA c i j d = clA c i j e := by
  have hs : clstep c i j d = clstep c i j e := by
    funext v s
    unfold clstep
    rw [day_binds hd]
  unfold clA
  rw [hs]
theorem clsD_ex {c : Cd} {i j : Nat} {d : Int} (hd : d ∈ daysL c.2.2) (h : (clA c i j d).2 = true) : ∃ x, x ∈ clsD c i j := by
  unfold clsD
  cases hs : scan (clsS c i j) (daysL c.2.2) 0 with
  | some e => exact ⟨e, by simp⟩
  | none =>
    exfalso
    have : ∀ (l : List Int) (k : Nat), d ∈ l → scan (clsS c i j) l k = none → False := by
      intro l
      induction l with
      | nil => intro k hm; cases hm
      | cons x l ih =>
        intro k hm hn
        simp only [scan] at hn
        rcases List.mem_cons.1 hm with rfl | hm
        · unfold clsS at hn
          rw [h] at hn
          cases hn
        · cases hx : clsS c i j x k with
          | some e => rw [hx] at hn; cases hn
          | none => rw [hx] at hn; exact ih _ hm hn
    exact this _ _ hd hs
theorem chk_listed {c : Cd} (h : VC c) {x : Cl} (hx : x ∈ clsA c) (he : codeE c = 0) : chkR c x.1 x.2.1 x.2.2.1 x.2.2.2 = 0 := by
  obtain ⟨i, j, hij, hj, hm⟩ := clsA_mem.1 hx
  obtain ⟨e1, e2, e3, e4⟩ := clsD_mem hm
  obtain ⟨d0, d1⟩ := days_in h e3
  obtain ⟨v1, v2, v3⟩ := clA_of (c := c) (i := i) (j := j) (d := x.2.2.1) (by rw [e4])
  rw [e4] at v1 v2 v3
  have hv := val_in.2 (cases_in (VF.self h) v1)
  unfold chkR
  rw [if_neg (by simp [he])]
  have hp : chkP c x.1 x.2.1 x.2.2.1 x.2.2.2 = true := by
    unfold chkP
    simp only [Bool.and_eq_true, decide_eq_true_eq]
    exact ⟨⟨⟨by omega, by omega⟩, by omega⟩, ⟨d0, d1⟩, hv⟩
  rw [if_pos hp, if_pos]
  rw [e1, e2, Int.toNat_natCast, Int.toNat_natCast, e4]
  exact ⟨rfl, v2, v3⟩
theorem chkR_val {c : Cd} (he : codeE c = 0) (i j d : Int) (v : List Int) : chkR c i j d v = 0 ∨ chkR c i j d v = 42 := by
  unfold chkR
  rw [if_neg (by simp [he])]
  split
  · split
    · exact .inl rfl
    · exact .inr rfl
  · exact .inr rfl
theorem chk_found {c : Cd} (h : VC c) (he : codeE c = 0) {i j : Nat} (hij : i < j) (hj : j < c.2.2.length) {d : Int} {v : List Int} (hc : chkR c (i : Int) (j : Int) d v = 0) :
    ((clsA c).any fun x => decide (x.1 = (i : Int)) && decide (x.2.1 = (j : Int))) = true ∧ (bindsL c d v).getD i false = true ∧ (bindsL c d v).getD j false = true := by
  unfold chkR at hc
  rw [if_neg (by simp [he])] at hc
  split at hc
  · rename_i hp
    split at hc
    · rename_i hb
      rw [Int.toNat_natCast, Int.toNat_natCast] at hb
      obtain ⟨b1, b2, b3⟩ := hb
      unfold chkP at hp
      simp only [Bool.and_eq_true, decide_eq_true_eq] at hp
      obtain ⟨_, ⟨d0, d1⟩, _⟩ := hp
      obtain ⟨e, he, hd⟩ := day_near h d0 d1
      rw [clA_day i j hd] at b1
      obtain ⟨x, hx⟩ := clsD_ex he b1
      obtain ⟨x1, x2, _⟩ := clsD_mem hx
      refine ⟨?_, b2, b3⟩
      rw [List.any_eq_true]
      exact ⟨x, clsA_mem.2 ⟨i, j, hij, hj, hx⟩, by simp [x1, x2]⟩
    · cases hc
  · cases hc
theorem clsA_few {c : Cd} (h : c.2.2.length < 2) : clsA c = [] := by
  rw [List.eq_nil_iff_forall_not_mem]
  intro x hx
  obtain ⟨i, j, h1, h2, _⟩ := clsA_mem.1 hx
  omega
theorem G7_true (x : Cd × ((Int × (Int × Int)) × List Int)) : G7 LF x = some true := by
  obtain ⟨c, ⟨i0, j0, d0⟩, p⟩ := x
  unfold G7
  simp only [show G41 LF (c.1, (c.2.1, c.2.2)) = _ from G41_clashes c, show G32 LF (c.1, (c.2.1, c.2.2)) = some (codeE c) from G32_code c, Option.bind_some]
  by_cases he : codeE c = 0
  · have h := VC.of he
    have hfl := h.fl
    have hll := h.ll
    simp only [he, if_true, decide_true, Bool.not_true, cond_false, cond_true]
    by_cases h2 : c.2.2.length < 2
    · simp only [decide_eq_true (show (c.2.2.length : Int) < 2 by omega), cond_true, clsA_few h2, List.length_nil, sane_true, Option.bind_some]
      rfl
    · have hvi : In c.2.1 (pickV c.2.1 p) := pickV_in (fun x hx => (h.spans x hx).2.1) p
      have hcl : (clsA c).length < LF := by have := clsA_len h; show (clsA c).length < 9223372036854775808; omega
      have w1 : w64 ((c.2.2.length : Int) - 2) = (c.2.2.length : Int) - 2 := w64_in (by omega)
      have w2 : w64 ((c.2.2.length : Int) - 1) = (c.2.2.length : Int) - 1 := w64_in (by omega)
      obtain ⟨i1, i2⟩ := pkI_in (lo := 0) (hi := (c.2.2.length : Int) - 2) (by omega) i0
      have hgi := G43_pick (lo := 0) (hi := (c.2.2.length : Int) - 2) (by omega) (by omega) (by omega) i0
      generalize pkI 0 ((c.2.2.length : Int) - 2) i0 = I at i1 i2 hgi
      obtain ⟨i, rfl⟩ := Int.eq_ofNat_of_zero_le i1
      have w3 : w64 ((i : Int) + 1) = (i : Int) + 1 := w64_in (by omega)
      obtain ⟨j1, j2⟩ := pkI_in (lo := (i : Int) + 1) (hi := (c.2.2.length : Int) - 1) (by omega) j0
      have hgj := G43_pick (lo := (i : Int) + 1) (hi := (c.2.2.length : Int) - 1) (by omega) (by omega) (by omega) j0
      generalize pkI ((i : Int) + 1) ((c.2.2.length : Int) - 1) j0 = J at j1 j2 hgj
      obtain ⟨j, rfl⟩ := Int.eq_ofNat_of_zero_le (show 0 ≤ J by omega)
      obtain ⟨q0, q1⟩ := pkI_in (lo := 0) (hi := 100000) (by omega) d0
      have hgd := G43_pick (lo := 0) (hi := 100000) (by omega) (by omega) (by omega) d0
      generalize pkI 0 100000 d0 = d at q0 q1 hgd
      have hgv := G39_picks c.2.1 p (by omega) h.spans
      generalize pickV c.2.1 p = v at hvi hgv
      have hbl : (bindsL c d v).length = c.2.2.length := bindsL_len _ _ _
      simp only [decide_eq_false (show ¬ (c.2.2.length : Int) < 2 by omega), cond_false, w1, hgi, Option.bind_some, w3, w2, hgj, hgd, hgv, show ∀ i j d v, G42 LF ((c.1, (c.2.1, c.2.2)), (i, (j, (d, v)))) = _ from G42_chk c, show G40 LF ((c.1, (c.2.1, c.2.2)), (d, v)) = some (bindsL c d v) from G40_binds h hvi.1]
      refine (iter_scan (fun (_ : Cl) _ => none) (clsA c) (some true) ?_ ?_ hcl).trans ?_
      · intro k x hx _
        have hk := lt_of_get hx
        simp only [dlt hk, cond_true, getI_nat hx, Option.bind_some, chk_listed h (List.mem_of_getElem? hx) he, decide_true, Bool.not_true, cond_false, succ_W (Nat.lt_of_le_of_lt hk hcl)]
      · intro _
        simp only [dnlt, cond_false]
        refine congrArg outR (any_loop (clsA c) (fun x => decide (x.1 = (i : Int)) && decide (x.2.1 = (j : Int))) (some true) ?_ ?_ hcl)
        · intro k x b hx
          have hk := lt_of_get hx
          simp only [dlt hk, cond_true, getI_nat hx, Option.bind_some, succ_W (Nat.lt_of_le_of_lt hk hcl)]
          cases decide (x.1 = (i : Int)) <;> cases decide (x.2.1 = (j : Int)) <;> cases b <;> rfl
        · simp only [dnlt, cond_false]
          refine congrArg outR ?_
          rcases chkR_val he (i : Int) (j : Int) d v with hz | hz
          · obtain ⟨c1, c2, c3⟩ := chk_found h he (by omega) (by omega) hz
            rw [getI_getD (l := bindsL c d v) (n := i) false (by omega), getI_getD (l := bindsL c d v) (n := j) false (by omega)]
            simp only [hz, c1, c2, c3, decide_true, Bool.not_true, cond_false, cond_true, Option.bind_some, sane_true]
          · simp only [hz, decide_true, show decide ((42 : Int) = 0) = false by rfl, Bool.not_false, cond_true, cond_false, Option.bind_some, sane_true]
      · have : ∀ (l : List Cl) k, scan (fun (_ : Cl) _ => (none : Option Bool)) l k = none := by
          intro l
          induction l with
          | nil => intro _; rfl
          | cons x l ih => intro k; exact ih _
        simp only [this]
  · simp only [he, if_false, decide_false, Bool.not_false, cond_true, sane_true, Option.bind_some]
end Go.K
namespace Go.Sx
open Go.Sl Go.Shelf Go.Proofs
variable {P : Program} {ρ : Ren} {h : Zone} {L : List Atom} {w : World} {E : TypeId} {o : Option Addr} {cap : Nat} {xs : List Int}
theorem rows_int : ∀ {xs : List Int} {cs : List Value}, Rows Ty.int h cs xs ↔ cs = xs.map (Value.int .i64)
  | [], cs => by simp [Rows]
  | x :: xs, cs => by
    constructor
    · rintro ⟨c, d, rfl, hc, hd⟩
      have hc' : c = [.int .i64 x] := hc
      rw [hc', (rows_int (xs := xs)).1 hd]
      rfl
    · intro e
      subst e
      exact ⟨[.int .i64 x], xs.map (Value.int .i64), rfl, rfl, rows_int.2 rfl⟩
theorem own_ints {cur : Array Value} (hr : Rows Ty.int h (cur.toList.take (xs.length * Ty.int.size)) xs) : cur.toList.take xs.length = xs.map (Value.int .i64) := by
  have := rows_int.1 hr
  simpa [Ty.int] using this
theorem St.ownPut (hS : St h L w) {j : Nat} {g : Nat} {ys : List Int} (hj : L[j]? = some (ownS Ty.int E (some ⟨g, 0, none⟩) cap xs)) (hl : ys.length = xs.length) (n : Nat) (os : Array Obj) :
    St h (L.set j (ownS Ty.int E (some ⟨g, 0, none⟩) cap ys)) (Sort.grow (Sort.putRow (Value.int .i64) (Sort.ahead w n) g 0 ys.toArray) os) := by
  obtain ⟨x, hx, hxw, dx, hset⟩ := hS.focus hj
  rcases hx with ⟨e, _⟩ | ⟨g', cur, e, rfl, h1, h2, h3, h4⟩
  · cases e
  · have hg : g' = g := by cases e; rfl
    subst hg
    have hb : w.heap[g']? = some (.cells cur E (0, 0)) := Hp.one_le.1 hxw
    have hsz : cur.size = cap := by simpa [Ty.int] using h3
    have hlen : ys.length ≤ cur.size := by omega
    have hgr := grownBy_sortedI (w := w) (g := g') (n := n) (os := os) ys.toArray
    refine hset _ (ownS Ty.int E (some ⟨g', 0, none⟩) cap ys) (Hp.one g' (.cells (Sort.putCells (Value.int .i64) 0 ys.toArray cur) E (0, 0)))
      (.inr ⟨g', _, rfl, rfl, by omega, h2, by simp [Sort.putCells, h3], ?_⟩) (Hp.one_le.2 (heap_sortedI ys.toArray hb)) (fun b hb' hn => hgr.block b hb' fun e => ?_) (fun b o' e => .inr ?_) hgr.os hgr.tape hgr.output
    · have := take_putCellsI cur ys hlen
      have e1 : ys.length * Ty.int.size = ys.length := by simp [Ty.int]
      rw [e1, this]
      exact rows_int.2 rfl
    · cases e; simp [Hp.one] at hn
    · unfold Hp.one at e ⊢
      split at e
      · rename_i hbg; simp [hbg]
      · cases e
theorem sortOwn (Ly : Lays.n189 P ρ) (hS : St h L w) {j : Nat} (hj : L[j]? = some (ownS Ty.int E o cap xs)) (hsz : xs.length ≤ 1099511627776) :
    Calls P (ρ.f 189) #[.slice o xs.length cap] w fun e w' => ∃ v, e = .returned v ∧ v = .tuple #[] ∧ St h (L.set j (ownS Ty.int E o cap (sortL xs))) w' := by
  obtain ⟨x, hx, hxw, dx, hset⟩ := hS.focus hj
  rcases hx with ⟨rfl, rfl, rfl, rfl⟩ | ⟨g, cur, rfl, rfl, h1, h2, h3, h4⟩
  · refine (Any.slices_Sort_int_none Ly none 0 w).mono ?_
    rintro e w' ⟨rfl, rfl⟩
    refine ⟨_, rfl, rfl, ?_⟩
    have : sortL [] = [] := rfl
    rw [this]
    exact hset w' (ownS Ty.int E none 0 []) Hp.nil (.inl ⟨rfl, rfl, rfl, rfl⟩) (Hp.nil_le _) (fun _ _ _ => rfl) (fun b o e => by simp [Hp.nil] at e) rfl rfl rfl
  · have hb : w.heap[g]? = some (.cells cur E (0, 0)) := Hp.one_le.1 hxw
    have hH := holds_of_blockI hb (own_ints h4)
    refine (Any.slices_Sort_int Ly g 0 cap xs w hH (Array.getElem?_eq_some_iff.1 hb).1 (by omega)).mono ?_
    rintro e w' ⟨rfl, n, os, rfl⟩
    rw [sortL_eq]
    exact ⟨_, rfl, rfl, St.ownPut hS hj (sortL_len xs).symm n os⟩
theorem compactOwn (Ly : SlLaysN.n43 P ρ) (hS : St h L w) {j : Nat} (hj : L[j]? = some (ownS Ty.int E o cap xs)) (hsz : xs.length ≤ 1099511627776) :
    Calls P (ρ.f 43) #[.slice o xs.length cap] w fun e w' => ∃ v, e = .returned v ∧ v = .slice o (compL xs).length cap ∧ St h (L.set j (ownS Ty.int E o cap (compL xs))) w' := by
  obtain ⟨x, hx, hxw, dx, hset⟩ := hS.focus hj
  rcases hx with ⟨rfl, rfl, rfl, rfl⟩ | ⟨g, cur, rfl, rfl, h1, h2, h3, h4⟩
  · refine (AnyG.slices_Compact_int_empty Ly none 0 w).mono ?_
    rintro e w' ⟨rfl, rfl⟩
    have hc : compL [] = [] := by simp [compL, Lib.compact, Lib.compactUpTo]
    rw [hc]
    exact ⟨_, rfl, rfl, hset w' (ownS Ty.int E none 0 []) Hp.nil (.inl ⟨rfl, rfl, rfl, rfl⟩) (Hp.nil_le _) (fun _ _ _ => rfl) (fun b o e => by simp [Hp.nil] at e) rfl rfl rfl⟩
  · have hb : w.heap[g]? = some (.cells cur E (0, 0)) := Hp.one_le.1 hxw
    have hH := holds_of_blockI hb (own_ints h4)
    refine (AnyG.slices_Compact_int Ly g 0 cap xs w hH (by omega) h1).mono ?_
    rintro e w' ⟨rfl, q, rfl⟩
    have hle : (Lib.compact xs).length ≤ xs.length := by
      unfold Lib.compact Lib.compactUpTo
      rw [List.length_map]
      exact Nat.le_trans (List.length_filter_le _ _) (by simp)
    have hlen : (Lib.compact xs ++ List.replicate (xs.length - (Lib.compact xs).length) 0).length = xs.length := by
      rw [List.length_append, List.length_replicate]; omega
    have h5 := St.ownPut hS hj hlen q #[]
    rw [Sort.grow_empty] at h5
    refine ⟨_, rfl, rfl, ?_⟩
    have hlt := (List.getElem?_eq_some_iff.1 hj).1
    have h6 := h5.ownTake (j := j) (T := Ty.int) (E := E) (o := some ⟨g, 0, none⟩) (cap := cap) (xs := Lib.compact xs ++ List.replicate (xs.length - (Lib.compact xs).length) 0) (by simp [hlt]) (n := (Lib.compact xs).length) (by rw [hlen]; exact hle)
    have h7 : (Lib.compact xs ++ List.replicate (xs.length - (Lib.compact xs).length) 0).take (Lib.compact xs).length = compL xs := by simp [compL]
    rw [h7] at h6
    simpa using h6
def lenC {α : Type} (xs : List α) : Option Unit := if xs.length ≤ 1099511627776 then some () else none
theorem lenC_spec {α : Type} {xs : List α} {u : Unit} (e : lenC xs = some u) : xs.length ≤ 1099511627776 := by
  unfold lenC at e
  split at e
  · assumption
  · cases e
end Go.Sx
set_option linter.unusedVariables false
set_option linter.unusedSimpArgs false
set_option maxRecDepth 100000
namespace Go.K
open Go.Sl Go.Sx Go.Proofs Go.Shelf Go.RowKit
variable {P : Program} {ρ' : Ren} {E : Env}
theorem foldl_sum (k : Nat) : ∀ (xs : List ByteArray) (n : Nat), xs.foldl (fun n x => n + x.size + k) n = n + (xs.map fun x => x.size + k).sum
  | [], n => by simp
  | x :: xs, n => by rw [List.foldl_cons, foldl_sum k xs]; simp; omega
theorem join_data (sep : ByteArray) : ∀ (xs : List ByteArray) (r : ByteArray), (xs.foldl (fun r y => r ++ sep ++ y) r).data.toList = r.data.toList ++ (xs.map fun y => sep.data.toList ++ y.data.toList).flatten
  | [], r => by simp
  | y :: xs, r => by rw [List.foldl_cons, join_data sep xs]; simp [ByteArray.data_append]
theorem size_len' (s : ByteArray) : s.size = s.data.toList.length := by simp
theorem lens_eq : ∀ xs : List ByteArray, Lib.lens (xs.map (·.data.toList)) = (xs.map (·.size)).sum
  | [] => rfl
  | x :: xs => by
    have := lens_eq xs
    simp only [Lib.lens, List.map_cons, List.flatten_cons, List.length_append, List.sum_cons] at this ⊢
    rw [this, size_len']
theorem sum_add (k : Nat) : ∀ xs : List ByteArray, (xs.map fun x => x.size + (k + 1)).sum = (xs.map (·.size)).sum + k * xs.length + xs.length
  | [] => by simp
  | x :: xs => by
    simp only [List.map_cons, List.sum_cons, sum_add k xs, List.length_cons, Nat.mul_add]; omega
theorem joinC_lib {sep : ByteArray} {xs : List ByteArray} {y : ByteArray} (h : joinC sep xs = some y) : y = ⟨(Lib.join (xs.map (·.data.toList)) sep.data.toList).toArray⟩ ∧ (Lib.join (xs.map (·.data.toList)) sep.data.toList).length ≤ 140737488355328 ∧ xs.length ≤ 140737488355328 := by
  unfold joinC at h
  split at h
  · rename_i hc
    rw [foldl_sum, sum_add] at hc
    have hll := lens_eq xs
    cases xs with
    | nil =>
      simp only [Option.some.injEq] at h
      subst h
      exact ⟨rfl, by simp [Lib.join_nil], by simp⟩
    | cons x xs =>
      simp only [Option.some.injEq] at h
      have hj : (Lib.join ((x :: xs).map (·.data.toList)) sep.data.toList) = y.data.toList := by
        rw [← h, join_data, List.map_cons, Lib.join_cons]
        congr 1
        unfold Lib.joinTail
        rw [List.map_map]
        rfl
      have hlen := Lib.join_length x.data.toList (xs.map (·.data.toList)) sep.data.toList
      rw [List.map_cons] at hj hll
      simp only [List.length_cons, List.length_map] at hc hlen
      rw [hll] at hlen
      refine ⟨?_, ?_, ?_⟩
      · rw [List.map_cons, hj]
      · rw [List.map_cons, hlen]
        have hs : sep.data.toList.length = sep.size := (size_len' sep).symm
        rw [hs]
        have := Nat.mul_le_mul (Nat.le_refl sep.size) (show xs.length ≤ xs.length + 1 by omega)
        omega
      · simp only [List.length_cons]; omega
  · cases h
theorem join_valid (Ly : Lays.n156 P ρ') (X : Builder.Extra P ρ') : Valid E P (ρ'.f 156) [aSs, aS] [aS] fun x => joinC x.2 x.1 := by
  intro x y hx z L w vs hz hrep hs
  obtain ⟨v, r, rfl, hv, u, rfl, hu⟩ := hrep
  have h2 := rep_str hu
  subst h2
  obtain ⟨rfl, hl, hn⟩ := joinC_lib hx
  have hv' := rep1 hv
  obtain ⟨o, c, e1, hsl⟩ := hv'
  simp only [List.cons.injEq, and_true] at e1
  subst e1
  have fin : ∀ (o : Option Addr), (o = none → x.1 = []) → (∀ a, o = some a → ∀ j s, x.1[j]? = some s → z.cell? (a.add j) = some (.string s)) → x.1.length ≤ c → Calls P (ρ'.f 156) #[.slice o x.1.length c, .string x.2] w fun e w' => e = .returned (.string ⟨(Lib.join (x.1.map (·.data.toList)) x.2.data.toList).toArray⟩) ∧ Below w.heap.size w w' := by
    intro o h0 h1 hcap
    cases hx1 : x.1 with
    | nil =>
      simp only [List.length_nil]
      refine (Any.strings_Join_none Ly X o c x.2 w).mono fun e w' ⟨he, hw⟩ => ⟨he, hw ▸ Below.refl _ _⟩
    | cons s0 ss =>
      cases o with
      | none => rw [h0 rfl] at hx1; cases hx1
      | some a =>
        have hc0 := h1 a rfl 0 s0 (by rw [hx1]; rfl)
        have hspot : a.spot = none ∧ (a.add 0) = a := by
          constructor
          · unfold Zone.cell? at hc0
            split at hc0
            · split at hc0
              · cases hc0
              · rename_i hsp
                rw [add_zero' a] at hsp
                cases hs : a.spot with
                | none => rfl
                | some q => rw [hs] at hsp; simp at hsp
            · cases hc0
          · exact add_zero' a
        obtain ⟨bk, off, sp⟩ := a
        obtain ⟨hsp, _⟩ := hspot
        simp only at hsp
        subst hsp
        have hcell : ∀ (j : Nat) s, (s0 :: ss)[j]? = some s → w.cell? ⟨bk, off + j, none⟩ = some (.string s) := fun j s hj => by
          have := h1 _ rfl j s (by rw [hx1]; exact hj)
          have := hs.cell this
          have ha : (⟨bk, off, none⟩ : Addr).add j = ⟨bk, off + j, none⟩ := by unfold Addr.add; split <;> simp_all
          rwa [ha] at this
        have hbk : bk < w.heap.size := by
          have := hcell 0 s0 rfl
          unfold World.cell? at this
          cases hb : w.heap[bk]? with
          | none => rw [hb] at this; cases this
          | some ob => exact (Array.getElem?_eq_some_iff.1 hb).1
        rw [hx1] at hl hn hcap
        exact Any.strings_Join Ly X bk off c (s0 :: ss) x.2 w hcell hbk hn hcap hl
  refine (fin o (fun e => (hsl.hnil e).1) (fun a e j s hj => ?_) hsl.hcap).mono ?_
  · obtain ⟨cs, hr, hc⟩ := hsl.hat a e j s hj
    have hr' : cs = [.string s] := hr
    have := hc 0 (.string s) (by rw [hr']; rfl)
    have e1 : j * (TC.str.ty).size = j := by show j * 1 = j; omega
    rw [e1] at this
    rwa [add_zero'] at this
  · rintro en w' ⟨rfl, hb⟩
    exact ⟨_, z, rfl, Zone.le_refl _, ⟨[.string _], rfl, _, rfl, .inr ⟨rfl, rfl⟩⟩, hs.of_below hb⟩
end Go.K
set_option linter.unusedVariables false
set_option linter.unusedSimpArgs false
set_option maxRecDepth 100000
namespace Go.Proofs
open Go.Shelf Go.RowKit Go.Lib
theorem Tryz.isBlank (W : World) (r : Nat) : FnGives Tryz.prog 158 #[] #[encR r] (.bool (Nat.beq r 32)) W := by
  unfold FnGives
  have e : Nat.beq r 32 = decide ((r : Int) = 32) := by
    cases h : Nat.beq r 32 with
    | true => have := Nat.eq_of_beq_eq_true h; simp; omega
    | false => have := Nat.ne_of_beq_eq_false h; simp; omega
  rw [e]
  go_enter Tryz.func158, Tryz.ntmps158
  go_wp2
  go_ret
  exact ⟨rfl, 0, rfl⟩
theorem Tryz.extraB : Builder.Extra Tryz.prog Tryz.join_ren := {
  sizeBuilder := by kernel_rfl
  liesBuilder := by kernel_rfl
  t5 := Tryz.underlying5
  a5 := Tryz.isAgg5
  z5 := Tryz.sizeOf5
  v5 := Tryz.zeroValue5
  infoByte := by kernel_rfl
  cellsByte := by kernel_rfl
  sizeByte := by kernel_rfl
  neB5 := by decide }
end Go.Proofs
namespace Go.K
open Go.Sl Go.Sx Go.Proofs Go.Shelf Go.RowKit
theorem mixedT : Tryz.prog.follows .mixedOrders = true := by kernel_rfl
abbrev HC (E : Env) (C : FuncId → Option Con) : Prop := ∀ L, envA E ∈ L → ∀ g con, C g = some con → ConOk Tryz.prog L con g
theorem sort_row : RowOk Tryz.prog 182 .i sortL := ⟨fun xs => (sortL_len xs).symm, fun hS hj hl => sortOwn Tryz.sortI hS hj hl⟩
theorem comp_cut : CutOk Tryz.prog 183 .i compL := fun hS hj hl => compactOwn Tryz.compactI hS hj hl
theorem ct_ok (lf : Nat) : HC (envT Tryz.prog 0) (CT Tryz.prog lf) := by
  intro L hL
  unfold CT
  refine extC_ok (extC_ok (extC_ok (extC_ok (extC_ok (extC_ok (extC_ok (extC_ok (fun g con h => by cases h) ?a) ?b) ?c) ?d) ?e) ?f) ?g) ?h
  case a => exact dataCon_ok (itoa_valid Tryz.itoa) hL
  case b => exact dataCon_ok (trim_valid Tryz.trim (by kernel_rfl)) hL
  case c => exact rowCon_ok sort_row
  case d => exact cutCon_ok comp_cut
  case e => exact dataCon_ok (split_valid Tryz.split (by kernel_rfl)) hL
  case f => exact atoiCon_ok Tryz.atoi
  case g => exact fieldsCon_ok Tryz.fields (enters_of Tryz.func158 (by kernel_rfl) rfl) (fun W x => Tryz.isBlank W x) (by kernel_rfl) (by kernel_rfl)
  case h => exact dataCon_ok (join_valid Tryz.join Tryz.extraB) hL
end Go.K
set_option linter.unusedVariables false
set_option maxRecDepth 100000
namespace Go.K
open Go.Sl Go.Sx Go.Proofs
theorem kcCT : HC (envT Tryz.prog 0) (CT Tryz.prog LF) := ct_ok LF
theorem kc91 : HC (envT Tryz.prog 0) (C91 Tryz.prog LF) := fun L hL => extC_ok (kcCT L hL) (dataCon_ok (fnF_valid mixedT kcCT 91 _ _ LF) hL)
theorem kc223 : HC (envT Tryz.prog 0) (C223 Tryz.prog LF) := fun L hL => extC_ok (kc91 L hL) (dataCon_ok (fnF_valid mixedT kc91 223 _ _ LF) hL)
theorem kc180 : HC (envT Tryz.prog 0) (C180 Tryz.prog LF) := fun L hL => extC_ok (kc223 L hL) (dataCon_ok (fnF_valid mixedT kc223 180 _ _ LF) hL)
theorem kc165 : HC (envT Tryz.prog 0) (C165 Tryz.prog LF) := fun L hL => extC_ok (kc180 L hL) (dataCon_ok (fnF_valid mixedT kc180 165 _ _ LF) hL)
theorem kc94 : HC (envT Tryz.prog 0) (C94 Tryz.prog LF) := fun L hL => extC_ok (kc165 L hL) (dataCon_ok (fnF_valid mixedT kc165 94 _ _ LF) hL)
theorem kc158 : HC (envT Tryz.prog 0) (C158 Tryz.prog LF) := fun L hL => extC_ok (kc94 L hL) (dataCon_ok (fnF_valid mixedT kc94 158 _ _ LF) hL)
theorem kc86 : HC (envT Tryz.prog 0) (C86 Tryz.prog LF) := fun L hL => extC_ok (kc158 L hL) (dataCon_ok (fnF_valid mixedT kc158 86 _ _ LF) hL)
theorem kc244 : HC (envT Tryz.prog 0) (C244 Tryz.prog LF) := fun L hL => extC_ok (kc86 L hL) (dataCon_ok (fnF_valid mixedT kc86 244 _ _ LF) hL)
theorem kc215 : HC (envT Tryz.prog 0) (C215 Tryz.prog LF) := fun L hL => extC_ok (kc244 L hL) (refCon_ok (fnR_valid mixedT kc244 215 _ _ _ _ _ _ LF) hL)
theorem kc216 : HC (envT Tryz.prog 0) (C216 Tryz.prog LF) := fun L hL => extC_ok (kc215 L hL) (refCon_ok (fnR_valid mixedT kc215 216 _ _ _ _ _ _ LF) hL)
theorem kc162 : HC (envT Tryz.prog 0) (C162 Tryz.prog LF) := fun L hL => extC_ok (kc216 L hL) (refCon_ok (recR_valid mixedT kc216 (fun _ => rfl) (fun _ _ => rfl) LF) hL)
theorem kc17 : HC (envT Tryz.prog 0) (C17 Tryz.prog LF) := fun L hL => extC_ok (kc162 L hL) (dataCon_ok (fnF_valid mixedT kc162 17 _ _ LF) hL)
theorem kc110 : HC (envT Tryz.prog 0) (C110 Tryz.prog LF) := fun L hL => extC_ok (kc17 L hL) (dataCon_ok (fnF_valid mixedT kc17 110 _ _ LF) hL)
theorem kc190 : HC (envT Tryz.prog 0) (C190 Tryz.prog LF) := fun L hL => extC_ok (kc110 L hL) (dataCon_ok (fnF_valid mixedT kc110 190 _ _ LF) hL)
theorem kc188 : HC (envT Tryz.prog 0) (C188 Tryz.prog LF) := fun L hL => extC_ok (kc190 L hL) (dataCon_ok (fnF_valid mixedT kc190 188 _ _ LF) hL)
theorem kc189 : HC (envT Tryz.prog 0) (C189 Tryz.prog LF) := fun L hL => extC_ok (kc188 L hL) (dataCon_ok (fnF_valid mixedT kc188 189 _ _ LF) hL)
theorem kc191 : HC (envT Tryz.prog 0) (C191 Tryz.prog LF) := fun L hL => extC_ok (kc189 L hL) (dataCon_ok (fnF_valid mixedT kc189 191 _ _ LF) hL)
theorem kc192 : HC (envT Tryz.prog 0) (C192 Tryz.prog LF) := fun L hL => extC_ok (kc191 L hL) (dataCon_ok (fnF_valid mixedT kc191 192 _ _ LF) hL)
theorem kc193 : HC (envT Tryz.prog 0) (C193 Tryz.prog LF) := fun L hL => extC_ok (kc192 L hL) (dataCon_ok (fnF_valid mixedT kc192 193 _ _ LF) hL)
theorem kc194 : HC (envT Tryz.prog 0) (C194 Tryz.prog LF) := fun L hL => extC_ok (kc193 L hL) (dataCon_ok (fnF_valid mixedT kc193 194 _ _ LF) hL)
theorem kc195 : HC (envT Tryz.prog 0) (C195 Tryz.prog LF) := fun L hL => extC_ok (kc194 L hL) (dataCon_ok (fnF_valid mixedT kc194 195 _ _ LF) hL)
theorem kc131 : HC (envT Tryz.prog 0) (C131 Tryz.prog LF) := fun L hL => extC_ok (kc195 L hL) (dataCon_ok (fnF_valid mixedT kc195 131 _ _ LF) hL)
theorem kc147 : HC (envT Tryz.prog 0) (C147 Tryz.prog LF) := fun L hL => extC_ok (kc131 L hL) (dataCon_ok (fnF_valid mixedT kc131 147 _ _ LF) hL)
theorem kc36 : HC (envT Tryz.prog 0) (C36 Tryz.prog LF) := fun L hL => extC_ok (kc147 L hL) (dataCon_ok (fnF_valid mixedT kc147 36 _ _ LF) hL)
theorem kc130 : HC (envT Tryz.prog 0) (C130 Tryz.prog LF) := fun L hL => extC_ok (kc36 L hL) (dataCon_ok (fnF_valid mixedT kc36 130 _ _ LF) hL)
theorem kc116 : HC (envT Tryz.prog 0) (C116 Tryz.prog LF) := fun L hL => extC_ok (kc130 L hL) (dataCon_ok (fnF_valid mixedT kc130 116 _ _ LF) hL)
theorem kc181 : HC (envT Tryz.prog 0) (C181 Tryz.prog LF) := fun L hL => extC_ok (kc116 L hL) (dataCon_ok (fnF_valid mixedT kc116 181 _ _ LF) hL)
theorem kc115 : HC (envT Tryz.prog 0) (C115 Tryz.prog LF) := fun L hL => extC_ok (kc181 L hL) (dataCon_ok (fnF_valid mixedT kc181 115 _ _ LF) hL)
theorem kc106 : HC (envT Tryz.prog 0) (C106 Tryz.prog LF) := fun L hL => extC_ok (kc115 L hL) (dataCon_ok (fnF_valid mixedT kc115 106 _ _ LF) hL)
theorem kc174 : HC (envT Tryz.prog 0) (C174 Tryz.prog LF) := fun L hL => extC_ok (kc106 L hL) (dataCon_ok (fnF_valid mixedT kc106 174 _ _ LF) hL)
theorem kc125 : HC (envT Tryz.prog 0) (C125 Tryz.prog LF) := fun L hL => extC_ok (kc174 L hL) (dataCon_ok (fnF_valid mixedT kc174 125 _ _ LF) hL)
theorem kc133 : HC (envT Tryz.prog 0) (C133 Tryz.prog LF) := fun L hL => extC_ok (kc125 L hL) (dataCon_ok (fnF_valid mixedT kc125 133 _ _ LF) hL)
theorem kc104 : HC (envT Tryz.prog 0) (C104 Tryz.prog LF) := fun L hL => extC_ok (kc133 L hL) (dataCon_ok (fnF_valid mixedT kc133 104 _ _ LF) hL)
theorem kc266 : HC (envT Tryz.prog 0) (C266 Tryz.prog LF) := fun L hL => extC_ok (kc104 L hL) (dataCon_ok (fnF_valid mixedT kc104 266 _ _ LF) hL)
theorem kc199 : HC (envT Tryz.prog 0) (C199 Tryz.prog LF) := fun L hL => extC_ok (kc266 L hL) (panCon_ok (fnP_valid mixedT kc266 199 _ _ _ _ LF) hL)
theorem kc198 : HC (envT Tryz.prog 0) (C198 Tryz.prog LF) := fun L hL => extC_ok (kc199 L hL) (refCon_ok (fnR_valid mixedT kc199 198 _ _ _ _ _ _ LF) hL)
theorem kc200 : HC (envT Tryz.prog 0) (C200 Tryz.prog LF) := fun L hL => extC_ok (kc198 L hL) (refCon_ok (fnR_valid mixedT kc198 200 _ _ _ _ _ _ LF) hL)
theorem kc239 : HC (envT Tryz.prog 0) (C239 Tryz.prog LF) := fun L hL => extC_ok (kc200 L hL) (refCon_ok (fnR_valid mixedT kc200 239 _ _ _ _ _ _ LF) hL)
theorem kc201 : HC (envT Tryz.prog 0) (C201 Tryz.prog LF) := fun L hL => extC_ok (kc239 L hL) (refCon_ok (fnR_valid mixedT kc239 201 _ _ _ _ _ _ LF) hL)
theorem kc240 : HC (envT Tryz.prog 0) (C240 Tryz.prog LF) := fun L hL => extC_ok (kc201 L hL) (refCon_ok (fnR_valid mixedT kc201 240 _ _ _ _ _ _ LF) hL)
theorem kc202 : HC (envT Tryz.prog 0) (C202 Tryz.prog LF) := fun L hL => extC_ok (kc240 L hL) (refCon_ok (fnR_valid mixedT kc240 202 _ _ _ _ _ _ LF) hL)
theorem kc93 : HC (envT Tryz.prog 0) (C93 Tryz.prog LF) := fun L hL => extC_ok (kc202 L hL) (dataCon_ok (fnF_valid mixedT kc202 93 _ _ LF) hL)
theorem kc92 : HC (envT Tryz.prog 0) (C92 Tryz.prog LF) := fun L hL => extC_ok (kc93 L hL) (dataCon_ok (fnF_valid mixedT kc93 92 _ _ LF) hL)
theorem kc29 : HC (envT Tryz.prog 0) (C29 Tryz.prog LF) := fun L hL => extC_ok (kc92 L hL) (dataCon_ok (fnF_valid mixedT kc92 29 _ _ LF) hL)
theorem kc112 : HC (envT Tryz.prog 0) (C112 Tryz.prog LF) := fun L hL => extC_ok (kc29 L hL) (dataCon_ok (fnF_valid mixedT kc29 112 _ _ LF) hL)
theorem kc113 : HC (envT Tryz.prog 0) (C113 Tryz.prog LF) := fun L hL => extC_ok (kc112 L hL) (dataCon_ok (fnF_valid mixedT kc112 113 _ _ LF) hL)
theorem kc114 : HC (envT Tryz.prog 0) (C114 Tryz.prog LF) := fun L hL => extC_ok (kc113 L hL) (dataCon_ok (fnF_valid mixedT kc113 114 _ _ LF) hL)
theorem kc31 : HC (envT Tryz.prog 0) (C31 Tryz.prog LF) := fun L hL => extC_ok (kc114 L hL) (dataCon_ok (fnF_valid mixedT kc114 31 _ _ LF) hL)
theorem kc62 : HC (envT Tryz.prog 0) (C62 Tryz.prog LF) := fun L hL => extC_ok (kc31 L hL) (dataCon_ok (fnF_valid mixedT kc31 62 _ _ LF) hL)
theorem kc61 : HC (envT Tryz.prog 0) (C61 Tryz.prog LF) := fun L hL => extC_ok (kc62 L hL) (dataCon_ok (fnF_valid mixedT kc62 61 _ _ LF) hL)
theorem kc222 : HC (envT Tryz.prog 0) (C222 Tryz.prog LF) := fun L hL => extC_ok (kc61 L hL) (dataCon_ok (fnF_valid mixedT kc61 222 _ _ LF) hL)
theorem kc173 : HC (envT Tryz.prog 0) (C173 Tryz.prog LF) := fun L hL => extC_ok (kc222 L hL) (dataCon_ok (fnF_valid mixedT kc222 173 _ _ LF) hL)
theorem kc23 : HC (envT Tryz.prog 0) (C23 Tryz.prog LF) := fun L hL => extC_ok (kc173 L hL) (dataCon_ok (fnF_valid mixedT kc173 23 _ _ LF) hL)
theorem kc24 : HC (envT Tryz.prog 0) (C24 Tryz.prog LF) := fun L hL => extC_ok (kc23 L hL) (dataCon_ok (fnF_valid mixedT kc23 24 _ _ LF) hL)
theorem kc127 : HC (envT Tryz.prog 0) (C127 Tryz.prog LF) := fun L hL => extC_ok (kc24 L hL) (dataCon_ok (fnF_valid mixedT kc24 127 _ _ LF) hL)
theorem kc132 : HC (envT Tryz.prog 0) (C132 Tryz.prog LF) := fun L hL => extC_ok (kc127 L hL) (dataCon_ok (fnF_valid mixedT kc127 132 _ _ LF) hL)
theorem kc47 : HC (envT Tryz.prog 0) (C47 Tryz.prog LF) := fun L hL => extC_ok (kc132 L hL) (dataCon_ok (fnF_valid mixedT kc132 47 _ _ LF) hL)
theorem kc49 : HC (envT Tryz.prog 0) (C49 Tryz.prog LF) := fun L hL => extC_ok (kc47 L hL) (dataCon_ok (fnF_valid mixedT kc47 49 _ _ LF) hL)
theorem kc167 : HC (envT Tryz.prog 0) (C167 Tryz.prog LF) := fun L hL => extC_ok (kc49 L hL) (dataCon_ok (fnF_valid mixedT kc49 167 _ _ LF) hL)
theorem kc246 : HC (envT Tryz.prog 0) (C246 Tryz.prog LF) := fun L hL => extC_ok (kc167 L hL) (dataCon_ok (fnF_valid mixedT kc167 246 _ _ LF) hL)
theorem kc220 : HC (envT Tryz.prog 0) (C220 Tryz.prog LF) := fun L hL => extC_ok (kc246 L hL) (dataCon_ok (fnF_valid mixedT kc246 220 _ _ LF) hL)
theorem kc166 : HC (envT Tryz.prog 0) (C166 Tryz.prog LF) := fun L hL => extC_ok (kc220 L hL) (dataCon_ok (fnF_valid mixedT kc220 166 _ _ LF) hL)
theorem kc95 : HC (envT Tryz.prog 0) (C95 Tryz.prog LF) := fun L hL => extC_ok (kc166 L hL) (dataCon_ok (fnF_valid mixedT kc166 95 _ _ LF) hL)
theorem kc96 : HC (envT Tryz.prog 0) (C96 Tryz.prog LF) := fun L hL => extC_ok (kc95 L hL) (dataCon_ok (rec_valid mixedT kc95 (fun _ => rfl) (fun _ _ => rfl) LF) hL)
theorem kc19 : HC (envT Tryz.prog 0) (C19 Tryz.prog LF) := fun L hL => extC_ok (kc96 L hL) (dataCon_ok (fnF_valid mixedT kc96 19 _ _ LF) hL)
theorem kc128 : HC (envT Tryz.prog 0) (C128 Tryz.prog LF) := fun L hL => extC_ok (kc19 L hL) (dataCon_ok (fnF_valid mixedT kc19 128 _ _ LF) hL)
theorem kc41 : HC (envT Tryz.prog 0) (C41 Tryz.prog LF) := fun L hL => extC_ok (kc128 L hL) (dataCon_ok (fnF_valid mixedT kc128 41 _ _ LF) hL)
theorem kc102 : HC (envT Tryz.prog 0) (C102 Tryz.prog LF) := fun L hL => extC_ok (kc41 L hL) (dataCon_ok (fnF_valid mixedT kc41 102 _ _ LF) hL)
theorem kc22 : HC (envT Tryz.prog 0) (C22 Tryz.prog LF) := fun L hL => extC_ok (kc102 L hL) (dataCon_ok (fnF_valid mixedT kc102 22 _ _ LF) hL)
theorem kc126 : HC (envT Tryz.prog 0) (C126 Tryz.prog LF) := fun L hL => extC_ok (kc22 L hL) (dataCon_ok (fnF_valid mixedT kc22 126 _ _ LF) hL)
theorem kc168 : HC (envT Tryz.prog 0) (C168 Tryz.prog LF) := fun L hL => extC_ok (kc126 L hL) (dataCon_ok (fnF_valid mixedT kc126 168 _ _ LF) hL)
theorem kc84 : HC (envT Tryz.prog 0) (C84 Tryz.prog LF) := fun L hL => extC_ok (kc168 L hL) (dataCon_ok (fnF_valid mixedT kc168 84 _ _ LF) hL)
theorem kc99 : HC (envT Tryz.prog 0) (C99 Tryz.prog LF) := fun L hL => extC_ok (kc84 L hL) (dataCon_ok (fnF_valid mixedT kc84 99 _ _ LF) hL)
theorem kc117 : HC (envT Tryz.prog 0) (C117 Tryz.prog LF) := fun L hL => extC_ok (kc99 L hL) (dataCon_ok (fnF_valid mixedT kc99 117 _ _ LF) hL)
theorem kc98 : HC (envT Tryz.prog 0) (C98 Tryz.prog LF) := fun L hL => extC_ok (kc117 L hL) (dataCon_ok (fnF_valid mixedT kc117 98 _ _ LF) hL)
theorem kc97 : HC (envT Tryz.prog 0) (C97 Tryz.prog LF) := fun L hL => extC_ok (kc98 L hL) (dataCon_ok (fnF_valid mixedT kc98 97 _ _ LF) hL)
theorem kc111 : HC (envT Tryz.prog 0) (C111 Tryz.prog LF) := fun L hL => extC_ok (kc97 L hL) (dataCon_ok (fnF_valid mixedT kc97 111 _ _ LF) hL)
theorem kc30 : HC (envT Tryz.prog 0) (C30 Tryz.prog LF) := fun L hL => extC_ok (kc111 L hL) (dataCon_ok (fnF_valid mixedT kc111 30 _ _ LF) hL)
theorem kc37 : HC (envT Tryz.prog 0) (C37 Tryz.prog LF) := fun L hL => extC_ok (kc30 L hL) (dataCon_ok (fnF_valid mixedT kc30 37 _ _ LF) hL)
theorem kc118 : HC (envT Tryz.prog 0) (C118 Tryz.prog LF) := fun L hL => extC_ok (kc37 L hL) (dataCon_ok (fnF_valid mixedT kc37 118 _ _ LF) hL)
theorem kc109 : HC (envT Tryz.prog 0) (C109 Tryz.prog LF) := fun L hL => extC_ok (kc118 L hL) (dataCon_ok (fnF_valid mixedT kc118 109 _ _ LF) hL)
theorem kc176 : HC (envT Tryz.prog 0) (C176 Tryz.prog LF) := fun L hL => extC_ok (kc109 L hL) (dataCon_ok (fnF_valid mixedT kc109 176 _ _ LF) hL)
theorem kc177 : HC (envT Tryz.prog 0) (C177 Tryz.prog LF) := fun L hL => extC_ok (kc176 L hL) (dataCon_ok (fnF_valid mixedT kc176 177 _ _ LF) hL)
theorem kc108 : HC (envT Tryz.prog 0) (C108 Tryz.prog LF) := fun L hL => extC_ok (kc177 L hL) (dataCon_ok (fnF_valid mixedT kc177 108 _ _ LF) hL)
theorem kc120 : HC (envT Tryz.prog 0) (C120 Tryz.prog LF) := fun L hL => extC_ok (kc108 L hL) (dataCon_ok (fnF_valid mixedT kc108 120 _ _ LF) hL)
theorem kc119 : HC (envT Tryz.prog 0) (C119 Tryz.prog LF) := fun L hL => extC_ok (kc120 L hL) (dataCon_ok (fnF_valid mixedT kc120 119 _ _ LF) hL)
theorem kc32 : HC (envT Tryz.prog 0) (C32 Tryz.prog LF) := fun L hL => extC_ok (kc119 L hL) (dataCon_ok (fnF_valid mixedT kc119 32 _ _ LF) hL)
theorem kc33 : HC (envT Tryz.prog 0) (C33 Tryz.prog LF) := fun L hL => extC_ok (kc32 L hL) (dataCon_ok (fnF_valid mixedT kc32 33 _ _ LF) hL)
theorem kc107 : HC (envT Tryz.prog 0) (C107 Tryz.prog LF) := fun L hL => extC_ok (kc33 L hL) (dataCon_ok (fnF_valid mixedT kc33 107 _ _ LF) hL)
theorem kc56 : HC (envT Tryz.prog 0) (C56 Tryz.prog LF) := fun L hL => extC_ok (kc107 L hL) (dataCon_ok (fnF_valid mixedT kc107 56 _ _ LF) hL)
theorem kc57 : HC (envT Tryz.prog 0) (C57 Tryz.prog LF) := fun L hL => extC_ok (kc56 L hL) (dataCon_ok (fnF_valid mixedT kc56 57 _ _ LF) hL)
theorem kc40 : HC (envT Tryz.prog 0) (C40 Tryz.prog LF) := fun L hL => extC_ok (kc57 L hL) (dataCon_ok (fnF_valid mixedT kc57 40 _ _ LF) hL)
theorem kc28 : HC (envT Tryz.prog 0) (C28 Tryz.prog LF) := fun L hL => extC_ok (kc40 L hL) (dataCon_ok (fnF_valid mixedT kc40 28 _ _ LF) hL)
theorem kc148 : HC (envT Tryz.prog 0) (C148 Tryz.prog LF) := fun L hL => extC_ok (kc28 L hL) (dataCon_ok (fnF_valid mixedT kc28 148 _ _ LF) hL)
theorem kc149 : HC (envT Tryz.prog 0) (C149 Tryz.prog LF) := fun L hL => extC_ok (kc148 L hL) (dataCon_ok (fnF_valid mixedT kc148 149 _ _ LF) hL)
theorem kc27 : HC (envT Tryz.prog 0) (C27 Tryz.prog LF) := fun L hL => extC_ok (kc149 L hL) (dataCon_ok (fnF_valid mixedT kc149 27 _ _ LF) hL)
theorem kc150 : HC (envT Tryz.prog 0) (C150 Tryz.prog LF) := fun L hL => extC_ok (kc27 L hL) (dataCon_ok (fnF_valid mixedT kc27 150 _ _ LF) hL)
theorem kc142 : HC (envT Tryz.prog 0) (C142 Tryz.prog LF) := fun L hL => extC_ok (kc150 L hL) (dataCon_ok (fnF_valid mixedT kc150 142 _ _ LF) hL)
theorem kc145 : HC (envT Tryz.prog 0) (C145 Tryz.prog LF) := fun L hL => extC_ok (kc142 L hL) (dataCon_ok (fnF_valid mixedT kc142 145 _ _ LF) hL)
theorem kc83 : HC (envT Tryz.prog 0) (C83 Tryz.prog LF) := fun L hL => extC_ok (kc145 L hL) (dataCon_ok (fnF_valid mixedT kc145 83 _ _ LF) hL)
theorem kc129 : HC (envT Tryz.prog 0) (C129 Tryz.prog LF) := fun L hL => extC_ok (kc83 L hL) (dataCon_ok (fnF_valid mixedT kc83 129 _ _ LF) hL)
theorem kc156 : HC (envT Tryz.prog 0) (C156 Tryz.prog LF) := fun L hL => extC_ok (kc129 L hL) (dataCon_ok (fnF_valid mixedT kc129 156 _ _ LF) hL)
theorem kc43 : HC (envT Tryz.prog 0) (C43 Tryz.prog LF) := fun L hL => extC_ok (kc156 L hL) (dataCon_ok (fnF_valid mixedT kc156 43 _ _ LF) hL)
theorem kc39 : HC (envT Tryz.prog 0) (C39 Tryz.prog LF) := fun L hL => extC_ok (kc43 L hL) (dataCon_ok (fnF_valid mixedT kc43 39 _ _ LF) hL)
theorem kc25 : HC (envT Tryz.prog 0) (C25 Tryz.prog LF) := fun L hL => extC_ok (kc39 L hL) (dataCon_ok (fnF_valid mixedT kc39 25 _ _ LF) hL)
theorem kc45 : HC (envT Tryz.prog 0) (C45 Tryz.prog LF) := fun L hL => extC_ok (kc25 L hL) (dataCon_ok (fnF_valid mixedT kc25 45 _ _ LF) hL)
theorem kc21 : HC (envT Tryz.prog 0) (C21 Tryz.prog LF) := fun L hL => extC_ok (kc45 L hL) (dataCon_ok (fnF_valid mixedT kc45 21 _ _ LF) hL)
theorem kc82 : HC (envT Tryz.prog 0) (C82 Tryz.prog LF) := fun L hL => extC_ok (kc21 L hL) (dataCon_ok (fnF_valid mixedT kc21 82 _ _ LF) hL)
theorem kcD26 : HC (envT Tryz.prog 0) (D26 Tryz.prog LF) := fun L hL => extC_ok (kc82 L hL) (dataCon_ok (fnF_valid mixedT kc57 26 _ _ LF) hL)
theorem kc151 : HC (envT Tryz.prog 0) (C151 Tryz.prog LF) := fun L hL => extC_ok (kcD26 L hL) (dataCon_ok (fnF_valid mixedT kcD26 151 _ _ LF) hL)
theorem kc70 : HC (envT Tryz.prog 0) (C70 Tryz.prog LF) := fun L hL => extC_ok (kc151 L hL) (dataCon_ok (fnF_valid mixedT kc151 70 _ _ LF) hL)
theorem kc77 : HC (envT Tryz.prog 0) (C77 Tryz.prog LF) := fun L hL => extC_ok (kc70 L hL) (dataCon_ok (fnF_valid mixedT kc70 77 _ _ LF) hL)
theorem kc79 : HC (envT Tryz.prog 0) (C79 Tryz.prog LF) := fun L hL => extC_ok (kc77 L hL) (dataCon_ok (fnF_valid mixedT kc77 79 _ _ LF) hL)
theorem kc81 : HC (envT Tryz.prog 0) (C81 Tryz.prog LF) := fun L hL => extC_ok (kc79 L hL) (dataCon_ok (fnF_valid mixedT kc79 81 _ _ LF) hL)
theorem kc66 : HC (envT Tryz.prog 0) (C66 Tryz.prog LF) := fun L hL => extC_ok (kc81 L hL) (dataCon_ok (fnF_valid mixedT kc81 66 _ _ LF) hL)
theorem kc143 : HC (envT Tryz.prog 0) (C143 Tryz.prog LF) := fun L hL => extC_ok (kc66 L hL) (dataCon_ok (fnF_valid mixedT kc66 143 _ _ LF) hL)
theorem kc58 : HC (envT Tryz.prog 0) (C58 Tryz.prog LF) := fun L hL => extC_ok (kc143 L hL) (dataCon_ok (fnF_valid mixedT kc143 58 _ _ LF) hL)
theorem kc63 : HC (envT Tryz.prog 0) (C63 Tryz.prog LF) := fun L hL => extC_ok (kc58 L hL) (dataCon_ok (fnF_valid mixedT kc58 63 _ _ LF) hL)
theorem kc144 : HC (envT Tryz.prog 0) (C144 Tryz.prog LF) := fun L hL => extC_ok (kc63 L hL) (dataCon_ok (fnF_valid mixedT kc63 144 _ _ LF) hL)
theorem kc60 : HC (envT Tryz.prog 0) (C60 Tryz.prog LF) := fun L hL => extC_ok (kc144 L hL) (dataCon_ok (fnF_valid mixedT kc144 60 _ _ LF) hL)
theorem kc59 : HC (envT Tryz.prog 0) (C59 Tryz.prog LF) := fun L hL => extC_ok (kc60 L hL) (dataCon_ok (fnF_valid mixedT kc60 59 _ _ LF) hL)
theorem kc64 : HC (envT Tryz.prog 0) (C64 Tryz.prog LF) := fun L hL => extC_ok (kc59 L hL) (dataCon_ok (fnF_valid mixedT kc59 64 _ _ LF) hL)
theorem kc74 : HC (envT Tryz.prog 0) (C74 Tryz.prog LF) := fun L hL => extC_ok (kc64 L hL) (dataCon_ok (fnF_valid mixedT kc64 74 _ _ LF) hL)
theorem kc75 : HC (envT Tryz.prog 0) (C75 Tryz.prog LF) := fun L hL => extC_ok (kc74 L hL) (dataCon_ok (fnF_valid mixedT kc74 75 _ _ LF) hL)
theorem kc76 : HC (envT Tryz.prog 0) (C76 Tryz.prog LF) := fun L hL => extC_ok (kc75 L hL) (dataCon_ok (fnF_valid mixedT kc75 76 _ _ LF) hL)
theorem kc65 : HC (envT Tryz.prog 0) (C65 Tryz.prog LF) := fun L hL => extC_ok (kc76 L hL) (dataCon_ok (fnF_valid mixedT kc76 65 _ _ LF) hL)
theorem kc67 : HC (envT Tryz.prog 0) (C67 Tryz.prog LF) := fun L hL => extC_ok (kc65 L hL) (dataCon_ok (fnF_valid mixedT kc65 67 _ _ LF) hL)
theorem kc78 : HC (envT Tryz.prog 0) (C78 Tryz.prog LF) := fun L hL => extC_ok (kc67 L hL) (dataCon_ok (fnF_valid mixedT kc67 78 _ _ LF) hL)
theorem kc80 : HC (envT Tryz.prog 0) (C80 Tryz.prog LF) := fun L hL => extC_ok (kc78 L hL) (dataCon_ok (fnF_valid mixedT kc78 80 _ _ LF) hL)
theorem kc42 : HC (envT Tryz.prog 0) (C42 Tryz.prog LF) := fun L hL => extC_ok (kc80 L hL) (dataCon_ok (fnF_valid mixedT kc80 42 _ _ LF) hL)
theorem kc46 : HC (envT Tryz.prog 0) (C46 Tryz.prog LF) := fun L hL => extC_ok (kc42 L hL) (dataCon_ok (fnF_valid mixedT kc42 46 _ _ LF) hL)
theorem kc48 : HC (envT Tryz.prog 0) (C48 Tryz.prog LF) := fun L hL => extC_ok (kc46 L hL) (dataCon_ok (fnF_valid mixedT kc46 48 _ _ LF) hL)
theorem kc44 : HC (envT Tryz.prog 0) (C44 Tryz.prog LF) := fun L hL => extC_ok (kc48 L hL) (dataCon_ok (fnF_valid mixedT kc48 44 _ _ LF) hL)
theorem kc55 : HC (envT Tryz.prog 0) (C55 Tryz.prog LF) := fun L hL => extC_ok (kc44 L hL) (dataCon_ok (fnF_valid mixedT kc44 55 _ _ LF) hL)
theorem kc73 : HC (envT Tryz.prog 0) (C73 Tryz.prog LF) := fun L hL => extC_ok (kc55 L hL) (dataCon_ok (fnF_valid mixedT kc55 73 _ _ LF) hL)
theorem kc4 : HC (envT Tryz.prog 0) (C4 Tryz.prog LF) := fun L hL => extC_ok (kc73 L hL) (dataCon_ok (fnF_valid mixedT kc73 4 _ _ LF) hL)
theorem kc9 : HC (envT Tryz.prog 0) (C9 Tryz.prog LF) := fun L hL => extC_ok (kc4 L hL) (dataCon_ok (fnF_valid mixedT kc4 9 _ _ LF) hL)
theorem kc15 : HC (envT Tryz.prog 0) (C15 Tryz.prog LF) := fun L hL => extC_ok (kc9 L hL) (dataCon_ok (fnF_valid mixedT kc9 15 _ _ LF) hL)
theorem kc12 : HC (envT Tryz.prog 0) (C12 Tryz.prog LF) := fun L hL => extC_ok (kc15 L hL) (dataCon_ok (fnF_valid mixedT kc15 12 _ _ LF) hL)
end Go.K
set_option linter.unusedVariables false
namespace Go.Sx
open Go.Sl Go.RowKit Go.ChangeShapes
def Opens {α : Type} (P : Program) (t : TypeId) (T : Ty α) (ok : α → Prop) : Prop :=
  ∀ (H : Type) (enc : TypeId × Value → H) (W : World) (fuel : Nat) (cs : List Value) (d : DataW H × List MemPlace),
    DataW.trod enc P W 0 (fun _ => true) true fuel t cs = some d → ∃ x, T.rep (Zone.all W) cs x ∧ ok x
theorem mapM_mem {α β : Type} {f : α → Option β} : ∀ {l : List α} {ys : List β}, l.mapM f = some ys → ∀ a ∈ l, ∃ y, f a = some y
  | [], _, _, a, ha => by cases ha
  | x :: l, ys, h, a, ha => by
    rw [List.mapM_cons] at h
    cases hx : f x with
    | none => rw [hx] at h; simp at h
    | some y =>
      rw [hx] at h
      simp only [Option.pure_def, Option.bind_eq_bind, Option.bind_some] at h
      cases hl : l.mapM f with
      | none => rw [hl] at h; simp at h
      | some zs =>
        rcases List.mem_cons.1 ha with e | e
        · subst e; exact ⟨y, hx⟩
        · exact mapM_mem hl a e
section
variable {H : Type} {enc : TypeId × Value → H} {P : Program} {W : World} {fuel : Nat} {t : TypeId} {cs : List Value} {d : DataW H × List MemPlace}
theorem trod_fields {fs : Array Field} (ht : P.underlying t = some (.struct fs)) (h : DataW.trod enc P W 0 (fun _ => true) true fuel t cs = some d) :
    cs.length = P.cellsOf t ∧ ∃ n, ∀ f ∈ fs.toList, ∃ y, DataW.trod enc P W 0 (fun _ => true) true n f.type ((cs.drop f.offset).take (P.cellsOf f.type)) = some y := by
  cases fuel with
  | zero => simp [DataW.trod] at h
  | succ n =>
    simp only [DataW.trod, ht] at h
    by_cases hl : cs.length = P.cellsOf t
    · rw [if_pos hl] at h
      refine ⟨hl, n, fun f hf => ?_⟩
      cases hm : fs.toList.mapM fun f => DataW.trod enc P W 0 (fun _ => true) true n f.type ((cs.drop f.offset).take (P.cellsOf f.type)) with
      | none => rw [hm] at h; simp at h
      | some ys => exact mapM_mem hm f hf
    · rw [if_neg hl] at h; cases h
theorem trod_items {m : Nat} {e : TypeId} (ht : P.underlying t = some (.array m e)) (h : DataW.trod enc P W 0 (fun _ => true) true fuel t cs = some d) :
    cs.length = P.cellsOf t ∧ ∃ n, ∀ i, i < m → ∃ y, DataW.trod enc P W 0 (fun _ => true) true n e ((cs.drop (i * P.cellsOf e)).take (P.cellsOf e)) = some y := by
  cases fuel with
  | zero => simp [DataW.trod] at h
  | succ n =>
    simp only [DataW.trod, ht] at h
    by_cases hl : cs.length = P.cellsOf t
    · rw [if_pos hl] at h
      refine ⟨hl, n, fun i hi => ?_⟩
      cases hm : (List.range m).mapM fun i => DataW.trod enc P W 0 (fun _ => true) true n e ((cs.drop (i * P.cellsOf e)).take (P.cellsOf e)) with
      | none => rw [hm] at h; simp at h
      | some ys => exact mapM_mem hm i (List.mem_range.2 hi)
    · rw [if_neg hl] at h; cases h
end
theorem opens_slice {α : Type} {P : Program} {t e : TypeId} {T : Ty α} {ok : α → Prop} (ht : P.underlying t = some (.slice e)) (he : P.cellsOf e = T.size) (h : Opens P e T ok) : Opens P t (Ty.slice T) (fun xs => (∀ x ∈ xs, ok x) ∧ xs.length ≤ maxLen) := fun H enc W fuel cs d hd => by
  rcases Go.Deep.open_slice ht hd with ⟨rfl, _⟩ | ⟨a, len, cap, m, n, D, Pl, rfl, _, hl, hm, hmm, _, hx⟩
  · exact ⟨[], ⟨none, 0, rfl, SliceR.nil' T _⟩, ⟨(fun _ h => by cases h), by simp⟩⟩
  · simp only [if_true] at hmm
    have hall : ∀ i, i < len → ∃ x, (∃ c, T.rep (Zone.all W) c x ∧ ∀ j v, c[j]? = some v → (Zone.all W).cell? ((a.add (i * T.size)).add j) = some v) ∧ ok x := fun i hi => by
      obtain ⟨cs', h1, h2⟩ := hx i (by omega)
      obtain ⟨x, hr, ho⟩ := h H enc W n cs' _ h2
      refine ⟨x, ⟨cs', hr, fun j v hj => ?_⟩, ho⟩
      rw [he] at h1
      obtain ⟨_, hlen, hc⟩ := World.cells?_some h1
      have hlt : j < cs'.length := (List.getElem?_eq_some_iff.1 hj).1
      exact (hc j (by omega)).trans hj
    have key : ∀ k, k ≤ len → ∃ xs : List α, xs.length = k ∧ (∀ x ∈ xs, ok x) ∧ ∀ i x, xs[i]? = some x → ∃ c, T.rep (Zone.all W) c x ∧ ∀ j v, c[j]? = some v → (Zone.all W).cell? ((a.add (i * T.size)).add j) = some v := by
      intro k
      induction k with
      | zero => exact fun _ => ⟨[], rfl, (fun _ h => by cases h), (fun i x h => by simp at h)⟩
      | succ k ih =>
        intro hk
        obtain ⟨xs, h1, h2, h3⟩ := ih (by omega)
        obtain ⟨x, hx1, hx2⟩ := hall k (by omega)
        refine ⟨xs ++ [x], by simp [h1], fun y hy => ?_, fun i y hy => ?_⟩
        · rcases List.mem_append.1 hy with e | e
          · exact h2 y e
          · simp only [List.mem_singleton] at e; exact e ▸ hx2
        · rw [List.getElem?_append] at hy
          split at hy
          · exact h3 i y hy
          · rename_i hge
            have : i - xs.length = 0 := by
              have := (List.getElem?_eq_some_iff.1 hy).1
              simp at this; omega
            rw [this] at hy
            simp only [List.getElem?_cons_zero, Option.some.injEq] at hy
            subst hy
            have : i = k := by omega
            subst this
            exact hx1
    obtain ⟨xs, h1, h2, h3⟩ := key len (Nat.le_refl _)
    refine ⟨xs, ⟨some a, cap, by rw [h1], ⟨by omega, hm, (fun e => by cases e), fun b e i x hi => ?_⟩⟩, ⟨h2, by omega⟩⟩
    cases e
    exact h3 i x hi
section
variable {H : Type} {enc : TypeId × Value → H} {P : Program} {W : World} {base : Nat} {t : TypeId} {v : Value} {d : DataW H} {ps : List MemPlace}
theorem arg_agg {α : Type} {T : Ty α} {ok : α → Prop} (hs : (match P.underlying t with | some (.struct _) => true | some (.array _ _) => true | _ => false) = true) (hv : Value.okWide P W .any base t v) (h : DataW.Trod enc P W 0 (fun _ => true) true t v d ps) (ho : Opens P t T ok) :
    ∃ cs x, v = .agg cs.toArray ∧ T.rep (Zone.all W) cs x ∧ ok x := by
  obtain ⟨fuel, hf⟩ := h
  obtain ⟨x, hx, hok⟩ := ho H enc W fuel _ _ hf
  have : ∃ cs, v = .agg cs := by
    unfold Value.okWide at hv
    split at hs
    · rename_i fs ht; rw [ht] at hv; obtain ⟨cs, e, _⟩ := hv; exact ⟨cs, e⟩
    · rename_i m e ht; rw [ht] at hv; obtain ⟨cs, e, _⟩ := hv; exact ⟨cs, e⟩
    · cases hs
  obtain ⟨cs, rfl⟩ := this
  exact ⟨cs.toList, x, rfl, hx, hok⟩
theorem arg_slice {α : Type} {e : TypeId} {T : Ty α} {ok : α → Prop} (ht : P.underlying t = some (.slice e)) (he : P.cellsOf e = T.size) (hv : Value.okWide P W .any base t v) (h : DataW.Trod enc P W 0 (fun _ => true) true t v d ps) (ho : Opens P e T ok) :
    ∃ o xs cap, v = .slice o (List.length xs) cap ∧ SliceR T (Zone.all W) o cap xs ∧ (∀ x ∈ xs, ok x) ∧ xs.length ≤ maxLen := by
  obtain ⟨fuel, hf⟩ := h
  obtain ⟨o, len, cap, rfl⟩ := Go.WideShapes.okWide_slice ht hv
  obtain ⟨xs, ⟨o', cap', e1, hs⟩, hok, hl⟩ := opens_slice ht he ho H enc W fuel _ _ hf
  simp only [Value.cells, List.cons.injEq, Value.slice.injEq, and_true] at e1
  obtain ⟨rfl, rfl, rfl⟩ := e1
  exact ⟨o, xs, cap, rfl, hs, hok, hl⟩
theorem trodAll_stays (hl : laidOutB P = true) {W' : World} (hb : Below W.heap.size W W') : ∀ {ts : List TypeId} {vs : List Value} {ds : List (DataW H)} {ps : List MemPlace}, (ts.all fun t => P.readableRec t && Nat.blt t P.types.size) = true →
    DataW.TrodAll enc P W 0 (fun _ => true) true ts vs ds ps → (∀ p ∈ ps, p.block < W.heap.size) → DataW.TrodAll enc P W' 0 (fun b => decide (b < W.heap.size)) true ts vs ds ps
  | [], [], [], _, _, h, _ => h
  | t :: ts, v :: vs, d :: ds, _, hr, ⟨p, q, h1, h2, e⟩, hlt => by
    simp only [List.all_cons, Bool.and_eq_true, Nat.blt_eq] at hr
    subst e
    exact ⟨p, q, Below.trod hl hr.1.1 hr.1.2 h1 hb (fun x hx => hlt x (List.mem_append_left _ hx)), trodAll_stays hl hb hr.2 h2 (fun x hx => hlt x (List.mem_append_right _ hx)), rfl⟩
  | [], _ :: _, _, _, _, h, _ => h.elim
  | [], [], _ :: _, _, _, h, _ => h.elim
  | _ :: _, [], _, _, _, h, _ => h.elim
  | _ :: _, _ :: _, [], _, _, h, _ => h.elim
theorem post_true {f : Func} {s : ChangeSpec} {args : Array Value} {ds : List (DataW H)} {before : List MemPlace} {apart : Bool} {W' : World} {tb : TypeId} (hl : laidOutB P = true) (hvars : s.vars = []) (hr : (f.params.toList.all fun t => P.readableRec t && Nat.blt t P.types.size) = true)
    (hres : f.resultTypes = #[tb]) (hu : P.underlying tb = some .bool) (hW : DataW.Whole enc P f.params.toList s.vars apart W args.toList ds [] before) (hb : Below W.heap.size W W') (hs : s.fn H (ds ++ []) = { results := [.lit (.bool true)], args := ds }) :
    s.post enc P f apart true false false W args (.bool true) W' := by
  have hlt := hW.lt
  have hW0 := hW
  obtain ⟨p, q, hA, hV, rfl, _, _⟩ := hW
  rw [hvars] at hV
  obtain ⟨_, rfl⟩ := trodVars_none hV
  refine ⟨ds, [], p ++ [], [], p, [], hW0, ?_, ?_, ?_, hb.frame _, fun h => by cases h⟩
  · rw [hs, hres]; exact trodAll_mk1 (shut_bool hu true)
  · rw [hs]; exact trodAll_stays hl hb hr hA (fun x hx => hlt x (by simpa using hx))
  · rw [hs, hvars]; rfl
end
end Go.Sx
namespace Go.Sx
structure A2 where
  a0 : Int
  a1 : Int
  deriving DecidableEq
structure A3 where
  a0 : Int
  a1 : Int
  a2 : Int
  deriving DecidableEq
end Go.Sx
set_option linter.unusedVariables false
namespace Go.Sx
open Go.Sl Go.RowKit Go.ChangeShapes Go.Proofs
variable {H : Type} {enc : TypeId × Value → H}
theorem returns_and_shaped {a : Assume} {C : Checked} {os : Os} {f : FuncId} {fn : Func} {s : ChangeSpec} {conds : List PathCond} {apart fresh handsOn again : Bool} {X : World → Array Value → Prop}
    (hX : ∀ (w w' : World) (args : Array Value), w.heap = w'.heap → X w args → X w' args)
    (own : ownKnob C.prog.godebug = none) (started : os.Started) (noInit : C.prog.inits.idxOf? f = none) (hfn : C.prog.funcs[f]? = some fn)
    (witness : ∃ (w : World) (tape : Tape) (i : Input), w.os = os ∧ (w.forCall tape i).Shaped C.prog ∧ i.vars = [] ∧ Input.okWide C.prog (w.forCall tape i) .any w.heap.size f i ∧
      ((s.pre enc C.prog fn conds apart (w.forCall tape i).memory i.args ∧ X (w.forCall tape i).memory i.args) ∧ sizedMet enc C.prog fn (OpenSpec.ofChange s) apart (w.forCall tape i).memory i.args) ∧ a.holds C.prog (lone (Frame.enter C.prog f i.args .normal) [] (w.forCall tape i)))
    (contract : ∀ (W : World) (base : Nat) (args : Array Value) (ds gs : List (DataW H)) (before : List MemPlace),
      (∀ (j : Nat) t v, fn.params[j]? = some t → args[j]? = some v → Value.okWide C.prog W .any base t v) →
      DataW.Whole enc C.prog fn.params.toList s.vars apart W args.toList ds gs before → X W args → W.ShapedOpen C.prog →
      Calls C.prog f args W fun e W' => ∃ v, e = .returned v ∧ s.post enc C.prog fn apart fresh handsOn again W args v W') :
    ReturnsInHanded a C os f .any (fun w args => (s.pre enc C.prog fn conds apart w args ∧ X w args) ∧ sizedMet enc C.prog fn (OpenSpec.ofChange s) apart w args) (s.post enc C.prog fn apart fresh handsOn again) := by
  refine returnsInHanded_of_calls own started noInit witness ?_
  intro w tape i _ hsh _ hok hpre hholds
  obtain ⟨_, _, _, fn', hfn', _, _, _, _, hval⟩ := hok
  have e : fn' = fn := Option.some.inj (hfn'.symm.trans hfn)
  subst e
  obtain ⟨⟨⟨ds, gs, before, hw, hc⟩, hx⟩, hz⟩ := hpre
  have hw' := DataW.Whole.of_heap (w' := w.forCall tape i) (by rfl) hw
  refine (contract (w.forCall tape i) w.heap.size i.args ds gs before hval hw' (hX _ _ _ (by rfl) hx) hsh).mono fun e W' ⟨v, he, hp⟩ => ?_
  subst he
  exact ChangeSpec.post_blind hp
theorem env_of {P : Program} {W : World} {g : Nat} (h1 : Lib.TabIs P W "internal/strconv.uint64pow10" .u64 Lib.pow10Tab) (h2 : ∃ m, W.cell? ⟨g, 0, none⟩ = some (.int .i64 m)) : Sx.Env P g (Zone.all W) := by
  refine ⟨fun L w hS => ?_, ?_⟩
  · have hle := hS.whole
    unfold Lib.TabIs World.var? at h1 ⊢
    cases hg : P.globalNamed "internal/strconv.uint64pow10" with
    | none => rw [hg] at h1; cases h1
    | some b =>
      rw [hg] at h1
      simp only [Option.bind_some] at h1 ⊢
      cases hb : W.heap[b]? with
      | none => rw [hb] at h1; cases h1
      | some o =>
        have hb' : w.heap[b]? = some o := hle.blk b o hb
        rw [hb'] ; rw [hb] at h1; exact h1
  · obtain ⟨m, hm⟩ := h2
    exact ⟨m, hm⟩
end Go.Sx
set_option linter.unusedVariables false
namespace Go.K
open Go.Sl Go.Sx Go.RowKit Go.ChangeShapes Go.Proofs
def opF (P : Program) (rec : TypeId → TC → Bool) : List Field → Nat → TC → Bool
  | [f], off, u => Nat.beq f.offset off && (Nat.beq (P.cellsOf f.type) u.size && rec f.type u)
  | f :: g :: r, off, .pair a b => (Nat.beq f.offset off && (Nat.beq (P.cellsOf f.type) a.size && rec f.type a)) && opF P rec (g :: r) (off + a.size) b
  | _, _, _ => false
def opA (rec : TypeId → TC → Bool) (e : TypeId) (k : Nat) : Nat → TC → Bool
  | 1, u => Nat.beq k u.size && rec e u
  | n + 2, .pair a b => (Nat.beq k a.size && rec e a) && opA rec e k (n + 1) b
  | _, _ => false
def opB (P : Program) : Nat → TypeId → TC → Bool
  | 0, _, _ => false
  | n + 1, t, u => match P.underlying t with
    | some (.int .i64) => (match u with | .int .i64 => true | _ => false)
    | some .string => (match u with | .str => true | _ => false)
    | some (.slice e) => (match u with | .sl v => Nat.beq (P.cellsOf e) v.size && opB P n e v | _ => false)
    | some (.struct fs) => Nat.beq (P.cellsOf t) u.size && opF P (opB P n) fs.toList 0 u
    | some (.array m e) => Nat.beq (P.cellsOf t) u.size && opA (opB P n) e (P.cellsOf e) m u
    | _ => false
theorem opB_ok {P : Program} : ∀ (n : Nat) {t : TypeId} {u : TC}, opB P n t u = true → Opens P t u.ty (fun _ => True)
  | 0, _, _, h => by cases h
  | n + 1, t, u, h => by
    unfold opB at h
    split at h
    · rename_i ht
      split at h
      · intro H enc W fuel cs d hd
        obtain ⟨m, rfl, _, _⟩ := DataW.trod_int ht hd
        exact ⟨m, rfl, trivial⟩
      · cases h
    · rename_i ht
      split at h
      · intro H enc W fuel cs d hd
        obtain ⟨s, rfl, _, _⟩ := DataW.trod_string ht hd
        exact ⟨s, rfl, trivial⟩
      · cases h
    · rename_i e ht
      split at h
      · rename_i v
        simp only [Bool.and_eq_true, Nat.beq_eq] at h
        intro H enc W fuel cs d hd
        obtain ⟨x, hx, _⟩ := opens_slice ht (h.1.trans v.size_eq.symm) (opB_ok n h.2) H enc W fuel cs d hd
        exact ⟨x, hx, trivial⟩
      · cases h
    · rename_i fs ht
      simp only [Bool.and_eq_true, Nat.beq_eq] at h
      obtain ⟨h0, h1⟩ := h
      intro H enc W fuel cs d hd
      obtain ⟨hl, k, hx⟩ := trod_fields ht hd
      have key : ∀ (l : List Field) (off : Nat) (u : TC), (∀ f ∈ l, f ∈ fs.toList) → opF P (opB P n) l off u = true → cs.length = off + u.size → ∃ x, u.ty.rep (Zone.all W) (cs.drop off) x := by
        intro l
        induction l with
        | nil => intro off u _ hh _; simp [opF] at hh
        | cons f r ih =>
          intro off u hsub hh hlen
          cases r with
          | nil =>
            simp only [opF, Bool.and_eq_true, Nat.beq_eq] at hh
            obtain ⟨e1, e2, e3⟩ := hh
            obtain ⟨y, hy⟩ := hx f (hsub f (List.mem_cons_self ..))
            rw [e1, e2, List.take_of_length_le (by rw [List.length_drop]; omega)] at hy
            obtain ⟨x, hx', _⟩ := opB_ok n e3 H enc W k _ y hy
            exact ⟨x, hx'⟩
          | cons g r =>
            cases u with
            | pair a b =>
              simp only [opF, Bool.and_eq_true, Nat.beq_eq] at hh
              obtain ⟨⟨e1, e2, e3⟩, e4⟩ := hh
              simp only [TC.size] at hlen
              obtain ⟨y, hy⟩ := hx f (hsub f (List.mem_cons_self ..))
              rw [e1, e2] at hy
              obtain ⟨x1, r1, _⟩ := opB_ok n e3 H enc W k _ y hy
              obtain ⟨x2, r2⟩ := ih (off + a.size) b (fun q hq => hsub q (List.mem_cons_of_mem _ hq)) e4 (by omega)
              refine ⟨(x1, x2), (cs.drop off).take a.size, cs.drop (off + a.size), ?_, r1, r2⟩
              rw [← List.drop_drop, List.take_append_drop]
            | _ => simp [opF] at hh
      obtain ⟨x, hx'⟩ := key fs.toList 0 u (fun _ h => h) h1 (by omega)
      exact ⟨x, by simpa using hx', trivial⟩
    · rename_i m e ht
      simp only [Bool.and_eq_true, Nat.beq_eq] at h
      obtain ⟨h0, h1⟩ := h
      intro H enc W fuel cs d hd
      obtain ⟨hl, k, hx⟩ := trod_items ht hd
      have key : ∀ (q i : Nat) (u : TC), i + q = m → opA (opB P n) e (P.cellsOf e) q u = true → cs.length = i * P.cellsOf e + u.size → ∃ x, u.ty.rep (Zone.all W) (cs.drop (i * P.cellsOf e)) x := by
        intro q
        induction q with
        | zero => intro i u _ hh _; simp [opA] at hh
        | succ q ih =>
          intro i u hq hh hlen
          cases q with
          | zero =>
            simp only [opA, Bool.and_eq_true, Nat.beq_eq] at hh
            obtain ⟨y, hy⟩ := hx i (by omega)
            rw [List.take_of_length_le (by rw [List.length_drop]; omega)] at hy
            obtain ⟨x, hx', _⟩ := opB_ok n hh.2 H enc W k _ y hy
            exact ⟨x, hx'⟩
          | succ q =>
            cases u with
            | pair a b =>
              simp only [opA, Bool.and_eq_true, Nat.beq_eq] at hh
              obtain ⟨⟨e2, e3⟩, e4⟩ := hh
              simp only [TC.size] at hlen
              obtain ⟨y, hy⟩ := hx i (by omega)
              obtain ⟨x1, r1, _⟩ := opB_ok n e3 H enc W k _ y hy
              obtain ⟨x2, r2⟩ := ih (i + 1) b (by omega) e4 (by rw [Nat.add_mul]; omega)
              refine ⟨(x1, x2), (cs.drop (i * P.cellsOf e)).take (P.cellsOf e), cs.drop ((i + 1) * P.cellsOf e), ?_, r1, r2⟩
              rw [Nat.add_mul, Nat.one_mul, ← List.drop_drop, List.take_append_drop]
            | _ => simp [opA] at hh
      obtain ⟨x, hx'⟩ := key m 0 u (by omega) h1 (by omega)
      exact ⟨x, by simpa using hx', trivial⟩
    · cases h
section
variable {H : Type} {enc : TypeId × Value → H} {P : Program} {W : World} {base : Nat} {t : TypeId} {v : Value} {d : DataW H} {ps : List MemPlace}
theorem oA {u : TC} (hs : (match P.underlying t with | some (.struct _) => true | some (.array _ _) => true | _ => false) = true) (hb : opB P 12 t u = true) (hv : Value.okWide P W .any base t v) (h : DataW.Trod enc P W 0 (fun _ => true) true t v d ps) : ∃ x : u.den, repA (Zone.all W) (true, u) v x := by
  obtain ⟨cs, x, rfl, hr, _⟩ := arg_agg hs hv h (opB_ok 12 hb)
  exact ⟨x, .inl ⟨rfl, cs, rfl, hr⟩⟩
theorem oL {u : TC} {e : TypeId} (ht : P.underlying t = some (.slice e)) (he : P.cellsOf e = u.size) (hb : opB P 12 e u = true) (hv : Value.okWide P W .any base t v) (h : DataW.Trod enc P W 0 (fun _ => true) true t v d ps) : ∃ x : List u.den, repA (Zone.all W) (false, .sl u) v x ∧ x.length ≤ maxLen := by
  obtain ⟨o, x, c, rfl, hr, _, hl⟩ := arg_slice ht (he.trans u.size_eq.symm) hv h (opB_ok 12 hb)
  exact ⟨x, .inr ⟨rfl, o, c, rfl, hr⟩, hl⟩
end
end Go.K
