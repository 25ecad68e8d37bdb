/-
  A part of the walk and of the plain law of one given statement. No condition.
-/
import Derived.Test.YtlkffcddfpghkaaGreatDoorWC3
import Derived.Test.YtlkffcddfpghkaaGreatDoorRG
import Derived.Test.YtlkffcddfpghkaaGreatDoorG4
import Derived.Test.YtlkffcddfpghkaaGreatDoorProg
import Derived.Shelf.Strings.OnBuilder
import Derived.Lib.Join
import Derived.WalkKit
import Derived.Test.YtlkffcddfpghkaaGreatDoorSh
import Derived.Shelf.RegionOpenPlain
import Derived.Lib.Slices
import Derived.Lib.Walk
import Derived.Laws.Externs
import Derived.Test.YtlkffcddfpghkaaGreatDoorK8
import Derived.ProofKit
import Derived.OpenShut
import Derived.Stop.Joined
import Derived.Deep.Slices
import Derived.SizedLaws
import Derived.Shelf.Vars
import Derived.Lay
import Derived.LaidMore
set_option linter.unusedVariables false
set_option linter.unusedSimpArgs false
set_option maxRecDepth 100000
namespace Go.K
open Go.Sl Go.Sx Go.Proofs
def chF (ls : List (List Int)) (out : List (List Int)) : List (List Int) := ls.foldl (fun out x => out.flatMap fun y => x.map fun n => y ++ [n]) out
theorem chF_eq : ∀ (ls out : List (List Int)), chF ls out = out.flatMap fun y => (choL ls).map (y ++ ·)
  | [], out => by
    show out = _
    have : (fun y : List Int => (choL []).map (y ++ ·)) = fun y => [y] := by funext y; simp [choL]
    rw [this]; simp
  | x :: ls, out => by
    show chF ls (out.flatMap fun y => x.map fun n => y ++ [n]) = _
    rw [chF_eq ls, List.flatMap_assoc]
    congr 1
    funext y
    rw [List.flatMap_map]
    show (x.flatMap fun n => (choL ls).map ((y ++ [n]) ++ ·)) = (x.flatMap fun n => (choL ls).map (n :: ·)).map (y ++ ·)
    rw [List.map_flatMap]
    congr 1
    funext n
    rw [List.map_map]
    congr 1
    funext z
    simp
theorem chF_one (ls : List (List Int)) : chF ls [[]] = choL ls := by rw [chF_eq]; simp
theorem step_len (out : List (List Int)) (x : List Int) : (out.flatMap fun y => x.map fun n => y ++ [n]).length = out.length * x.length := by
  induction out with
  | nil => simp
  | cons y out ih => rw [List.flatMap_cons, List.length_append, ih, List.length_map, List.length_cons, Nat.add_mul]; omega
theorem G56_cho (ls : List (List Int)) (hne : ∀ x ∈ ls, x ≠ []) (hp : prodL ls ≤ 4000) (hl : ls.length ≤ 1000) : G56 LF ls = some (choL ls) := by
  unfold G56
  refine (iter_foldI (fun i a => (a, i)) (fun (x : List Int) _ out => out.flatMap fun y => x.map fun n => y ++ [n]) (fun i (a : List (List Int)) => a.length * prodL (ls.drop i) ≤ 4000 ∧ ∀ y ∈ a, y.length = i) ls (fun a => some a) [[]] ?_ ?_ ?_ (by show ls.length < 9223372036854775808; omega) ⟨by simp; exact hp, by simp⟩).trans ?_
  · intro i x a hx hg
    obtain ⟨g1, g2⟩ := hg
    have hi := lt_of_get hx
    have hd : ls.drop i = x :: ls.drop (i + 1) := by
      rw [List.drop_eq_getElem_cons hi]
      rw [List.getElem?_eq_getElem hi] at hx
      simp only [Option.some.injEq] at hx
      rw [hx]
    have hpos : 1 ≤ prodL (ls.drop (i + 1)) := prod_pos fun y hy => hne y (List.mem_of_mem_drop hy)
    have hmul : a.length * x.length ≤ 4000 := by
      rw [hd] at g1
      have e : a.length * (x.length * prodL (ls.drop (i + 1))) = (a.length * x.length) * prodL (ls.drop (i + 1)) := (Nat.mul_assoc _ _ _).symm
      have g1' : (a.length * x.length) * prodL (ls.drop (i + 1)) ≤ 4000 := by rw [← e]; exact g1
      have := Nat.mul_le_mul (Nat.le_refl (a.length * x.length)) hpos
      omega
    have hxp := List.length_pos_iff.2 (hne x (List.mem_of_getElem? hx))
    have hal : a.length ≤ 4000 := by
      have := Nat.le_mul_of_pos_right a.length hxp
      omega
    simp only [dlt hi, cond_true, getI_nat hx, Option.bind_some]
    refine (iter_foldI (fun i s => (s, i)) (fun (y : List Int) _ s => s ++ x.map fun n => y ++ [n]) (fun j (s : List (List Int)) => s.length = j * x.length) a (fun s => some (.inl (s, ((i + 1 : Nat) : Int)))) [] ?_ ?_ ?_ (by show a.length < 9223372036854775808; omega) (by simp)).trans ?_
    · intro j y s hy hs
      have hj := lt_of_get hy
      have hyl := g2 y (List.mem_of_getElem? hy)
      have hjm : j * x.length + x.length ≤ 4000 := by
        have := Nat.mul_le_mul (show j + 1 ≤ a.length by omega) (Nat.le_refl x.length)
        rw [Nat.add_mul] at this; omega
      simp only [dlt hj, cond_true, getI_nat hy, Option.bind_some]
      refine (iter_app (fun i s => (s, i)) (fun n : Int => [y ++ [n]]) x (fun s => some (.inl (s, ((j + 1 : Nat) : Int)))) 1 (fun _ _ => by simp) s ?_ ?_ (by show x.length < 9223372036854775808; omega)).trans ?_
      · intro q n u hq hu hql
        simp only [dlt hql, cond_true, getI_nat hq, Option.bind_some, appC_of (show ([] : List Int).length + y.length ≤ 1099511627776 by simp; omega), List.nil_append, appC_of (show y.length + [n].length ≤ 1099511627776 by simp; omega), appC_of (show u.length + [y ++ [n]].length ≤ 1099511627776 by simp; omega), succ_W (show q + 1 < 9223372036854775808 by omega)]
      · intro u _
        simp only [dnlt, succ_W (show j + 1 < 9223372036854775808 by omega)]; rfl
      · rw [← List.map_eq_flatMap]
    · intro j y s hy hs
      rw [List.length_append, List.length_map, hs, Nat.add_mul]; omega
    · intro s _
      simp only [dnlt, succ_W (show i + 1 < 9223372036854775808 by omega)]; rfl
    · rw [foldI_const]
      have : ∀ (l : List (List Int)) (s : List (List Int)), l.foldl (fun s y => s ++ x.map fun n => y ++ [n]) s = s ++ l.flatMap fun y => x.map fun n => y ++ [n] := by
        intro l
        induction l with
        | nil => intro s; simp
        | cons y l ih => intro s; rw [List.foldl_cons, ih]; simp
      rw [this]; rfl
  · intro i x a hx hg
    obtain ⟨g1, g2⟩ := hg
    have hi := lt_of_get hx
    have hd : ls.drop i = x :: ls.drop (i + 1) := by
      rw [List.drop_eq_getElem_cons hi]
      rw [List.getElem?_eq_getElem hi] at hx
      simp only [Option.some.injEq] at hx
      rw [hx]
    refine ⟨?_, fun y hy => ?_⟩
    · rw [step_len, Nat.mul_assoc]
      rw [hd] at g1
      exact g1
    · simp only [List.mem_flatMap, List.mem_map] at hy
      obtain ⟨z, hz, n, _, rfl⟩ := hy
      simp [g2 z hz]
  · intro a _
    simp only [dnlt]; rfl
  · rw [foldI_const]
    congr 1
    exact chF_one ls
theorem VF.prod {c : Cd} {f : List Fct} (h : VF c f) : prodL (startsL f (condsL c.2.2)) ≤ 4000 := by rw [← choL_len]; exact h.cs
end Go.K
namespace Go.K
theorem sane_true : G22 LF () = some true := by kernel_rfl
end Go.K
namespace Go.K
open Go.Sl Go.Sx Go.Proofs
theorem VF.le {c : Cd} {f : List Fct} (h : VF c f) {i : Nat} {x : Fct} (hx : f[i]? = some x) : x.2.1 ≤ x.2.2 := by
  have hi := lt_of_get hx
  have hl := h.ln
  have := h.fit i _ x (List.getElem?_eq_getElem (show i < c.2.1.length by omega)) hx
  unfold fitB at this
  simp only [Bool.and_eq_true, decide_eq_true_eq] at this
  exact this.2.2.1
end Go.K
namespace Go.K
open Go.Sl Go.Sx Go.Proofs
def near1 (l : List Int) (n m : Int) : Prop := m ∈ l ∧ m ≤ n ∧ ∀ k ∈ l, k ≤ n → k ≤ m
def Near (c : Cd) (f : List Fct) (v w : List Int) : Prop := w.length = v.length ∧ ∀ (i : Nat) (x : Fct) (n m : Int), f[i]? = some x → v[i]? = some n → w[i]? = some m → near1 (cutsOf (condsL c.2.2) x) n m
def In (f : List Fct) (v : List Int) : Prop := v.length = f.length ∧ ∀ (i : Nat) (x : Fct) (n : Int), f[i]? = some x → v[i]? = some n → x.2.1 ≤ n ∧ n ≤ x.2.2
theorem cut_side {cs : List Cnd} {x : Fct} {n m : Int} (hx : x.2.1 ≤ n ∧ n ≤ x.2.2) (h : near1 (cutsOf cs x) n m) {cd : Cnd} {t : Tm} (hc : cd ∈ cs) (ht : t ∈ cd) (hn : t.2.2.2.1 = x.1) {k : Int} (hk : k ∈ partsL t) : n < k ↔ m < k := by
  obtain ⟨h1, h2, h3⟩ := h
  have hlo : x.2.1 ≤ m := h3 _ (((cuts_mem cs x).2 _).2 (.inl rfl)) hx.1
  by_cases hk1 : x.2.1 < k
  · by_cases hk2 : k ≤ x.2.2
    · have hmem : k ∈ cutsOf cs x := ((cuts_mem cs x).2 k).2 (.inr (cutN_mem.2 ⟨⟨cd, hc, t, ht, hn, hk⟩, hk1, hk2⟩))
      constructor
      · intro h; omega
      · intro h
        by_cases hkn : k ≤ n
        · have := h3 k hmem hkn; omega
        · omega
    · omega
  · omega
theorem Near.term {c : Cd} (h : VC c) {f : List Fct} (hf : VF c f) {v w : List Int} (hv : In f v) (hw : Near c f v w) {cd : Cnd} (hc : cd ∈ condsL c.2.2) (hcd : condE c.2.1 cd = 0) {i : Nat} {t : Tm} (ht : cd[i]? = some t) (l : List Bool) : tmSo c.2.1 v t l = tmSo c.2.1 w t l := by
  obtain ⟨c1, c2, c3⟩ := cond_short hcd
  have hs := c3 i t ht
  have hkd := term_kd hs
  obtain ⟨hshp, hsh2⟩ := term_ok hs
  have htm := List.mem_of_getElem? ht
  cases hkd with
  | tru => rfl
  | neg _ => rfl
  | bin h0 _ _ => rcases h0 with rfl | rfl <;> rfl
  | cmp h1 h2 =>
    rename_i k a b s n
    obtain ⟨p, hp, hpl, x, hx, hxs⟩ := plF_get h2
    have hfl := hf.ln
    have hvl := hv.1
    have hwl := hw.1
    have hfp : f[p]? = some f[p] := List.getElem?_eq_getElem (by omega)
    have hname : x.1 = f[p].1 := by
      have := hf.fit p x f[p] hx hfp
      unfold fitB at this
      simp only [Bool.and_eq_true, decide_eq_true_eq] at this
      exact this.1
    have hvp : v[p]? = some v[p] := List.getElem?_eq_getElem (by omega)
    have hwp : w[p]? = some w[p] := List.getElem?_eq_getElem (by omega)
    have hin := hv.2 p _ _ hfp hvp
    have hne := hw.2 p _ _ _ hfp hvp hwp
    have hside : ∀ q, q ∈ partsL (k, (a, (b, (s, n)))) → (v[p] < q ↔ w[p] < q) := fun q hq => cut_side hin hne hc htm (by show s = f[p].1; rw [← hname, hxs]) hq
    have gv : v.getD (plF c.2.1 s).toNat 0 = v[p] := by rw [hp, Int.toNat_natCast, List.getD_eq_getElem?_getD, hvp]; rfl
    have gw : w.getD (plF c.2.1 s).toNat 0 = w[p] := by rw [hp, Int.toNat_natCast, List.getD_eq_getElem?_getD, hwp]; rfl
    have hnb : -1000000000000 ≤ n ∧ n ≤ 1000000000000 := by
      unfold shp at hshp
      simp only at hshp
      rw [if_neg (by omega), if_pos (by omega), decide_eq_true_eq] at hshp
      exact hshp.2.2
    have hw1 : w64 (n + 1) = n + 1 := w64_in (by omega)
    unfold tmSo
    simp only [gv, gw]
    rcases h1 with rfl | rfl | rfl
    · have := hside n (by simp [partsL])
      rw [if_neg (by decide), if_pos rfl, if_neg (by decide), if_pos rfl]
      exact decide_eq_decide.2 this
    · have := hside (n + 1) (by simp [partsL, hw1])
      rw [if_neg (by decide), if_neg (by decide), if_pos rfl, if_neg (by decide), if_neg (by decide), if_pos rfl]
      exact decide_eq_decide.2 (by omega)
    · have e1 := hside n (by simp [partsL])
      have e2 := hside (n + 1) (by simp [partsL, hw1])
      rw [if_neg (by decide), if_neg (by decide), if_neg (by decide), if_pos rfl, if_neg (by decide), if_neg (by decide), if_neg (by decide), if_pos rfl]
      exact decide_eq_decide.2 (by omega)
theorem Near.so {c : Cd} (h : VC c) {f : List Fct} (hf : VF c f) {v w : List Int} (hv : In f v) (hw : Near c f v w) {cd : Cnd} (hc : cd ∈ condsL c.2.2) (hcd : condE c.2.1 cd = 0) : soB c.2.1 v cd = soB c.2.1 w cd := by
  unfold soB soL
  congr 1
  have key : ∀ (m : Cnd), (∀ t ∈ m, t ∈ cd) → ∀ l, m.foldl (fun l t => l ++ [tmSo c.2.1 v t l]) l = m.foldl (fun l t => l ++ [tmSo c.2.1 w t l]) l := by
    intro m
    induction m with
    | nil => intro _ l; rfl
    | cons t m ih =>
      intro hs l
      obtain ⟨i, hi⟩ := List.mem_iff_getElem?.1 (hs t (List.mem_cons_self ..))
      rw [List.foldl_cons, List.foldl_cons, hw.term h hf hv hc hcd hi, ih (fun q hq => hs q (List.mem_cons_of_mem _ hq))]
  exact key cd (fun _ h => h) []
theorem conds_mem {l : List Rl} {r : Rl} (h : r ∈ l) : r.2.2.2.1 ∈ condsL l ∧ r.2.2.2.2.1 ∈ condsL l := by
  unfold condsL
  exact ⟨List.mem_flatMap.2 ⟨r, h, List.mem_cons_self ..⟩, List.mem_flatMap.2 ⟨r, h, List.mem_cons_of_mem _ (List.mem_cons_self ..)⟩⟩
theorem VC.conds {c : Cd} (h : VC c) {r : Rl} (hr : r ∈ c.2.2) : condE c.2.1 r.2.2.2.1 = 0 ∧ condE c.2.1 r.2.2.2.2.1 = 0 := by
  obtain ⟨i, hi⟩ := List.mem_iff_getElem?.1 hr
  obtain ⟨_, _, _, h1, h2, _⟩ := h.rule hi
  exact ⟨h1, h2⟩
theorem Near.binds {c : Cd} (h : VC c) {f : List Fct} (hf : VF c f) {v w : List Int} (hv : In f v) (hw : Near c f v w) (d : Int) : bindsL c d v = bindsL c d w := by
  unfold bindsL
  have key : ∀ (m : List Rl), (∀ r ∈ m, r ∈ c.2.2) → ∀ out, nbL c.2.1 c.2.2 d v m out = nbL c.2.1 c.2.2 d w m out := by
    intro m
    induction m with
    | nil => intro _ out; rfl
    | cons r m ih =>
      intro hs out
      have hr := hs r (List.mem_cons_self ..)
      have e : bindB c.2.1 c.2.2 d v r out = bindB c.2.1 c.2.2 d w r out := by
        unfold bindB
        rw [hw.so h hf hv (conds_mem hr).1 (h.conds hr).1]
      simp only [nbL, e]
      rw [ih (fun q hq => hs q (List.mem_cons_of_mem _ hq))]
  exact key c.2.2 (fun _ h => h) []
theorem Near.kept {c : Cd} (h : VC c) {f : List Fct} (hf : VF c f) {v w : List Int} (hv : In f v) (hw : Near c f v w) (d : Int) : keptL c d v = keptL c d w := by
  unfold keptL
  rw [hw.binds h hf hv d]
  have key : ∀ (m : List Rl), (∀ r ∈ m, r ∈ c.2.2) → ∀ bs : List Bool, List.zipWith (fun b (r : Rl) => !b || soB c.2.1 v r.2.2.2.2.1) bs m = List.zipWith (fun b (r : Rl) => !b || soB c.2.1 w r.2.2.2.2.1) bs m := by
    intro m
    induction m with
    | nil => intro _ bs; simp
    | cons r m ih =>
      intro hs bs
      have hr := hs r (List.mem_cons_self ..)
      cases bs with
      | nil => rfl
      | cons b bs =>
        simp only [List.zipWith_cons_cons]
        rw [hw.so h hf hv (conds_mem hr).2 (h.conds hr).2, ih (fun q hq => hs q (List.mem_cons_of_mem _ hq))]
  exact key c.2.2 (fun _ h => h) _
end Go.K
namespace Go.K
open Go.Sl Go.Sx Go.Proofs
theorem same_loop {σ : Type} {f : Int → Option (Int ⊕ Bool)} (l : List σ) (h1 : ∀ (i : Nat) x, l[i]? = some x → f (i : Int) = some (.inl ((i + 1 : Nat) : Int))) (h2 : f (l.length : Int) = some (.inr true)) (hl : l.length < LF) : iter LF f 0 = some true := by
  refine (iter_scan (fun (_ : σ) _ => (none : Option Bool)) l (some true) (fun i x hx _ => h1 i x hx) (fun _ => h2) hl).trans ?_
  have : ∀ (l : List σ) (i : Nat), scan (fun (_ : σ) _ => (none : Option Bool)) l i = none := by
    intro l
    induction l with
    | nil => intro i; rfl
    | cons x l ih => intro i; simp only [scan]; exact ih _
  rw [this]
theorem G33_same (l : List ByteArray) (hl : l.length < LF) : G33 LF (l, l) = some true := by
  unfold G33
  simp only [decide_true, Bool.not_true, cond_false]
  refine same_loop l (fun i x hx => ?_) ?_ hl
  · have hi := lt_of_get hx
    simp only [dlt hi, cond_true, getI_nat hx, Option.bind_some, eqD, decide_true, Bool.not_true, cond_false, succ_W (Nat.lt_of_le_of_lt hi hl)]
  · simp only [dnlt, cond_false]
end Go.K
namespace Go.K
open Go.Sl Go.Sx Go.Proofs
abbrev Cl := Int × (Int × (Int × List Int))
end Go.K
namespace Go.K
open Go.Sl Go.Sx Go.Proofs
def celE (c : Cd) : List (List Int) × Int := if codeE c ≠ 0 then ([], codeE c) else (startsL c.2.1 (condsL c.2.2), 0)
theorem G55_cells (c : Cd) : G55 LF c = some (celE c) := by
  unfold G55 celE
  simp only [show G31 LF (c.1, (c.2.1, c.2.2)) = some (codeE c) from G31_code c, Option.bind_some]
  by_cases he : codeE c = 0
  · have h := VC.of he
    have hll := h.ll
    have hfl := h.fl
    simp only [he, decide_true, Bool.not_true, cond_false, ne_eq, not_true, if_false, G116_conds _ _ _ (show c.2.2.length ≤ 1000 by omega), G115_starts _ _ (show c.2.1.length ≤ 1000 by omega) (show (condsL c.2.2).length ≤ 1000 by have := h.cl; omega) h.cs, Option.bind_some]
  · simp only [he, decide_false, Bool.not_false, cond_true, ne_eq, not_false_eq_true, if_true]
end Go.K
namespace Go.K
open Go.Sl Go.Sx Go.Proofs
theorem cond_len {f : List Fct} {c : Cnd} (h : condE f c = 0) : List.length c ≤ 30 := by
  unfold condE at h
  split at h
  · cases h
  · omega
theorem VC.lens {c : Cd} (h : VC c) {i : Nat} {r : Rl} (hr : c.2.2[i]? = some r) : List.length r.2.2.2.1 ≤ 30 ∧ List.length r.2.2.2.2.1 ≤ 30 ∧ r.2.2.2.2.2.length ≤ 6 := by
  obtain ⟨h1, h2⟩ := h.conds (List.mem_of_getElem? hr)
  exact ⟨cond_len h1, cond_len h2, (h.rule hr).2.2.2.2.2.1⟩
theorem G54_same (l : List Fct) (hl : l.length < LF) : G54 LF (l, l) = some true := by
  unfold G54
  simp only [decide_true, Bool.not_true, cond_false]
  refine same_loop l (fun i x hx => ?_) ?_ hl
  · have hi := lt_of_get hx
    simp only [dlt hi, cond_true, getI_nat hx, Option.bind_some, eqD, decide_true, Bool.and_self, Bool.and_true, Bool.not_true, cond_false, succ_W (Nat.lt_of_le_of_lt hi hl)]
  · simp only [dnlt, cond_false]
end Go.K
namespace Go.K
open Go.Sl Go.Sx Go.Proofs
theorem none_loop {σ ρ : Type} {f : Int → Option (Int ⊕ ρ)} (l : List σ) (fin : Option ρ) (h1 : ∀ (i : Nat) x, l[i]? = some x → f (i : Int) = some (.inl ((i + 1 : Nat) : Int))) (h2 : f (l.length : Int) = outR fin) (hl : l.length < LF) : iter LF f 0 = fin := by
  refine (iter_scan (fun (_ : σ) _ => (none : Option ρ)) l fin (fun i x hx _ => h1 i x hx) (fun _ => h2) hl).trans ?_
  have : ∀ (l : List σ) (i : Nat), scan (fun (_ : σ) _ => (none : Option ρ)) l i = none := by
    intro l
    induction l with
    | nil => intro i; rfl
    | cons x l ih => intro i; simp only [scan]; exact ih _
  rw [this]
theorem G11_true (c : Cd) : G11 LF c = some true := by
  unfold G11
  have e1 : G51 LF (c.1, (c.2.1, c.2.2)) = some (printC c) := G51_print c
  simp only [e1, Option.bind_some]
  by_cases h : (printC c).2 = 0
  rotate_left
  · simp only [decide_eq_false h, Bool.not_false, cond_true, jl, sane_true, Option.bind_some]
  obtain ⟨h0, hp, _, _⟩ := printC_inv h
  have hv := VC.of h0
  have hll := hv.ll
  have hfl := hv.fl
  have e2 : G32 LF (c.1, (c.2.1, c.2.2)) = some 0 := (G32_code c).trans (by rw [h0])
  have e3 : G49 LF (printC c).1 = some (rrC c, (0, 0)) := by rw [G49_parse, parse_back h]
  have e4 : G51 LF ((rrC c).1, ((rrC c).2.1, (rrC c).2.2)) = some (printC c) := (G51_print (rrC c)).trans (by rw [print_back h])
  have e5 : G54 LF (c.2.1, (rrC c).2.1) = some true := G54_same c.2.1 hv.fl'
  have hb : ∀ l : List UInt8, (l == l) = true := fun l => by simp
  have el : (rrC c).2.2.length = c.2.2.length := by show (c.2.2.map rrR).length = _; rw [List.length_map]
  have hget : ∀ (i : Nat) r, c.2.2[i]? = some r → getI (rrC c).2.2 (i : Int) = some (rrR r) := fun i r hr => getI_nat (by show (c.2.2.map rrR)[i]? = _; rw [List.getElem?_map, hr]; rfl)
  simp only [h, decide_true, Bool.not_true, cond_false, e2, Option.bind_some, jl, e3, e4, hb, e5, el]
  refine none_loop c.2.2 _ ?_ ?_ hv.ll'
  · intro i r hr
    have hi := lt_of_get hr
    obtain ⟨_, _, l3⟩ := hv.lens hr
    have n1 : (rrR r).1 = r.1 := rfl
    have n2 : (rrR r).2.1 = r.2.1 := rfl
    have n3 : (rrR r).2.2.1 = r.2.2.1 := rfl
    have n4 : (rrR r).2.2.2.2.2 = r.2.2.2.2.2 := rfl
    have g33 : G33 LF (r.2.2.2.2.2, r.2.2.2.2.2) = some true := G33_same _ (by show _ < 9223372036854775808; omega)
    simp only [dlt hi, cond_true, getI_nat hr, hget i r hr, Option.bind_some, n1, n2, n3, n4, hb, decide_true, Bool.not_true, cond_false, g33, jl, succ_W (show i + 1 < 9223372036854775808 by omega)]
  · simp only [dnlt, cond_false]
    congr 1
    have e6 : G55 LF (c.1, (c.2.1, c.2.2)) = some (startsL c.2.1 (condsL c.2.2), 0) := (G55_cells c).trans (by unfold celE; rw [if_neg (fun k => k h0)])
    have ls : (startsL c.2.1 (condsL c.2.2)).length = c.2.1.length := by unfold startsL; rw [List.length_map]
    have e7 : G56 LF (startsL c.2.1 (condsL c.2.2)) = some (choL (startsL c.2.1 (condsL c.2.2))) := G56_cho _ (starts_ne _ _) hv.prod (by omega)
    have lc : (choL (startsL c.2.1 (condsL c.2.2))).length ≤ 4000 := by rw [choL_len]; exact hv.prod
    simp only [e6, Option.bind_some, ls, decide_true, Bool.not_true, cond_false, jl, e7]
    refine none_loop (choL (startsL c.2.1 (condsL c.2.2))) _ ?_ ?_ (by show _ < 9223372036854775808; omega)
    · intro k v hk
      have hki := lt_of_get hk
      have hvl : v.length = c.2.1.length := (cho_len (List.mem_of_getElem? hk)).trans ls
      simp only [dlt hki, cond_true, getI_nat hk, Option.bind_some, hvl, decide_true, Bool.not_true, cond_false, succ_W (show k + 1 < 9223372036854775808 by omega)]
      refine none_loop c.2.2 _ ?_ ?_ hv.ll'
      · intro i r hr
        have hi := lt_of_get hr
        obtain ⟨_, _, _, c1, c2, _⟩ := hv.rule hr
        obtain ⟨p1, p2⟩ := hp r (List.mem_of_getElem? hr)
        have d1 : condE c.2.1 (rrR r).2.2.2.1 = 0 := fl0_cond c1 p1
        have d2 : condE c.2.1 (rrR r).2.2.2.2.1 = 0 := fl0_cond c2 p2
        have q1 : G30 LF (c.2.1, (rrR r).2.2.2.1) = some 0 := (G30_cond _ _ hv.fl').trans (by rw [d1])
        have q2 : G30 LF (c.2.1, (rrR r).2.2.2.2.1) = some 0 := (G30_cond _ _ hv.fl').trans (by rw [d2])
        have s1 : G57 LF (c.2.1, (r.2.2.2.1, v)) = some (soB c.2.1 v r.2.2.2.1) := G57_so c1 hvl hv.fl'
        have s2 : G57 LF (c.2.1, ((rrR r).2.2.2.1, v)) = some (soB c.2.1 v r.2.2.2.1) := (G57_so d1 hvl hv.fl').trans (by rw [← fl0_so c.2.1 v p1]; rfl)
        have s3 : G57 LF (c.2.1, (r.2.2.2.2.1, v)) = some (soB c.2.1 v r.2.2.2.2.1) := G57_so c2 hvl hv.fl'
        have s4 : G57 LF (c.2.1, ((rrR r).2.2.2.2.1, v)) = some (soB c.2.1 v r.2.2.2.2.1) := (G57_so d2 hvl hv.fl').trans (by rw [← fl0_so c.2.1 v p2]; rfl)
        simp only [dlt hi, cond_true, getI_nat hr, hget i r hr, Option.bind_some, q1, q2, s1, s2, s3, s4, decide_true, Bool.not_true, cond_false, jl, succ_W (show i + 1 < 9223372036854775808 by omega)]
      · simp only [dnlt, cond_false]; rfl
    · simp only [dnlt, cond_false, sane_true, Option.bind_some]
end Go.K
set_option maxHeartbeats 0
namespace Go.K
open Go.Sl Go.Sx Go.Proofs
def S54x : FuncId → Sp := fun g => match g with
  | 54 => { loops := [(4, [(.slot 13, .dat .i)])] }
  | 128 => { nz := [(11, [12])] }
  | _ => {}
noncomputable def F54x (P : Program) (lf : Nat) (x : tt [(false, (.sl (.pair .str (.pair .i .i)))), (false, (.sl (.pair .str (.pair .i .i))))]) : Option (tt [(false, .bool)]) := fnF P (C33 P lf) S54x 54 [(false, (.sl (.pair .str (.pair .i .i)))), (false, (.sl (.pair .str (.pair .i .i))))] [(false, .bool)] lf x
noncomputable def C54x (P : Program) (lf : Nat) : FuncId → Option Con := extC (C33 P lf) 54 (dataCon [(false, (.sl (.pair .str (.pair .i .i)))), (false, (.sl (.pair .str (.pair .i .i))))] [(false, .bool)] (F54x P lf))
theorem F54x_eq (lf : Nat) (a0 : Yf) (a1 : Yf) : F54x Tryz.prog lf (a0, a1) =
  cond (!(decide ((a0.length : Int) = (a1.length : Int)))) (some false) (iter lf (fun y5 : Int => cond (decide (y5 < (a0.length : Int))) (((getI a0 y5)).bind fun r6 => ((getI a1 y5)).bind fun r7 => cond (!((((ByteArray.toList r6.1) == (ByteArray.toList r7.1)) && true) && (((decide (r6.2.1 = r7.2.1)) && ((decide (r6.2.2 = r7.2.2)) && true)) && true))) (some (.inr false)) (some (.inl (w64 (y5 + (1 : Int)))))) (some (.inr true))) (0 : Int)) := by kernel_rfl
def S56x : FuncId → Sp := fun g => match g with
  | 56 => { loops := [(10, [(.slot 6, .own (.sl .i) 41), (.slot 26, .dat .i)]), (7, [(.slot 6, .own (.sl .i) 41), (.slot 20, .dat .i)]), (3, [(.slot 3, .own (.sl .i) 41), (.slot 14, .dat .i)])] }
  | 128 => { nz := [(11, [12])] }
  | _ => {}
noncomputable def F56x (P : Program) (lf : Nat) (x : tt [(false, (.sl (.sl .i)))]) : Option (tt [(false, (.sl (.sl .i)))]) := fnF P (C54x P lf) S56x 56 [(false, (.sl (.sl .i)))] [(false, (.sl (.sl .i)))] lf x
noncomputable def C56x (P : Program) (lf : Nat) : FuncId → Option Con := extC (C54x P lf) 56 (dataCon [(false, (.sl (.sl .i)))] [(false, (.sl (.sl .i)))] (F56x P lf))
theorem F56x_eq (lf : Nat) (a0 : (List (List Int))) : F56x Tryz.prog lf a0 =
  iter lf (fun y14 : ((List (List Int)) × Int) => cond (decide (y14.2 < (a0.length : Int))) (((getI a0 y14.2)).bind fun r15 => iter lf (fun y16 : ((List (List Int)) × Int) => cond (decide (y16.2 < (y14.1.length : Int))) (((getI y14.1 y16.2)).bind fun r17 => ((getI y14.1 y16.2)).bind fun r18 => iter lf (fun y19 : ((List (List Int)) × Int) => cond (decide (y19.2 < (r15.length : Int))) (((getI r15 y19.2)).bind fun r20 => ((appC ([] : List Int) r18)).bind fun r21 => ((appC r21 [r20])).bind fun r22 => ((appC y19.1 [r22])).bind fun r23 => some (.inl (r23, (w64 (y19.2 + (1 : Int)))))) (some (.inr (.inl (y19.1, (w64 (y16.2 + (1 : Int)))))))) (y16.1, (0 : Int))) (some (.inr (.inl (y16.1, (w64 (y14.2 + (1 : Int)))))))) (([] : List (List Int)), (0 : Int))) (some (.inr y14.1))) ([([] : List Int)], (0 : Int)) := by kernel_rfl
def S57x : FuncId → Sp := fun g => match g with
  | 57 => { joins := [(22, [(.slot 7, .own .bool 4)]), (8, [(.slot 10, .dat .i)])], loops := [(3, [(.slot 18, .dat .i), (.slot 7, .own .bool 4)])] }
  | 128 => { nz := [(11, [12])] }
  | _ => {}
noncomputable def F57x (P : Program) (lf : Nat) (x : tt [(false, (.sl (.pair .str (.pair .i .i)))), (true, (.sl Yp)), (false, (.sl .i))]) : Option (tt [(false, .bool)]) := fnF P (C56x P lf) S57x 57 [(false, (.sl (.pair .str (.pair .i .i)))), (true, (.sl Yp)), (false, (.sl .i))] [(false, .bool)] lf x
noncomputable def C57x (P : Program) (lf : Nat) : FuncId → Option Con := extC (C56x P lf) 57 (dataCon [(false, (.sl (.pair .str (.pair .i .i)))), (true, (.sl Yp)), (false, (.sl .i))] [(false, .bool)] (F57x P lf))
theorem F57x_eq (lf : Nat) (a0 : Yf) (a1 : Yt) (a2 : (List Int)) : F57x Tryz.prog lf (a0, (a1, a2)) =
  ((mkC (a1.length : Int) false)).bind fun r95 => iter lf (fun y96 : (Int × (List Bool)) => cond (decide (y96.1 < (a1.length : Int))) (jn (((getI a1 y96.1)).bind fun r97 => jn (((F98 Tryz.prog lf r97.1)).bind fun r98 => cond r98 (((F111 Tryz.prog lf (a0, r97.2.2.2.1))).bind fun r99 => ((getI a2 r99)).bind fun r100 => some (.inl r100)) (some (.inl (0 : Int)))) (fun y101 : Int => cond (decide (r97.1 = (0 : Int))) (((getI y96.2 y96.1)).bind fun r102 => ((getI y96.2 y96.1)).bind fun r103 => ((setI y96.2 y96.1 true)).bind fun r104 => some (.inl r104)) (cond (decide (r97.1 = (1 : Int))) (((getI y96.2 y96.1)).bind fun r105 => ((getI y96.2 y96.1)).bind fun r106 => ((setI y96.2 y96.1 (decide (y101 < r97.2.2.2.2)))).bind fun r107 => some (.inl r107)) (cond (decide (r97.1 = (2 : Int))) (((getI y96.2 y96.1)).bind fun r108 => ((getI y96.2 y96.1)).bind fun r109 => ((setI y96.2 y96.1 (decide (y101 ≤ r97.2.2.2.2)))).bind fun r110 => some (.inl r110)) (cond (decide (r97.1 = (3 : Int))) (((getI y96.2 y96.1)).bind fun r111 => ((getI y96.2 y96.1)).bind fun r112 => ((setI y96.2 y96.1 (decide (y101 = r97.2.2.2.2)))).bind fun r113 => some (.inl r113)) (cond (decide (r97.1 = (4 : Int))) (((getI y96.2 r97.2.1)).bind fun r114 => ((getI y96.2 r97.2.1)).bind fun r115 => ((getI y96.2 y96.1)).bind fun r116 => ((getI y96.2 y96.1)).bind fun r117 => ((setI y96.2 y96.1 (!r115))).bind fun r118 => some (.inl r118)) (cond (decide (r97.1 = (5 : Int))) (((getI y96.2 r97.2.1)).bind fun r119 => ((getI y96.2 r97.2.1)).bind fun r120 => cond r120 (((getI y96.2 r97.2.2.1)).bind fun r121 => ((getI y96.2 r97.2.2.1)).bind fun r122 => ((getI y96.2 y96.1)).bind fun r123 => ((getI y96.2 y96.1)).bind fun r124 => ((setI y96.2 y96.1 r122)).bind fun r125 => some (.inl r125)) (((getI y96.2 y96.1)).bind fun r126 => ((getI y96.2 y96.1)).bind fun r127 => ((setI y96.2 y96.1 false)).bind fun r128 => some (.inl r128))) (((getI y96.2 r97.2.1)).bind fun r129 => ((getI y96.2 r97.2.1)).bind fun r130 => cond r130 (((getI y96.2 y96.1)).bind fun r131 => ((getI y96.2 y96.1)).bind fun r132 => ((setI y96.2 y96.1 true)).bind fun r133 => some (.inl r133)) (((getI y96.2 r97.2.2.1)).bind fun r134 => ((getI y96.2 r97.2.2.1)).bind fun r135 => ((getI y96.2 y96.1)).bind fun r136 => ((getI y96.2 y96.1)).bind fun r137 => ((setI y96.2 y96.1 r135)).bind fun r138 => some (.inl r138)))))))))) (fun y139 : (List Bool) => some (.inl ((w64 (y96.1 + (1 : Int))), y139)))) (outR (((getI y96.2 (w64 ((y96.2.length : Int) - (1 : Int))))).bind fun r140 => ((getI y96.2 (w64 ((y96.2.length : Int) - (1 : Int))))).bind fun r141 => some r141))) ((0 : Int), r95) := by kernel_rfl
def S55x : FuncId → Sp := fun g => match g with
  | 128 => { nz := [(11, [12])] }
  | _ => {}
noncomputable def F55x (P : Program) (lf : Nat) (x : tt [(true, (.pair .str (.pair (.sl (.pair .str (.pair .i .i))) (.sl Yq))))]) : Option (tt [(false, (.sl (.sl .i))), (false, .i)]) := fnF P (C57x P lf) S55x 55 [(true, (.pair .str (.pair (.sl (.pair .str (.pair .i .i))) (.sl Yq))))] [(false, (.sl (.sl .i))), (false, .i)] lf x
noncomputable def C55x (P : Program) (lf : Nat) : FuncId → Option Con := extC (C57x P lf) 55 (dataCon [(true, (.pair .str (.pair (.sl (.pair .str (.pair .i .i))) (.sl Yq))))] [(false, (.sl (.sl .i))), (false, .i)] (F55x P lf))
theorem F55x_eq (lf : Nat) (a0 : ByteArray) (a1 : Yf) (a2 : Yr) : F55x Tryz.prog lf (a0, (a1, a2)) =
  ((F31 Tryz.prog lf (a0, (a1, a2)))).bind fun r6 => cond (!(decide (r6 = (0 : Int)))) (some (([] : List (List Int)), r6)) (((F116 Tryz.prog lf (a0, (a1, a2)))).bind fun r7 => ((F115 Tryz.prog lf (a1, r7))).bind fun r8 => some (r8, (0 : Int))) := by kernel_rfl
def S51x : FuncId → Sp := fun g => match g with
  | 51 => { joins := [(30, [(.slot 125, .dat .bool)]), (23, [(.slot 8, .dat .bool), (.slot 11, .dat .str)]), (22, [(.slot 8, .dat .bool)])], loops := [(16, [(.slot 8, .dat .bool), (.slot 11, .dat .str), (.slot 77, .dat .i)]), (12, [(.slot 8, .dat .bool), (.slot 5, .own .str 9), (.slot 55, .dat .i)]), (6, [(.slot 5, .own .str 9), (.slot 29, .dat .i)])] }
  | 128 => { nz := [(11, [12])] }
  | _ => {}
noncomputable def F51x (P : Program) (lf : Nat) (x : tt [(true, (.pair .str (.pair (.sl (.pair .str (.pair .i .i))) (.sl Yq))))]) : Option (tt [(false, .str), (false, .i)]) := fnF P (C55x P lf) S51x 51 [(true, (.pair .str (.pair (.sl (.pair .str (.pair .i .i))) (.sl Yq))))] [(false, .str), (false, .i)] lf x
noncomputable def C51x (P : Program) (lf : Nat) : FuncId → Option Con := extC (C55x P lf) 51 (dataCon [(true, (.pair .str (.pair (.sl (.pair .str (.pair .i .i))) (.sl Yq))))] [(false, .str), (false, .i)] (F51x P lf))
theorem F51x_eq (lf : Nat) (a0 : ByteArray) (a1 : Yf) (a2 : Yr) : F51x Tryz.prog lf (a0, (a1, a2)) =
  ((F31 Tryz.prog lf (a0, (a1, a2)))).bind fun r52 => cond (!(decide (r52 = (0 : Int)))) (some ((bts []), r52)) (((catC (bts [99, 111, 100, 101, 32]) a0)).bind fun r53 => iter lf (fun y54 : ((List ByteArray) × Int) => cond (decide (y54.2 < (a1.length : Int))) (((getI a1 y54.2)).bind fun r55 => ((catC (bts [102, 97, 99, 116, 32]) r55.1)).bind fun r56 => ((catC ((bts [102, 97, 99, 116, 32]) ++ r55.1) (bts [32]))).bind fun r57 => ((itoaC r55.2.1)).bind fun r58 => ((catC (((bts [102, 97, 99, 116, 32]) ++ r55.1) ++ (bts [32])) r58)).bind fun r59 => ((catC ((((bts [102, 97, 99, 116, 32]) ++ r55.1) ++ (bts [32])) ++ r58) (bts [32]))).bind fun r60 => ((itoaC r55.2.2)).bind fun r61 => ((catC (((((bts [102, 97, 99, 116, 32]) ++ r55.1) ++ (bts [32])) ++ r58) ++ (bts [32])) r61)).bind fun r62 => ((appC y54.1 [((((((bts [102, 97, 99, 116, 32]) ++ r55.1) ++ (bts [32])) ++ r58) ++ (bts [32])) ++ r61)])).bind fun r63 => some (.inl (r63, (w64 (y54.2 + (1 : Int)))))) (outR (iter lf (fun y64 : (Bool × ((List ByteArray) × Int)) => cond (decide (y64.2.2 < (a2.length : Int))) (((getI a2 y64.2.2)).bind fun r65 => ((catC (bts [114, 117, 108, 101, 32]) r65.1)).bind fun r66 => ((catC ((bts [114, 117, 108, 101, 32]) ++ r65.1) (bts [32]))).bind fun r67 => ((itoaC r65.2.1)).bind fun r68 => ((catC (((bts [114, 117, 108, 101, 32]) ++ r65.1) ++ (bts [32])) r68)).bind fun r69 => ((catC ((((bts [114, 117, 108, 101, 32]) ++ r65.1) ++ (bts [32])) ++ r68) (bts [32]))).bind fun r70 => ((itoaC r65.2.2.1)).bind fun r71 => ((catC (((((bts [114, 117, 108, 101, 32]) ++ r65.1) ++ (bts [32])) ++ r68) ++ (bts [32])) r71)).bind fun r72 => iter lf (fun y73 : (Bool × (ByteArray × Int)) => cond (decide (y73.2.2 < (2 : Int))) (jn (cond (decide (y73.2.2 = (0 : Int))) (((F19 Tryz.prog lf r65.2.2.2.1)).bind fun r74 => cond (decide (r74.2 = (41 : Int))) (some (.inr (.inr (.inr ((bts []), r74.2))))) (jn (cond y73.1 (some (.inl true)) (some (.inl (!(decide (r74.2 = (0 : Int))))))) (fun y75 : Bool => cond (decide (y73.2.2 = (0 : Int))) (((catC (bts [32, 119, 104, 101, 110, 32]) r74.1)).bind fun r76 => ((catC y73.2.1 ((bts [32, 119, 104, 101, 110, 32]) ++ r74.1))).bind fun r77 => some (.inl (y75, (y73.2.1 ++ ((bts [32, 119, 104, 101, 110, 32]) ++ r74.1))))) (cond (decide (y73.2.2 = (1 : Int))) (((catC (bts [32, 109, 117, 115, 116, 32]) r74.1)).bind fun r78 => ((catC y73.2.1 ((bts [32, 109, 117, 115, 116, 32]) ++ r74.1))).bind fun r79 => some (.inl (y75, (y73.2.1 ++ ((bts [32, 109, 117, 115, 116, 32]) ++ r74.1))))) ((outI)))))) (cond (decide (y73.2.2 = (1 : Int))) (((F19 Tryz.prog lf r65.2.2.2.2.1)).bind fun r80 => cond (decide (r80.2 = (41 : Int))) (some (.inr (.inr (.inr ((bts []), r80.2))))) (jn (cond y73.1 (some (.inl true)) (some (.inl (!(decide (r80.2 = (0 : Int))))))) (fun y81 : Bool => cond (decide (y73.2.2 = (0 : Int))) (((catC (bts [32, 119, 104, 101, 110, 32]) r80.1)).bind fun r82 => ((catC y73.2.1 ((bts [32, 119, 104, 101, 110, 32]) ++ r80.1))).bind fun r83 => some (.inl (y81, (y73.2.1 ++ ((bts [32, 119, 104, 101, 110, 32]) ++ r80.1))))) (cond (decide (y73.2.2 = (1 : Int))) (((catC (bts [32, 109, 117, 115, 116, 32]) r80.1)).bind fun r84 => ((catC y73.2.1 ((bts [32, 109, 117, 115, 116, 32]) ++ r80.1))).bind fun r85 => some (.inl (y81, (y73.2.1 ++ ((bts [32, 109, 117, 115, 116, 32]) ++ r80.1))))) ((outI)))))) ((outI)))) (fun y86 : (Bool × ByteArray) => some (.inl (y86.1, (y86.2, (w64 (y73.2.2 + (1 : Int)))))))) (outR (cond (decide ((r65.2.2.2.2.2.length : Int) > (0 : Int))) (((joinC (bts [32]) r65.2.2.2.2.2)).bind fun r87 => ((catC (bts [32, 117, 110, 108, 101, 115, 115, 32]) r87)).bind fun r88 => ((catC y73.2.1 ((bts [32, 117, 110, 108, 101, 115, 115, 32]) ++ r87))).bind fun r89 => ((appC y64.2.1 [(y73.2.1 ++ ((bts [32, 117, 110, 108, 101, 115, 115, 32]) ++ r87))])).bind fun r90 => some (.inl (y73.1, (r90, (w64 (y64.2.2 + (1 : Int))))))) (((appC y64.2.1 [y73.2.1])).bind fun r91 => some (.inl (y73.1, (r91, (w64 (y64.2.2 + (1 : Int)))))))))) (y64.1, (((((((bts [114, 117, 108, 101, 32]) ++ r65.1) ++ (bts [32])) ++ r68) ++ (bts [32])) ++ r71), (0 : Int)))) (outR (((joinC (bts [10]) y64.2.1)).bind fun r92 => ((catC r92 (bts [10]))).bind fun r93 => jn (cond y64.1 (some (.inl true)) (some (.inl (decide (((r92 ++ (bts [10])).size : Int) > (8000 : Int)))))) (fun y94 : Bool => cond y94 (some ((bts []), (2 : Int))) (some ((r92 ++ (bts [10])), (0 : Int))))))) (false, (y54.1, (0 : Int)))))) ([((bts [99, 111, 100, 101, 32]) ++ a0)], (0 : Int))) := by kernel_rfl
def S11x : FuncId → Sp := fun g => match g with
  | 11 => { joins := [(28, [(.slot 201, .dat .bool)]), (17, [(.slot 131, .dat .bool)]), (13, [(.slot 115, .dat .bool)]), (7, [(.slot 75, .dat .bool)]), (3, [(.slot 31, .dat .bool)])], loops := [(24, [(.slot 148, .dat .i)]), (19, [(.slot 135, .dat .i)]), (9, [(.slot 79, .dat .i)])] }
  | 128 => { nz := [(11, [12])] }
  | _ => {}
noncomputable def F11x (P : Program) (lf : Nat) (x : tt [(true, (.pair .str (.pair (.sl (.pair .str (.pair .i .i))) (.sl Yq))))]) : Option (tt [(false, .bool)]) := fnF P (C51x P lf) S11x 11 [(true, (.pair .str (.pair (.sl (.pair .str (.pair .i .i))) (.sl Yq))))] [(false, .bool)] lf x
theorem F11x_eq (lf : Nat) (a0 : ByteArray) (a1 : Yf) (a2 : Yr) : F11x Tryz.prog lf (a0, (a1, a2)) =
  ((F51x Tryz.prog lf (a0, (a1, a2)))).bind fun r32 => jn (cond (!(decide (r32.2 = (0 : Int)))) (some (.inl true)) (((F32 Tryz.prog lf (a0, (a1, a2)))).bind fun r33 => some (.inl (!(decide (r33 = (0 : Int))))))) (fun y34 : Bool => cond y34 (cond (!(decide (r32.2 = (0 : Int)))) (((F22 Tryz.prog lf ())).bind fun r35 => some r35) (some false)) (((F49 Tryz.prog lf r32.1)).bind fun r36 => ((F51x Tryz.prog lf (r36.1.1, (r36.1.2.1, r36.1.2.2)))).bind fun r37 => jn (cond (!(decide (r36.2.2 = (0 : Int)))) (some (.inl true)) (cond (!(decide (r37.2 = (0 : Int)))) (some (.inl true)) (cond (!((ByteArray.toList r32.1) == (ByteArray.toList r37.1))) (some (.inl true)) (((F54x Tryz.prog lf (a1, r36.1.2.1))).bind fun r38 => cond (!r38) (some (.inl true)) (some (.inl (!(decide ((a2.length : Int) = (r36.1.2.2.length : Int)))))))))) (fun y39 : Bool => cond y39 (some false) (iter lf (fun y40 : Int => cond (decide (y40 < (a2.length : Int))) (((getI a2 y40)).bind fun r41 => ((getI r36.1.2.2 y40)).bind fun r42 => jn (cond (!((ByteArray.toList r41.1) == (ByteArray.toList r42.1))) (some (.inl true)) (cond (!(decide (r41.2.1 = r42.2.1))) (some (.inl true)) (cond (!(decide (r41.2.2.1 = r42.2.2.1))) (some (.inl true)) (((F33 Tryz.prog lf (r41.2.2.2.2.2, r42.2.2.2.2.2))).bind fun r43 => some (.inl (!r43)))))) (fun y44 : Bool => cond y44 (some (.inr false)) (some (.inl (w64 (y40 + (1 : Int))))))) (outR (((F55x Tryz.prog lf (a0, (a1, a2)))).bind fun r45 => jn (cond (!(decide (r45.2 = (0 : Int)))) (some (.inl true)) (some (.inl (!(decide ((r45.1.length : Int) = (a1.length : Int))))))) (fun y46 : Bool => cond y46 (some false) (((F56x Tryz.prog lf r45.1)).bind fun r47 => iter lf (fun y48 : Int => cond (decide (y48 < (r47.length : Int))) (((getI r47 y48)).bind fun r49 => cond (!(decide ((r49.length : Int) = (a1.length : Int)))) (some (.inr false)) (iter lf (fun y50 : Int => cond (decide (y50 < (a2.length : Int))) (((getI a2 y50)).bind fun r51 => ((getI r36.1.2.2 y50)).bind fun r52 => jn (((F30 Tryz.prog lf (a1, r52.2.2.2.1))).bind fun r53 => cond (!(decide (r53 = (0 : Int)))) (some (.inl true)) (((F30 Tryz.prog lf (a1, r52.2.2.2.2.1))).bind fun r54 => cond (!(decide (r54 = (0 : Int)))) (some (.inl true)) (((F57x Tryz.prog lf (a1, (r51.2.2.2.1, r49)))).bind fun r55 => ((F57x Tryz.prog lf (a1, (r52.2.2.2.1, r49)))).bind fun r56 => cond (!(decide (r55 = r56))) (some (.inl true)) (((F57x Tryz.prog lf (a1, (r51.2.2.2.2.1, r49)))).bind fun r57 => ((F57x Tryz.prog lf (a1, (r52.2.2.2.2.1, r49)))).bind fun r58 => some (.inl (!(decide (r57 = r58)))))))) (fun y59 : Bool => cond y59 (some (.inr (.inr false))) (some (.inl (w64 (y50 + (1 : Int))))))) (some (.inr (.inl (w64 (y48 + (1 : Int))))))) (0 : Int))) (outR (((F22 Tryz.prog lf ())).bind fun r60 => some r60))) (0 : Int)))))) (0 : Int))))) := by kernel_rfl
end Go.K
namespace Go.K
open Go.Sl Go.Sx Go.Proofs
theorem F54x_G (lf : Nat) (x : (Yf × Yf)) : F54x Tryz.prog lf x = G54 lf x := (F54x_eq lf x.1 x.2).trans (by
  unfold G54
  (try simp only [agree_self, Lib.toList_data]); first | done | rfl)
theorem F56x_G (lf : Nat) (x : (List (List Int))) : F56x Tryz.prog lf x = G56 lf x := (F56x_eq lf x).trans (by
  unfold G56
  (try simp only [agree_self, Lib.toList_data]); first | done | rfl)
theorem F57x_G (lf : Nat) (x : (Yf × (Yt × (List Int)))) : F57x Tryz.prog lf x = G57 lf x := (F57x_eq lf x.1 x.2.1 x.2.2).trans (by
  unfold G57
  (try simp only [F98_G, F111_G, agree_self, Lib.toList_data]); first | done | rfl)
theorem F55x_G (lf : Nat) (x : (ByteArray × (Yf × Yr))) : F55x Tryz.prog lf x = G55 lf x := (F55x_eq lf x.1 x.2.1 x.2.2).trans (by
  unfold G55
  (try simp only [F31_G, F115_G, F116_G, agree_self, Lib.toList_data]); first | done | rfl)
theorem F51x_G (lf : Nat) (x : (ByteArray × (Yf × Yr))) : F51x Tryz.prog lf x = G51 lf x := (F51x_eq lf x.1 x.2.1 x.2.2).trans (by
  unfold G51
  (try simp only [F19_G, F31_G, agree_self, Lib.toList_data]); first | done | rfl)
theorem F11x_G (lf : Nat) (x : (ByteArray × (Yf × Yr))) : F11x Tryz.prog lf x = G11 lf x := (F11x_eq lf x.1 x.2.1 x.2.2).trans (by
  unfold G11
  (try simp only [F22_G, F30_G, F32_G, F33_G, F49_G, F51x_G, F54x_G, F55x_G, F56x_G, F57x_G, agree_self, Lib.toList_data]); first | done | rfl)
end Go.K
namespace Go.K
open Go.Sl Go.Sx Go.Proofs Go.Shelf Go.RowKit
variable {P : Program} {ρ' : Ren} {E : Env}
theorem foldl_sum (k : Nat) : ∀ (xs : List ByteArray) (n : Nat), xs.foldl (fun n x => n + x.size + k) n = n + (xs.map fun x => x.size + k).sum
  | [], n => by simp
  | x :: xs, n => by rw [List.foldl_cons, foldl_sum k xs]; simp; omega
theorem join_data (sep : ByteArray) : ∀ (xs : List ByteArray) (r : ByteArray), (xs.foldl (fun r y => r ++ sep ++ y) r).data.toList = r.data.toList ++ (xs.map fun y => sep.data.toList ++ y.data.toList).flatten
  | [], r => by simp
  | y :: xs, r => by rw [List.foldl_cons, join_data sep xs]; simp [ByteArray.data_append]
theorem size_len' (s : ByteArray) : s.size = s.data.toList.length := by simp
theorem lens_eq : ∀ xs : List ByteArray, Lib.lens (xs.map (·.data.toList)) = (xs.map (·.size)).sum
  | [] => rfl
  | x :: xs => by
    have := lens_eq xs
    simp only [Lib.lens, List.map_cons, List.flatten_cons, List.length_append, List.sum_cons] at this ⊢
    rw [this, size_len']
theorem sum_add (k : Nat) : ∀ xs : List ByteArray, (xs.map fun x => x.size + (k + 1)).sum = (xs.map (·.size)).sum + k * xs.length + xs.length
  | [] => by simp
  | x :: xs => by
    simp only [List.map_cons, List.sum_cons, sum_add k xs, List.length_cons, Nat.mul_add]; omega
theorem joinC_lib {sep : ByteArray} {xs : List ByteArray} {y : ByteArray} (h : joinC sep xs = some y) : y = ⟨(Lib.join (xs.map (·.data.toList)) sep.data.toList).toArray⟩ ∧ (Lib.join (xs.map (·.data.toList)) sep.data.toList).length ≤ 140737488355328 ∧ xs.length ≤ 140737488355328 := by
  unfold joinC at h
  split at h
  · rename_i hc
    rw [foldl_sum, sum_add] at hc
    have hll := lens_eq xs
    cases xs with
    | nil =>
      simp only [Option.some.injEq] at h
      subst h
      exact ⟨rfl, by simp [Lib.join_nil], by simp⟩
    | cons x xs =>
      simp only [Option.some.injEq] at h
      have hj : (Lib.join ((x :: xs).map (·.data.toList)) sep.data.toList) = y.data.toList := by
        rw [← h, join_data, List.map_cons, Lib.join_cons]
        congr 1
        unfold Lib.joinTail
        rw [List.map_map]
        rfl
      have hlen := Lib.join_length x.data.toList (xs.map (·.data.toList)) sep.data.toList
      rw [List.map_cons] at hj hll
      simp only [List.length_cons, List.length_map] at hc hlen
      rw [hll] at hlen
      refine ⟨?_, ?_, ?_⟩
      · rw [List.map_cons, hj]
      · rw [List.map_cons, hlen]
        have hs : sep.data.toList.length = sep.size := (size_len' sep).symm
        rw [hs]
        have := Nat.mul_le_mul (Nat.le_refl sep.size) (show xs.length ≤ xs.length + 1 by omega)
        omega
      · simp only [List.length_cons]; omega
  · cases h
theorem join_valid (Ly : Lays.n156 P ρ') (X : Builder.Extra P ρ') : Valid E P (ρ'.f 156) [aSs, aS] [aS] fun x => joinC x.2 x.1 := by
  intro x y hx z L w vs hz hrep hs
  obtain ⟨v, r, rfl, hv, u, rfl, hu⟩ := hrep
  have h2 := rep_str hu
  subst h2
  obtain ⟨rfl, hl, hn⟩ := joinC_lib hx
  have hv' := rep1 hv
  obtain ⟨o, c, e1, hsl⟩ := hv'
  simp only [List.cons.injEq, and_true] at e1
  subst e1
  have fin : ∀ (o : Option Addr), (o = none → x.1 = []) → (∀ a, o = some a → ∀ j s, x.1[j]? = some s → z.cell? (a.add j) = some (.string s)) → x.1.length ≤ c → Calls P (ρ'.f 156) #[.slice o x.1.length c, .string x.2] w fun e w' => e = .returned (.string ⟨(Lib.join (x.1.map (·.data.toList)) x.2.data.toList).toArray⟩) ∧ Below w.heap.size w w' := by
    intro o h0 h1 hcap
    cases hx1 : x.1 with
    | nil =>
      simp only [List.length_nil]
      refine (Any.strings_Join_none Ly X o c x.2 w).mono fun e w' ⟨he, hw⟩ => ⟨he, hw ▸ Below.refl _ _⟩
    | cons s0 ss =>
      cases o with
      | none => rw [h0 rfl] at hx1; cases hx1
      | some a =>
        have hc0 := h1 a rfl 0 s0 (by rw [hx1]; rfl)
        have hspot : a.spot = none ∧ (a.add 0) = a := by
          constructor
          · unfold Zone.cell? at hc0
            split at hc0
            · split at hc0
              · cases hc0
              · rename_i hsp
                rw [add_zero' a] at hsp
                cases hs : a.spot with
                | none => rfl
                | some q => rw [hs] at hsp; simp at hsp
            · cases hc0
          · exact add_zero' a
        obtain ⟨bk, off, sp⟩ := a
        obtain ⟨hsp, _⟩ := hspot
        simp only at hsp
        subst hsp
        have hcell : ∀ (j : Nat) s, (s0 :: ss)[j]? = some s → w.cell? ⟨bk, off + j, none⟩ = some (.string s) := fun j s hj => by
          have := h1 _ rfl j s (by rw [hx1]; exact hj)
          have := hs.cell this
          have ha : (⟨bk, off, none⟩ : Addr).add j = ⟨bk, off + j, none⟩ := by unfold Addr.add; split <;> simp_all
          rwa [ha] at this
        have hbk : bk < w.heap.size := by
          have := hcell 0 s0 rfl
          unfold World.cell? at this
          cases hb : w.heap[bk]? with
          | none => rw [hb] at this; cases this
          | some ob => exact (Array.getElem?_eq_some_iff.1 hb).1
        rw [hx1] at hl hn hcap
        exact Any.strings_Join Ly X bk off c (s0 :: ss) x.2 w hcell hbk hn hcap hl
  refine (fin o (fun e => (hsl.hnil e).1) (fun a e j s hj => ?_) hsl.hcap).mono ?_
  · obtain ⟨cs, hr, hc⟩ := hsl.hat a e j s hj
    have hr' : cs = [.string s] := hr
    have := hc 0 (.string s) (by rw [hr']; rfl)
    have e1 : j * (TC.str.ty).size = j := by show j * 1 = j; omega
    rw [e1] at this
    rwa [add_zero'] at this
  · rintro en w' ⟨rfl, hb⟩
    exact ⟨_, z, rfl, Zone.le_refl _, ⟨[.string _], rfl, _, rfl, .inr ⟨rfl, rfl⟩⟩, hs.of_below hb⟩
end Go.K
namespace Go.Proofs
open Go.Shelf Go.RowKit Go.Lib
theorem Tryz.isBlank (W : World) (r : Nat) : FnGives Tryz.prog 158 #[] #[encR r] (.bool (Nat.beq r 32)) W := by
  unfold FnGives
  have e : Nat.beq r 32 = decide ((r : Int) = 32) := by
    cases h : Nat.beq r 32 with
    | true => have := Nat.eq_of_beq_eq_true h; simp; omega
    | false => have := Nat.ne_of_beq_eq_false h; simp; omega
  rw [e]
  go_enter Tryz.func158, Tryz.ntmps158
  go_wp2
  go_ret
  exact ⟨rfl, 0, rfl⟩
theorem Tryz.extraB : Builder.Extra Tryz.prog Tryz.join_ren := {
  sizeBuilder := by kernel_rfl
  liesBuilder := by kernel_rfl
  t5 := Tryz.underlying5
  a5 := Tryz.isAgg5
  z5 := Tryz.sizeOf5
  v5 := Tryz.zeroValue5
  infoByte := by kernel_rfl
  cellsByte := by kernel_rfl
  sizeByte := by kernel_rfl
  neB5 := by decide }
end Go.Proofs
namespace Go.K
open Go.Sl Go.Sx Go.Proofs Go.Shelf Go.RowKit
theorem mixedT : Tryz.prog.follows .mixedOrders = true := by kernel_rfl
abbrev HC (E : Env) (C : FuncId → Option Con) : Prop := ∀ L, envA E ∈ L → ∀ g con, C g = some con → ConOk Tryz.prog L con g
theorem sort_row : RowOk Tryz.prog 182 .i sortL := ⟨fun xs => (sortL_len xs).symm, fun hS hj hl => sortOwn Tryz.sortI hS hj hl⟩
theorem comp_cut : CutOk Tryz.prog 183 .i compL := fun hS hj hl => compactOwn Tryz.compactI hS hj hl
theorem ct_ok (lf : Nat) : HC (envT Tryz.prog 0) (CT Tryz.prog lf) := by
  intro L hL
  unfold CT
  refine extC_ok (extC_ok (extC_ok (extC_ok (extC_ok (extC_ok (extC_ok (extC_ok (fun g con h => by cases h) ?a) ?b) ?c) ?d) ?e) ?f) ?g) ?h
  case a => exact dataCon_ok (itoa_valid Tryz.itoa) hL
  case b => exact dataCon_ok (trim_valid Tryz.trim (by kernel_rfl)) hL
  case c => exact rowCon_ok sort_row
  case d => exact cutCon_ok comp_cut
  case e => exact dataCon_ok (split_valid Tryz.split (by kernel_rfl)) hL
  case f => exact atoiCon_ok Tryz.atoi
  case g => exact fieldsCon_ok Tryz.fields (enters_of Tryz.func158 (by kernel_rfl) rfl) (fun W x => Tryz.isBlank W x) (by kernel_rfl) (by kernel_rfl)
  case h => exact dataCon_ok (join_valid Tryz.join Tryz.extraB) hL
end Go.K
namespace Go.K
open Go.Sl Go.Sx Go.Proofs
theorem kcCT : HC (envT Tryz.prog 0) (CT Tryz.prog LF) := ct_ok LF
theorem kc91 : HC (envT Tryz.prog 0) (C91 Tryz.prog LF) := fun L hL => extC_ok (kcCT L hL) (dataCon_ok (fnF_valid mixedT kcCT 91 _ _ LF) hL)
theorem kc223 : HC (envT Tryz.prog 0) (C223 Tryz.prog LF) := fun L hL => extC_ok (kc91 L hL) (dataCon_ok (fnF_valid mixedT kc91 223 _ _ LF) hL)
theorem kc180 : HC (envT Tryz.prog 0) (C180 Tryz.prog LF) := fun L hL => extC_ok (kc223 L hL) (dataCon_ok (fnF_valid mixedT kc223 180 _ _ LF) hL)
theorem kc165 : HC (envT Tryz.prog 0) (C165 Tryz.prog LF) := fun L hL => extC_ok (kc180 L hL) (dataCon_ok (fnF_valid mixedT kc180 165 _ _ LF) hL)
theorem kc94 : HC (envT Tryz.prog 0) (C94 Tryz.prog LF) := fun L hL => extC_ok (kc165 L hL) (dataCon_ok (fnF_valid mixedT kc165 94 _ _ LF) hL)
theorem kc158 : HC (envT Tryz.prog 0) (C158 Tryz.prog LF) := fun L hL => extC_ok (kc94 L hL) (dataCon_ok (fnF_valid mixedT kc94 158 _ _ LF) hL)
theorem kc86 : HC (envT Tryz.prog 0) (C86 Tryz.prog LF) := fun L hL => extC_ok (kc158 L hL) (dataCon_ok (fnF_valid mixedT kc158 86 _ _ LF) hL)
theorem kc244 : HC (envT Tryz.prog 0) (C244 Tryz.prog LF) := fun L hL => extC_ok (kc86 L hL) (dataCon_ok (fnF_valid mixedT kc86 244 _ _ LF) hL)
theorem kc215 : HC (envT Tryz.prog 0) (C215 Tryz.prog LF) := fun L hL => extC_ok (kc244 L hL) (refCon_ok (fnR_valid mixedT kc244 215 _ _ _ _ _ _ LF) hL)
theorem kc216 : HC (envT Tryz.prog 0) (C216 Tryz.prog LF) := fun L hL => extC_ok (kc215 L hL) (refCon_ok (fnR_valid mixedT kc215 216 _ _ _ _ _ _ LF) hL)
theorem kc162 : HC (envT Tryz.prog 0) (C162 Tryz.prog LF) := fun L hL => extC_ok (kc216 L hL) (refCon_ok (recR_valid mixedT kc216 (fun _ => rfl) (fun _ _ => rfl) LF) hL)
theorem kc17 : HC (envT Tryz.prog 0) (C17 Tryz.prog LF) := fun L hL => extC_ok (kc162 L hL) (dataCon_ok (fnF_valid mixedT kc162 17 _ _ LF) hL)
theorem kc110 : HC (envT Tryz.prog 0) (C110 Tryz.prog LF) := fun L hL => extC_ok (kc17 L hL) (dataCon_ok (fnF_valid mixedT kc17 110 _ _ LF) hL)
theorem kc190 : HC (envT Tryz.prog 0) (C190 Tryz.prog LF) := fun L hL => extC_ok (kc110 L hL) (dataCon_ok (fnF_valid mixedT kc110 190 _ _ LF) hL)
theorem kc188 : HC (envT Tryz.prog 0) (C188 Tryz.prog LF) := fun L hL => extC_ok (kc190 L hL) (dataCon_ok (fnF_valid mixedT kc190 188 _ _ LF) hL)
theorem kc189 : HC (envT Tryz.prog 0) (C189 Tryz.prog LF) := fun L hL => extC_ok (kc188 L hL) (dataCon_ok (fnF_valid mixedT kc188 189 _ _ LF) hL)
theorem kc191 : HC (envT Tryz.prog 0) (C191 Tryz.prog LF) := fun L hL => extC_ok (kc189 L hL) (dataCon_ok (fnF_valid mixedT kc189 191 _ _ LF) hL)
theorem kc192 : HC (envT Tryz.prog 0) (C192 Tryz.prog LF) := fun L hL => extC_ok (kc191 L hL) (dataCon_ok (fnF_valid mixedT kc191 192 _ _ LF) hL)
theorem kc193 : HC (envT Tryz.prog 0) (C193 Tryz.prog LF) := fun L hL => extC_ok (kc192 L hL) (dataCon_ok (fnF_valid mixedT kc192 193 _ _ LF) hL)
theorem kc194 : HC (envT Tryz.prog 0) (C194 Tryz.prog LF) := fun L hL => extC_ok (kc193 L hL) (dataCon_ok (fnF_valid mixedT kc193 194 _ _ LF) hL)
theorem kc195 : HC (envT Tryz.prog 0) (C195 Tryz.prog LF) := fun L hL => extC_ok (kc194 L hL) (dataCon_ok (fnF_valid mixedT kc194 195 _ _ LF) hL)
theorem kc131 : HC (envT Tryz.prog 0) (C131 Tryz.prog LF) := fun L hL => extC_ok (kc195 L hL) (dataCon_ok (fnF_valid mixedT kc195 131 _ _ LF) hL)
theorem kc147 : HC (envT Tryz.prog 0) (C147 Tryz.prog LF) := fun L hL => extC_ok (kc131 L hL) (dataCon_ok (fnF_valid mixedT kc131 147 _ _ LF) hL)
theorem kc36 : HC (envT Tryz.prog 0) (C36 Tryz.prog LF) := fun L hL => extC_ok (kc147 L hL) (dataCon_ok (fnF_valid mixedT kc147 36 _ _ LF) hL)
theorem kc130 : HC (envT Tryz.prog 0) (C130 Tryz.prog LF) := fun L hL => extC_ok (kc36 L hL) (dataCon_ok (fnF_valid mixedT kc36 130 _ _ LF) hL)
theorem kc116 : HC (envT Tryz.prog 0) (C116 Tryz.prog LF) := fun L hL => extC_ok (kc130 L hL) (dataCon_ok (fnF_valid mixedT kc130 116 _ _ LF) hL)
theorem kc181 : HC (envT Tryz.prog 0) (C181 Tryz.prog LF) := fun L hL => extC_ok (kc116 L hL) (dataCon_ok (fnF_valid mixedT kc116 181 _ _ LF) hL)
theorem kc115 : HC (envT Tryz.prog 0) (C115 Tryz.prog LF) := fun L hL => extC_ok (kc181 L hL) (dataCon_ok (fnF_valid mixedT kc181 115 _ _ LF) hL)
theorem kc106 : HC (envT Tryz.prog 0) (C106 Tryz.prog LF) := fun L hL => extC_ok (kc115 L hL) (dataCon_ok (fnF_valid mixedT kc115 106 _ _ LF) hL)
theorem kc174 : HC (envT Tryz.prog 0) (C174 Tryz.prog LF) := fun L hL => extC_ok (kc106 L hL) (dataCon_ok (fnF_valid mixedT kc106 174 _ _ LF) hL)
theorem kc125 : HC (envT Tryz.prog 0) (C125 Tryz.prog LF) := fun L hL => extC_ok (kc174 L hL) (dataCon_ok (fnF_valid mixedT kc174 125 _ _ LF) hL)
theorem kc133 : HC (envT Tryz.prog 0) (C133 Tryz.prog LF) := fun L hL => extC_ok (kc125 L hL) (dataCon_ok (fnF_valid mixedT kc125 133 _ _ LF) hL)
theorem kc104 : HC (envT Tryz.prog 0) (C104 Tryz.prog LF) := fun L hL => extC_ok (kc133 L hL) (dataCon_ok (fnF_valid mixedT kc133 104 _ _ LF) hL)
theorem kc266 : HC (envT Tryz.prog 0) (C266 Tryz.prog LF) := fun L hL => extC_ok (kc104 L hL) (dataCon_ok (fnF_valid mixedT kc104 266 _ _ LF) hL)
theorem kc199 : HC (envT Tryz.prog 0) (C199 Tryz.prog LF) := fun L hL => extC_ok (kc266 L hL) (panCon_ok (fnP_valid mixedT kc266 199 _ _ _ _ LF) hL)
theorem kc198 : HC (envT Tryz.prog 0) (C198 Tryz.prog LF) := fun L hL => extC_ok (kc199 L hL) (refCon_ok (fnR_valid mixedT kc199 198 _ _ _ _ _ _ LF) hL)
theorem kc200 : HC (envT Tryz.prog 0) (C200 Tryz.prog LF) := fun L hL => extC_ok (kc198 L hL) (refCon_ok (fnR_valid mixedT kc198 200 _ _ _ _ _ _ LF) hL)
theorem kc239 : HC (envT Tryz.prog 0) (C239 Tryz.prog LF) := fun L hL => extC_ok (kc200 L hL) (refCon_ok (fnR_valid mixedT kc200 239 _ _ _ _ _ _ LF) hL)
theorem kc201 : HC (envT Tryz.prog 0) (C201 Tryz.prog LF) := fun L hL => extC_ok (kc239 L hL) (refCon_ok (fnR_valid mixedT kc239 201 _ _ _ _ _ _ LF) hL)
theorem kc240 : HC (envT Tryz.prog 0) (C240 Tryz.prog LF) := fun L hL => extC_ok (kc201 L hL) (refCon_ok (fnR_valid mixedT kc201 240 _ _ _ _ _ _ LF) hL)
theorem kc202 : HC (envT Tryz.prog 0) (C202 Tryz.prog LF) := fun L hL => extC_ok (kc240 L hL) (refCon_ok (fnR_valid mixedT kc240 202 _ _ _ _ _ _ LF) hL)
theorem kc93 : HC (envT Tryz.prog 0) (C93 Tryz.prog LF) := fun L hL => extC_ok (kc202 L hL) (dataCon_ok (fnF_valid mixedT kc202 93 _ _ LF) hL)
theorem kc92 : HC (envT Tryz.prog 0) (C92 Tryz.prog LF) := fun L hL => extC_ok (kc93 L hL) (dataCon_ok (fnF_valid mixedT kc93 92 _ _ LF) hL)
theorem kc29 : HC (envT Tryz.prog 0) (C29 Tryz.prog LF) := fun L hL => extC_ok (kc92 L hL) (dataCon_ok (fnF_valid mixedT kc92 29 _ _ LF) hL)
theorem kc112 : HC (envT Tryz.prog 0) (C112 Tryz.prog LF) := fun L hL => extC_ok (kc29 L hL) (dataCon_ok (fnF_valid mixedT kc29 112 _ _ LF) hL)
theorem kc113 : HC (envT Tryz.prog 0) (C113 Tryz.prog LF) := fun L hL => extC_ok (kc112 L hL) (dataCon_ok (fnF_valid mixedT kc112 113 _ _ LF) hL)
theorem kc114 : HC (envT Tryz.prog 0) (C114 Tryz.prog LF) := fun L hL => extC_ok (kc113 L hL) (dataCon_ok (fnF_valid mixedT kc113 114 _ _ LF) hL)
theorem kc31 : HC (envT Tryz.prog 0) (C31 Tryz.prog LF) := fun L hL => extC_ok (kc114 L hL) (dataCon_ok (fnF_valid mixedT kc114 31 _ _ LF) hL)
theorem kc62 : HC (envT Tryz.prog 0) (C62 Tryz.prog LF) := fun L hL => extC_ok (kc31 L hL) (dataCon_ok (fnF_valid mixedT kc31 62 _ _ LF) hL)
theorem kc61 : HC (envT Tryz.prog 0) (C61 Tryz.prog LF) := fun L hL => extC_ok (kc62 L hL) (dataCon_ok (fnF_valid mixedT kc62 61 _ _ LF) hL)
theorem kc222 : HC (envT Tryz.prog 0) (C222 Tryz.prog LF) := fun L hL => extC_ok (kc61 L hL) (dataCon_ok (fnF_valid mixedT kc61 222 _ _ LF) hL)
theorem kc173 : HC (envT Tryz.prog 0) (C173 Tryz.prog LF) := fun L hL => extC_ok (kc222 L hL) (dataCon_ok (fnF_valid mixedT kc222 173 _ _ LF) hL)
theorem kc23 : HC (envT Tryz.prog 0) (C23 Tryz.prog LF) := fun L hL => extC_ok (kc173 L hL) (dataCon_ok (fnF_valid mixedT kc173 23 _ _ LF) hL)
theorem kc24 : HC (envT Tryz.prog 0) (C24 Tryz.prog LF) := fun L hL => extC_ok (kc23 L hL) (dataCon_ok (fnF_valid mixedT kc23 24 _ _ LF) hL)
theorem kc127 : HC (envT Tryz.prog 0) (C127 Tryz.prog LF) := fun L hL => extC_ok (kc24 L hL) (dataCon_ok (fnF_valid mixedT kc24 127 _ _ LF) hL)
theorem kc132 : HC (envT Tryz.prog 0) (C132 Tryz.prog LF) := fun L hL => extC_ok (kc127 L hL) (dataCon_ok (fnF_valid mixedT kc127 132 _ _ LF) hL)
theorem kc47 : HC (envT Tryz.prog 0) (C47 Tryz.prog LF) := fun L hL => extC_ok (kc132 L hL) (dataCon_ok (fnF_valid mixedT kc132 47 _ _ LF) hL)
theorem kc49 : HC (envT Tryz.prog 0) (C49 Tryz.prog LF) := fun L hL => extC_ok (kc47 L hL) (dataCon_ok (fnF_valid mixedT kc47 49 _ _ LF) hL)
theorem kc167 : HC (envT Tryz.prog 0) (C167 Tryz.prog LF) := fun L hL => extC_ok (kc49 L hL) (dataCon_ok (fnF_valid mixedT kc49 167 _ _ LF) hL)
theorem kc246 : HC (envT Tryz.prog 0) (C246 Tryz.prog LF) := fun L hL => extC_ok (kc167 L hL) (dataCon_ok (fnF_valid mixedT kc167 246 _ _ LF) hL)
theorem kc220 : HC (envT Tryz.prog 0) (C220 Tryz.prog LF) := fun L hL => extC_ok (kc246 L hL) (dataCon_ok (fnF_valid mixedT kc246 220 _ _ LF) hL)
theorem kc166 : HC (envT Tryz.prog 0) (C166 Tryz.prog LF) := fun L hL => extC_ok (kc220 L hL) (dataCon_ok (fnF_valid mixedT kc220 166 _ _ LF) hL)
theorem kc95 : HC (envT Tryz.prog 0) (C95 Tryz.prog LF) := fun L hL => extC_ok (kc166 L hL) (dataCon_ok (fnF_valid mixedT kc166 95 _ _ LF) hL)
theorem kc96 : HC (envT Tryz.prog 0) (C96 Tryz.prog LF) := fun L hL => extC_ok (kc95 L hL) (dataCon_ok (rec_valid mixedT kc95 (fun _ => rfl) (fun _ _ => rfl) LF) hL)
theorem kc19 : HC (envT Tryz.prog 0) (C19 Tryz.prog LF) := fun L hL => extC_ok (kc96 L hL) (dataCon_ok (fnF_valid mixedT kc96 19 _ _ LF) hL)
theorem kc128 : HC (envT Tryz.prog 0) (C128 Tryz.prog LF) := fun L hL => extC_ok (kc19 L hL) (dataCon_ok (fnF_valid mixedT kc19 128 _ _ LF) hL)
theorem kc41 : HC (envT Tryz.prog 0) (C41 Tryz.prog LF) := fun L hL => extC_ok (kc128 L hL) (dataCon_ok (fnF_valid mixedT kc128 41 _ _ LF) hL)
theorem kc102 : HC (envT Tryz.prog 0) (C102 Tryz.prog LF) := fun L hL => extC_ok (kc41 L hL) (dataCon_ok (fnF_valid mixedT kc41 102 _ _ LF) hL)
theorem kc22 : HC (envT Tryz.prog 0) (C22 Tryz.prog LF) := fun L hL => extC_ok (kc102 L hL) (dataCon_ok (fnF_valid mixedT kc102 22 _ _ LF) hL)
theorem kc126 : HC (envT Tryz.prog 0) (C126 Tryz.prog LF) := fun L hL => extC_ok (kc22 L hL) (dataCon_ok (fnF_valid mixedT kc22 126 _ _ LF) hL)
theorem kc168 : HC (envT Tryz.prog 0) (C168 Tryz.prog LF) := fun L hL => extC_ok (kc126 L hL) (dataCon_ok (fnF_valid mixedT kc126 168 _ _ LF) hL)
theorem kc84 : HC (envT Tryz.prog 0) (C84 Tryz.prog LF) := fun L hL => extC_ok (kc168 L hL) (dataCon_ok (fnF_valid mixedT kc168 84 _ _ LF) hL)
theorem kc99 : HC (envT Tryz.prog 0) (C99 Tryz.prog LF) := fun L hL => extC_ok (kc84 L hL) (dataCon_ok (fnF_valid mixedT kc84 99 _ _ LF) hL)
theorem kc117 : HC (envT Tryz.prog 0) (C117 Tryz.prog LF) := fun L hL => extC_ok (kc99 L hL) (dataCon_ok (fnF_valid mixedT kc99 117 _ _ LF) hL)
theorem kc98 : HC (envT Tryz.prog 0) (C98 Tryz.prog LF) := fun L hL => extC_ok (kc117 L hL) (dataCon_ok (fnF_valid mixedT kc117 98 _ _ LF) hL)
theorem kc97 : HC (envT Tryz.prog 0) (C97 Tryz.prog LF) := fun L hL => extC_ok (kc98 L hL) (dataCon_ok (fnF_valid mixedT kc98 97 _ _ LF) hL)
theorem kc111 : HC (envT Tryz.prog 0) (C111 Tryz.prog LF) := fun L hL => extC_ok (kc97 L hL) (dataCon_ok (fnF_valid mixedT kc97 111 _ _ LF) hL)
theorem kc30 : HC (envT Tryz.prog 0) (C30 Tryz.prog LF) := fun L hL => extC_ok (kc111 L hL) (dataCon_ok (fnF_valid mixedT kc111 30 _ _ LF) hL)
theorem kc37 : HC (envT Tryz.prog 0) (C37 Tryz.prog LF) := fun L hL => extC_ok (kc30 L hL) (dataCon_ok (fnF_valid mixedT kc30 37 _ _ LF) hL)
theorem kc118 : HC (envT Tryz.prog 0) (C118 Tryz.prog LF) := fun L hL => extC_ok (kc37 L hL) (dataCon_ok (fnF_valid mixedT kc37 118 _ _ LF) hL)
theorem kc109 : HC (envT Tryz.prog 0) (C109 Tryz.prog LF) := fun L hL => extC_ok (kc118 L hL) (dataCon_ok (fnF_valid mixedT kc118 109 _ _ LF) hL)
theorem kc176 : HC (envT Tryz.prog 0) (C176 Tryz.prog LF) := fun L hL => extC_ok (kc109 L hL) (dataCon_ok (fnF_valid mixedT kc109 176 _ _ LF) hL)
theorem kc177 : HC (envT Tryz.prog 0) (C177 Tryz.prog LF) := fun L hL => extC_ok (kc176 L hL) (dataCon_ok (fnF_valid mixedT kc176 177 _ _ LF) hL)
theorem kc108 : HC (envT Tryz.prog 0) (C108 Tryz.prog LF) := fun L hL => extC_ok (kc177 L hL) (dataCon_ok (fnF_valid mixedT kc177 108 _ _ LF) hL)
theorem kc120 : HC (envT Tryz.prog 0) (C120 Tryz.prog LF) := fun L hL => extC_ok (kc108 L hL) (dataCon_ok (fnF_valid mixedT kc108 120 _ _ LF) hL)
theorem kc119 : HC (envT Tryz.prog 0) (C119 Tryz.prog LF) := fun L hL => extC_ok (kc120 L hL) (dataCon_ok (fnF_valid mixedT kc120 119 _ _ LF) hL)
theorem kc32 : HC (envT Tryz.prog 0) (C32 Tryz.prog LF) := fun L hL => extC_ok (kc119 L hL) (dataCon_ok (fnF_valid mixedT kc119 32 _ _ LF) hL)
theorem kc33 : HC (envT Tryz.prog 0) (C33 Tryz.prog LF) := fun L hL => extC_ok (kc32 L hL) (dataCon_ok (fnF_valid mixedT kc32 33 _ _ LF) hL)
end Go.K
namespace Go.K
open Go.Sl Go.Sx Go.Proofs
theorem kc54x : HC (envT Tryz.prog 0) (C54x Tryz.prog LF) := fun L hL => extC_ok (kc33 L hL) (dataCon_ok (fnF_valid mixedT kc33 54 _ _ LF) hL)
theorem kc56x : HC (envT Tryz.prog 0) (C56x Tryz.prog LF) := fun L hL => extC_ok (kc54x L hL) (dataCon_ok (fnF_valid mixedT kc54x 56 _ _ LF) hL)
theorem kc57x : HC (envT Tryz.prog 0) (C57x Tryz.prog LF) := fun L hL => extC_ok (kc56x L hL) (dataCon_ok (fnF_valid mixedT kc56x 57 _ _ LF) hL)
theorem kc55x : HC (envT Tryz.prog 0) (C55x Tryz.prog LF) := fun L hL => extC_ok (kc57x L hL) (dataCon_ok (fnF_valid mixedT kc57x 55 _ _ LF) hL)
theorem kc51x : HC (envT Tryz.prog 0) (C51x Tryz.prog LF) := fun L hL => extC_ok (kc55x L hL) (dataCon_ok (fnF_valid mixedT kc55x 51 _ _ LF) hL)
end Go.K
namespace Go.Sx
open Go.Sl Go.RowKit Go.ChangeShapes
def Opens {α : Type} (P : Program) (t : TypeId) (T : Ty α) (ok : α → Prop) : Prop :=
  ∀ (H : Type) (enc : TypeId × Value → H) (W : World) (fuel : Nat) (cs : List Value) (d : DataW H × List MemPlace),
    DataW.trod enc P W 0 (fun _ => true) true fuel t cs = some d → ∃ x, T.rep (Zone.all W) cs x ∧ ok x
theorem mapM_mem {α β : Type} {f : α → Option β} : ∀ {l : List α} {ys : List β}, l.mapM f = some ys → ∀ a ∈ l, ∃ y, f a = some y
  | [], _, _, a, ha => by cases ha
  | x :: l, ys, h, a, ha => by
    rw [List.mapM_cons] at h
    cases hx : f x with
    | none => rw [hx] at h; simp at h
    | some y =>
      rw [hx] at h
      simp only [Option.pure_def, Option.bind_eq_bind, Option.bind_some] at h
      cases hl : l.mapM f with
      | none => rw [hl] at h; simp at h
      | some zs =>
        rcases List.mem_cons.1 ha with e | e
        · subst e; exact ⟨y, hx⟩
        · exact mapM_mem hl a e
section
variable {H : Type} {enc : TypeId × Value → H} {P : Program} {W : World} {fuel : Nat} {t : TypeId} {cs : List Value} {d : DataW H × List MemPlace}
theorem trod_fields {fs : Array Field} (ht : P.underlying t = some (.struct fs)) (h : DataW.trod enc P W 0 (fun _ => true) true fuel t cs = some d) :
    cs.length = P.cellsOf t ∧ ∃ n, ∀ f ∈ fs.toList, ∃ y, DataW.trod enc P W 0 (fun _ => true) true n f.type ((cs.drop f.offset).take (P.cellsOf f.type)) = some y := by
  cases fuel with
  | zero => simp [DataW.trod] at h
  | succ n =>
    simp only [DataW.trod, ht] at h
    by_cases hl : cs.length = P.cellsOf t
    · rw [if_pos hl] at h
      refine ⟨hl, n, fun f hf => ?_⟩
      cases hm : fs.toList.mapM fun f => DataW.trod enc P W 0 (fun _ => true) true n f.type ((cs.drop f.offset).take (P.cellsOf f.type)) with
      | none => rw [hm] at h; simp at h
      | some ys => exact mapM_mem hm f hf
    · rw [if_neg hl] at h; cases h
theorem trod_items {m : Nat} {e : TypeId} (ht : P.underlying t = some (.array m e)) (h : DataW.trod enc P W 0 (fun _ => true) true fuel t cs = some d) :
    cs.length = P.cellsOf t ∧ ∃ n, ∀ i, i < m → ∃ y, DataW.trod enc P W 0 (fun _ => true) true n e ((cs.drop (i * P.cellsOf e)).take (P.cellsOf e)) = some y := by
  cases fuel with
  | zero => simp [DataW.trod] at h
  | succ n =>
    simp only [DataW.trod, ht] at h
    by_cases hl : cs.length = P.cellsOf t
    · rw [if_pos hl] at h
      refine ⟨hl, n, fun i hi => ?_⟩
      cases hm : (List.range m).mapM fun i => DataW.trod enc P W 0 (fun _ => true) true n e ((cs.drop (i * P.cellsOf e)).take (P.cellsOf e)) with
      | none => rw [hm] at h; simp at h
      | some ys => exact mapM_mem hm i (List.mem_range.2 hi)
    · rw [if_neg hl] at h; cases h
end
theorem opens_slice {α : Type} {P : Program} {t e : TypeId} {T : Ty α} {ok : α → Prop} (ht : P.underlying t = some (.slice e)) (he : P.cellsOf e = T.size) (h : Opens P e T ok) : Opens P t (Ty.slice T) (fun xs => (∀ x ∈ xs, ok x) ∧ xs.length ≤ maxLen) := fun H enc W fuel cs d hd => by
  rcases Go.Deep.open_slice ht hd with ⟨rfl, _⟩ | ⟨a, len, cap, m, n, D, Pl, rfl, _, hl, hm, hmm, _, hx⟩
  · exact ⟨[], ⟨none, 0, rfl, SliceR.nil' T _⟩, ⟨(fun _ h => by cases h), by simp⟩⟩
  · simp only [if_true] at hmm
    have hall : ∀ i, i < len → ∃ x, (∃ c, T.rep (Zone.all W) c x ∧ ∀ j v, c[j]? = some v → (Zone.all W).cell? ((a.add (i * T.size)).add j) = some v) ∧ ok x := fun i hi => by
      obtain ⟨cs', h1, h2⟩ := hx i (by omega)
      obtain ⟨x, hr, ho⟩ := h H enc W n cs' _ h2
      refine ⟨x, ⟨cs', hr, fun j v hj => ?_⟩, ho⟩
      rw [he] at h1
      obtain ⟨_, hlen, hc⟩ := World.cells?_some h1
      have hlt : j < cs'.length := (List.getElem?_eq_some_iff.1 hj).1
      exact (hc j (by omega)).trans hj
    have key : ∀ k, k ≤ len → ∃ xs : List α, xs.length = k ∧ (∀ x ∈ xs, ok x) ∧ ∀ i x, xs[i]? = some x → ∃ c, T.rep (Zone.all W) c x ∧ ∀ j v, c[j]? = some v → (Zone.all W).cell? ((a.add (i * T.size)).add j) = some v := by
      intro k
      induction k with
      | zero => exact fun _ => ⟨[], rfl, (fun _ h => by cases h), (fun i x h => by simp at h)⟩
      | succ k ih =>
        intro hk
        obtain ⟨xs, h1, h2, h3⟩ := ih (by omega)
        obtain ⟨x, hx1, hx2⟩ := hall k (by omega)
        refine ⟨xs ++ [x], by simp [h1], fun y hy => ?_, fun i y hy => ?_⟩
        · rcases List.mem_append.1 hy with e | e
          · exact h2 y e
          · simp only [List.mem_singleton] at e; exact e ▸ hx2
        · rw [List.getElem?_append] at hy
          split at hy
          · exact h3 i y hy
          · rename_i hge
            have : i - xs.length = 0 := by
              have := (List.getElem?_eq_some_iff.1 hy).1
              simp at this; omega
            rw [this] at hy
            simp only [List.getElem?_cons_zero, Option.some.injEq] at hy
            subst hy
            have : i = k := by omega
            subst this
            exact hx1
    obtain ⟨xs, h1, h2, h3⟩ := key len (Nat.le_refl _)
    refine ⟨xs, ⟨some a, cap, by rw [h1], ⟨by omega, hm, (fun e => by cases e), fun b e i x hi => ?_⟩⟩, ⟨h2, by omega⟩⟩
    cases e
    exact h3 i x hi
section
variable {H : Type} {enc : TypeId × Value → H} {P : Program} {W : World} {base : Nat} {t : TypeId} {v : Value} {d : DataW H} {ps : List MemPlace}
theorem arg_agg {α : Type} {T : Ty α} {ok : α → Prop} (hs : (match P.underlying t with | some (.struct _) => true | some (.array _ _) => true | _ => false) = true) (hv : Value.okWide P W .any base t v) (h : DataW.Trod enc P W 0 (fun _ => true) true t v d ps) (ho : Opens P t T ok) :
    ∃ cs x, v = .agg cs.toArray ∧ T.rep (Zone.all W) cs x ∧ ok x := by
  obtain ⟨fuel, hf⟩ := h
  obtain ⟨x, hx, hok⟩ := ho H enc W fuel _ _ hf
  have : ∃ cs, v = .agg cs := by
    unfold Value.okWide at hv
    split at hs
    · rename_i fs ht; rw [ht] at hv; obtain ⟨cs, e, _⟩ := hv; exact ⟨cs, e⟩
    · rename_i m e ht; rw [ht] at hv; obtain ⟨cs, e, _⟩ := hv; exact ⟨cs, e⟩
    · cases hs
  obtain ⟨cs, rfl⟩ := this
  exact ⟨cs.toList, x, rfl, hx, hok⟩
theorem trodAll_stays (hl : laidOutB P = true) {W' : World} (hb : Below W.heap.size W W') : ∀ {ts : List TypeId} {vs : List Value} {ds : List (DataW H)} {ps : List MemPlace}, (ts.all fun t => P.readableRec t && Nat.blt t P.types.size) = true →
    DataW.TrodAll enc P W 0 (fun _ => true) true ts vs ds ps → (∀ p ∈ ps, p.block < W.heap.size) → DataW.TrodAll enc P W' 0 (fun b => decide (b < W.heap.size)) true ts vs ds ps
  | [], [], [], _, _, h, _ => h
  | t :: ts, v :: vs, d :: ds, _, hr, ⟨p, q, h1, h2, e⟩, hlt => by
    simp only [List.all_cons, Bool.and_eq_true, Nat.blt_eq] at hr
    subst e
    exact ⟨p, q, Below.trod hl hr.1.1 hr.1.2 h1 hb (fun x hx => hlt x (List.mem_append_left _ hx)), trodAll_stays hl hb hr.2 h2 (fun x hx => hlt x (List.mem_append_right _ hx)), rfl⟩
  | [], _ :: _, _, _, _, h, _ => h.elim
  | [], [], _ :: _, _, _, h, _ => h.elim
  | _ :: _, [], _, _, _, h, _ => h.elim
  | _ :: _, _ :: _, [], _, _, h, _ => h.elim
theorem post_true {f : Func} {s : ChangeSpec} {args : Array Value} {ds : List (DataW H)} {before : List MemPlace} {apart : Bool} {W' : World} {tb : TypeId} (hl : laidOutB P = true) (hvars : s.vars = []) (hr : (f.params.toList.all fun t => P.readableRec t && Nat.blt t P.types.size) = true)
    (hres : f.resultTypes = #[tb]) (hu : P.underlying tb = some .bool) (hW : DataW.Whole enc P f.params.toList s.vars apart W args.toList ds [] before) (hb : Below W.heap.size W W') (hs : s.fn H (ds ++ []) = { results := [.lit (.bool true)], args := ds }) :
    s.post enc P f apart true false false W args (.bool true) W' := by
  have hlt := hW.lt
  have hW0 := hW
  obtain ⟨p, q, hA, hV, rfl, _, _⟩ := hW
  rw [hvars] at hV
  obtain ⟨_, rfl⟩ := trodVars_none hV
  refine ⟨ds, [], p ++ [], [], p, [], hW0, ?_, ?_, ?_, hb.frame _, fun h => by cases h⟩
  · rw [hs, hres]; exact trodAll_mk1 (shut_bool hu true)
  · rw [hs]; exact trodAll_stays hl hb hr hA (fun x hx => hlt x (by simpa using hx))
  · rw [hs, hvars]; rfl
end
end Go.Sx
namespace Go.Sx
structure A2 where
  a0 : Int
  a1 : Int
  deriving DecidableEq
structure A3 where
  a0 : Int
  a1 : Int
  a2 : Int
  deriving DecidableEq
end Go.Sx
namespace Go.Sx
open Go.Sl Go.RowKit Go.ChangeShapes Go.Proofs
variable {H : Type} {enc : TypeId × Value → H}
theorem returns_and_shaped {a : Assume} {C : Checked} {os : Os} {f : FuncId} {fn : Func} {s : ChangeSpec} {conds : List PathCond} {apart fresh handsOn again : Bool} {X : World → Array Value → Prop}
    (hX : ∀ (w w' : World) (args : Array Value), w.heap = w'.heap → X w args → X w' args)
    (own : ownKnob C.prog.godebug = none) (started : os.Started) (noInit : C.prog.inits.idxOf? f = none) (hfn : C.prog.funcs[f]? = some fn)
    (witness : ∃ (w : World) (tape : Tape) (i : Input), w.os = os ∧ (w.forCall tape i).Shaped C.prog ∧ i.vars = [] ∧ Input.okWide C.prog (w.forCall tape i) .any w.heap.size f i ∧
      ((s.pre enc C.prog fn conds apart (w.forCall tape i).memory i.args ∧ X (w.forCall tape i).memory i.args) ∧ sizedMet enc C.prog fn (OpenSpec.ofChange s) apart (w.forCall tape i).memory i.args) ∧ a.holds C.prog (lone (Frame.enter C.prog f i.args .normal) [] (w.forCall tape i)))
    (contract : ∀ (W : World) (base : Nat) (args : Array Value) (ds gs : List (DataW H)) (before : List MemPlace),
      (∀ (j : Nat) t v, fn.params[j]? = some t → args[j]? = some v → Value.okWide C.prog W .any base t v) →
      DataW.Whole enc C.prog fn.params.toList s.vars apart W args.toList ds gs before → X W args → W.ShapedOpen C.prog →
      Calls C.prog f args W fun e W' => ∃ v, e = .returned v ∧ s.post enc C.prog fn apart fresh handsOn again W args v W') :
    ReturnsInHanded a C os f .any (fun w args => (s.pre enc C.prog fn conds apart w args ∧ X w args) ∧ sizedMet enc C.prog fn (OpenSpec.ofChange s) apart w args) (s.post enc C.prog fn apart fresh handsOn again) := by
  refine returnsInHanded_of_calls own started noInit witness ?_
  intro w tape i _ hsh _ hok hpre hholds
  obtain ⟨_, _, _, fn', hfn', _, _, _, _, hval⟩ := hok
  have e : fn' = fn := Option.some.inj (hfn'.symm.trans hfn)
  subst e
  obtain ⟨⟨⟨ds, gs, before, hw, hc⟩, hx⟩, hz⟩ := hpre
  have hw' := DataW.Whole.of_heap (w' := w.forCall tape i) (by rfl) hw
  refine (contract (w.forCall tape i) w.heap.size i.args ds gs before hval hw' (hX _ _ _ (by rfl) hx) hsh).mono fun e W' ⟨v, he, hp⟩ => ?_
  subst he
  exact ChangeSpec.post_blind hp
theorem env_of {P : Program} {W : World} {g : Nat} (h1 : Lib.TabIs P W "internal/strconv.uint64pow10" .u64 Lib.pow10Tab) (h2 : ∃ m, W.cell? ⟨g, 0, none⟩ = some (.int .i64 m)) : Sx.Env P g (Zone.all W) := by
  refine ⟨fun L w hS => ?_, ?_⟩
  · have hle := hS.whole
    unfold Lib.TabIs World.var? at h1 ⊢
    cases hg : P.globalNamed "internal/strconv.uint64pow10" with
    | none => rw [hg] at h1; cases h1
    | some b =>
      rw [hg] at h1
      simp only [Option.bind_some] at h1 ⊢
      cases hb : W.heap[b]? with
      | none => rw [hb] at h1; cases h1
      | some o =>
        have hb' : w.heap[b]? = some o := hle.blk b o hb
        rw [hb'] ; rw [hb] at h1; exact h1
  · obtain ⟨m, hm⟩ := h2
    exact ⟨m, hm⟩
end Go.Sx
namespace Go.K
open Go.Sl Go.Sx Go.RowKit Go.ChangeShapes Go.Proofs
def opF (P : Program) (rec : TypeId → TC → Bool) : List Field → Nat → TC → Bool
  | [f], off, u => Nat.beq f.offset off && (Nat.beq (P.cellsOf f.type) u.size && rec f.type u)
  | f :: g :: r, off, .pair a b => (Nat.beq f.offset off && (Nat.beq (P.cellsOf f.type) a.size && rec f.type a)) && opF P rec (g :: r) (off + a.size) b
  | _, _, _ => false
def opA (rec : TypeId → TC → Bool) (e : TypeId) (k : Nat) : Nat → TC → Bool
  | 1, u => Nat.beq k u.size && rec e u
  | n + 2, .pair a b => (Nat.beq k a.size && rec e a) && opA rec e k (n + 1) b
  | _, _ => false
def opB (P : Program) : Nat → TypeId → TC → Bool
  | 0, _, _ => false
  | n + 1, t, u => match P.underlying t with
    | some (.int .i64) => (match u with | .int .i64 => true | _ => false)
    | some .string => (match u with | .str => true | _ => false)
    | some (.slice e) => (match u with | .sl v => Nat.beq (P.cellsOf e) v.size && opB P n e v | _ => false)
    | some (.struct fs) => Nat.beq (P.cellsOf t) u.size && opF P (opB P n) fs.toList 0 u
    | some (.array m e) => Nat.beq (P.cellsOf t) u.size && opA (opB P n) e (P.cellsOf e) m u
    | _ => false
theorem opB_ok {P : Program} : ∀ (n : Nat) {t : TypeId} {u : TC}, opB P n t u = true → Opens P t u.ty (fun _ => True)
  | 0, _, _, h => by cases h
  | n + 1, t, u, h => by
    unfold opB at h
    split at h
    · rename_i ht
      split at h
      · intro H enc W fuel cs d hd
        obtain ⟨m, rfl, _, _⟩ := DataW.trod_int ht hd
        exact ⟨m, rfl, trivial⟩
      · cases h
    · rename_i ht
      split at h
      · intro H enc W fuel cs d hd
        obtain ⟨s, rfl, _, _⟩ := DataW.trod_string ht hd
        exact ⟨s, rfl, trivial⟩
      · cases h
    · rename_i e ht
      split at h
      · rename_i v
        simp only [Bool.and_eq_true, Nat.beq_eq] at h
        intro H enc W fuel cs d hd
        obtain ⟨x, hx, _⟩ := opens_slice ht (h.1.trans v.size_eq.symm) (opB_ok n h.2) H enc W fuel cs d hd
        exact ⟨x, hx, trivial⟩
      · cases h
    · rename_i fs ht
      simp only [Bool.and_eq_true, Nat.beq_eq] at h
      obtain ⟨h0, h1⟩ := h
      intro H enc W fuel cs d hd
      obtain ⟨hl, k, hx⟩ := trod_fields ht hd
      have key : ∀ (l : List Field) (off : Nat) (u : TC), (∀ f ∈ l, f ∈ fs.toList) → opF P (opB P n) l off u = true → cs.length = off + u.size → ∃ x, u.ty.rep (Zone.all W) (cs.drop off) x := by
        intro l
        induction l with
        | nil => intro off u _ hh _; simp [opF] at hh
        | cons f r ih =>
          intro off u hsub hh hlen
          cases r with
          | nil =>
            simp only [opF, Bool.and_eq_true, Nat.beq_eq] at hh
            obtain ⟨e1, e2, e3⟩ := hh
            obtain ⟨y, hy⟩ := hx f (hsub f (List.mem_cons_self ..))
            rw [e1, e2, List.take_of_length_le (by rw [List.length_drop]; omega)] at hy
            obtain ⟨x, hx', _⟩ := opB_ok n e3 H enc W k _ y hy
            exact ⟨x, hx'⟩
          | cons g r =>
            cases u with
            | pair a b =>
              simp only [opF, Bool.and_eq_true, Nat.beq_eq] at hh
              obtain ⟨⟨e1, e2, e3⟩, e4⟩ := hh
              simp only [TC.size] at hlen
              obtain ⟨y, hy⟩ := hx f (hsub f (List.mem_cons_self ..))
              rw [e1, e2] at hy
              obtain ⟨x1, r1, _⟩ := opB_ok n e3 H enc W k _ y hy
              obtain ⟨x2, r2⟩ := ih (off + a.size) b (fun q hq => hsub q (List.mem_cons_of_mem _ hq)) e4 (by omega)
              refine ⟨(x1, x2), (cs.drop off).take a.size, cs.drop (off + a.size), ?_, r1, r2⟩
              rw [← List.drop_drop, List.take_append_drop]
            | _ => simp [opF] at hh
      obtain ⟨x, hx'⟩ := key fs.toList 0 u (fun _ h => h) h1 (by omega)
      exact ⟨x, by simpa using hx', trivial⟩
    · rename_i m e ht
      simp only [Bool.and_eq_true, Nat.beq_eq] at h
      obtain ⟨h0, h1⟩ := h
      intro H enc W fuel cs d hd
      obtain ⟨hl, k, hx⟩ := trod_items ht hd
      have key : ∀ (q i : Nat) (u : TC), i + q = m → opA (opB P n) e (P.cellsOf e) q u = true → cs.length = i * P.cellsOf e + u.size → ∃ x, u.ty.rep (Zone.all W) (cs.drop (i * P.cellsOf e)) x := by
        intro q
        induction q with
        | zero => intro i u _ hh _; simp [opA] at hh
        | succ q ih =>
          intro i u hq hh hlen
          cases q with
          | zero =>
            simp only [opA, Bool.and_eq_true, Nat.beq_eq] at hh
            obtain ⟨y, hy⟩ := hx i (by omega)
            rw [List.take_of_length_le (by rw [List.length_drop]; omega)] at hy
            obtain ⟨x, hx', _⟩ := opB_ok n hh.2 H enc W k _ y hy
            exact ⟨x, hx'⟩
          | succ q =>
            cases u with
            | pair a b =>
              simp only [opA, Bool.and_eq_true, Nat.beq_eq] at hh
              obtain ⟨⟨e2, e3⟩, e4⟩ := hh
              simp only [TC.size] at hlen
              obtain ⟨y, hy⟩ := hx i (by omega)
              obtain ⟨x1, r1, _⟩ := opB_ok n e3 H enc W k _ y hy
              obtain ⟨x2, r2⟩ := ih (i + 1) b (by omega) e4 (by rw [Nat.add_mul]; omega)
              refine ⟨(x1, x2), (cs.drop (i * P.cellsOf e)).take (P.cellsOf e), cs.drop ((i + 1) * P.cellsOf e), ?_, r1, r2⟩
              rw [Nat.add_mul, Nat.one_mul, ← List.drop_drop, List.take_append_drop]
            | _ => simp [opA] at hh
      obtain ⟨x, hx'⟩ := key m 0 u (by omega) h1 (by omega)
      exact ⟨x, by simpa using hx', trivial⟩
    · cases h
section
variable {H : Type} {enc : TypeId × Value → H} {P : Program} {W : World} {base : Nat} {t : TypeId} {v : Value} {d : DataW H} {ps : List MemPlace}
theorem oA {u : TC} (hs : (match P.underlying t with | some (.struct _) => true | some (.array _ _) => true | _ => false) = true) (hb : opB P 12 t u = true) (hv : Value.okWide P W .any base t v) (h : DataW.Trod enc P W 0 (fun _ => true) true t v d ps) : ∃ x : u.den, repA (Zone.all W) (true, u) v x := by
  obtain ⟨cs, x, rfl, hr, _⟩ := arg_agg hs hv h (opB_ok 12 hb)
  exact ⟨x, .inl ⟨rfl, cs, rfl, hr⟩⟩
end
end Go.K
