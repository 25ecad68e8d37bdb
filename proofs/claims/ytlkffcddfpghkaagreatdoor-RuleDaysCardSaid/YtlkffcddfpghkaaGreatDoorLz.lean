/-
  A part of the walk and of the plain law of one given statement. No condition.
-/
import Derived.Test.YtlkffcddfpghkaaGreatDoorRN4
import Derived.Test.YtlkffcddfpghkaaGreatDoorProg
import Derived.Test.YtlkffcddfpghkaaGreatDoorK8
import Derived.Test.YtlkffcddfpghkaaGreatDoorG6
import Derived.Shelf.Sort.Plain
import Derived.Shelf.Slices.In.SortNone
import Derived.Shelf.SlicesG.CompactI
import Derived.Shelf.Spec.SlicesGrow
import Derived.Sort.OwnSortedInts
import Derived.Shelf.Strings.OnBuilder
import Derived.Lib.Join
import Derived.WalkKit
import Derived.Test.YtlkffcddfpghkaaGreatDoorSh
import Derived.Shelf.RegionOpenPlain
import Derived.Lib.Slices
import Derived.Lib.Walk
import Derived.Laws.Externs
import Derived.ProofKit
import Derived.OpenShut
import Derived.Stop.Joined
import Derived.Deep.Slices
import Derived.SizedLaws
import Derived.Shelf.Vars
import Derived.Lay
import Derived.LaidMore
set_option linter.unusedVariables false
set_option linter.unusedSimpArgs false
set_option maxRecDepth 100000
namespace Go.K
open Go.Sl Go.Sx Go.Proofs
def near1 (l : List Int) (n m : Int) : Prop := m ∈ l ∧ m ≤ n ∧ ∀ k ∈ l, k ≤ n → k ≤ m
def Near (c : Cd) (f : List Fct) (v w : List Int) : Prop := w.length = v.length ∧ ∀ (i : Nat) (x : Fct) (n m : Int), f[i]? = some x → v[i]? = some n → w[i]? = some m → near1 (cutsOf (condsL c.2.2) x) n m
def In (f : List Fct) (v : List Int) : Prop := v.length = f.length ∧ ∀ (i : Nat) (x : Fct) (n : Int), f[i]? = some x → v[i]? = some n → x.2.1 ≤ n ∧ n ≤ x.2.2
theorem cut_side {cs : List Cnd} {x : Fct} {n m : Int} (hx : x.2.1 ≤ n ∧ n ≤ x.2.2) (h : near1 (cutsOf cs x) n m) {cd : Cnd} {t : Tm} (hc : cd ∈ cs) (ht : t ∈ cd) (hn : t.2.2.2.1 = x.1) {k : Int} (hk : k ∈ partsL t) : n < k ↔ m < k := by
  obtain ⟨h1, h2, h3⟩ := h
  have hlo : x.2.1 ≤ m := h3 _ (((cuts_mem cs x).2 _).2 (.inl rfl)) hx.1
  by_cases hk1 : x.2.1 < k
  · by_cases hk2 : k ≤ x.2.2
    · have hmem : k ∈ cutsOf cs x := ((cuts_mem cs x).2 k).2 (.inr (cutN_mem.2 ⟨⟨cd, hc, t, ht, hn, hk⟩, hk1, hk2⟩))
      constructor
      · intro h; omega
      · intro h
        by_cases hkn : k ≤ n
        · have := h3 k hmem hkn; omega
        · omega
    · omega
  · omega
theorem Near.term {c : Cd} (h : VC c) {f : List Fct} (hf : VF c f) {v w : List Int} (hv : In f v) (hw : Near c f v w) {cd : Cnd} (hc : cd ∈ condsL c.2.2) (hcd : condE c.2.1 cd = 0) {i : Nat} {t : Tm} (ht : cd[i]? = some t) (l : List Bool) : tmSo c.2.1 v t l = tmSo c.2.1 w t l := by
  obtain ⟨c1, c2, c3⟩ := cond_short hcd
  have hs := c3 i t ht
  have hkd := term_kd hs
  obtain ⟨hshp, hsh2⟩ := term_ok hs
  have htm := List.mem_of_getElem? ht
  cases hkd with
  | tru => rfl
  | neg _ => rfl
  | bin h0 _ _ => rcases h0 with rfl | rfl <;> rfl
  | cmp h1 h2 =>
    rename_i k a b s n
    obtain ⟨p, hp, hpl, x, hx, hxs⟩ := plF_get h2
    have hfl := hf.ln
    have hvl := hv.1
    have hwl := hw.1
    have hfp : f[p]? = some f[p] := List.getElem?_eq_getElem (by omega)
    have hname : x.1 = f[p].1 := by
      have := hf.fit p x f[p] hx hfp
      unfold fitB at this
      simp only [Bool.and_eq_true, decide_eq_true_eq] at this
      exact this.1
    have hvp : v[p]? = some v[p] := List.getElem?_eq_getElem (by omega)
    have hwp : w[p]? = some w[p] := List.getElem?_eq_getElem (by omega)
    have hin := hv.2 p _ _ hfp hvp
    have hne := hw.2 p _ _ _ hfp hvp hwp
    have hside : ∀ q, q ∈ partsL (k, (a, (b, (s, n)))) → (v[p] < q ↔ w[p] < q) := fun q hq => cut_side hin hne hc htm (by show s = f[p].1; rw [← hname, hxs]) hq
    have gv : v.getD (plF c.2.1 s).toNat 0 = v[p] := by rw [hp, Int.toNat_natCast, List.getD_eq_getElem?_getD, hvp]; rfl
    have gw : w.getD (plF c.2.1 s).toNat 0 = w[p] := by rw [hp, Int.toNat_natCast, List.getD_eq_getElem?_getD, hwp]; rfl
    have hnb : -1000000000000 ≤ n ∧ n ≤ 1000000000000 := by
      unfold shp at hshp
      simp only at hshp
      rw [if_neg (by omega), if_pos (by omega), decide_eq_true_eq] at hshp
      exact hshp.2.2
    have hw1 : w64 (n + 1) = n + 1 := w64_in (by omega)
    unfold tmSo
    simp only [gv, gw]
    rcases h1 with rfl | rfl | rfl
    · have := hside n (by simp [partsL])
      rw [if_neg (by decide), if_pos rfl, if_neg (by decide), if_pos rfl]
      exact decide_eq_decide.2 this
    · have := hside (n + 1) (by simp [partsL, hw1])
      rw [if_neg (by decide), if_neg (by decide), if_pos rfl, if_neg (by decide), if_neg (by decide), if_pos rfl]
      exact decide_eq_decide.2 (by omega)
    · have e1 := hside n (by simp [partsL])
      have e2 := hside (n + 1) (by simp [partsL, hw1])
      rw [if_neg (by decide), if_neg (by decide), if_neg (by decide), if_pos rfl, if_neg (by decide), if_neg (by decide), if_neg (by decide), if_pos rfl]
      exact decide_eq_decide.2 (by omega)
theorem Near.so {c : Cd} (h : VC c) {f : List Fct} (hf : VF c f) {v w : List Int} (hv : In f v) (hw : Near c f v w) {cd : Cnd} (hc : cd ∈ condsL c.2.2) (hcd : condE c.2.1 cd = 0) : soB c.2.1 v cd = soB c.2.1 w cd := by
  unfold soB soL
  congr 1
  have key : ∀ (m : Cnd), (∀ t ∈ m, t ∈ cd) → ∀ l, m.foldl (fun l t => l ++ [tmSo c.2.1 v t l]) l = m.foldl (fun l t => l ++ [tmSo c.2.1 w t l]) l := by
    intro m
    induction m with
    | nil => intro _ l; rfl
    | cons t m ih =>
      intro hs l
      obtain ⟨i, hi⟩ := List.mem_iff_getElem?.1 (hs t (List.mem_cons_self ..))
      rw [List.foldl_cons, List.foldl_cons, hw.term h hf hv hc hcd hi, ih (fun q hq => hs q (List.mem_cons_of_mem _ hq))]
  exact key cd (fun _ h => h) []
theorem conds_mem {l : List Rl} {r : Rl} (h : r ∈ l) : r.2.2.2.1 ∈ condsL l ∧ r.2.2.2.2.1 ∈ condsL l := by
  unfold condsL
  exact ⟨List.mem_flatMap.2 ⟨r, h, List.mem_cons_self ..⟩, List.mem_flatMap.2 ⟨r, h, List.mem_cons_of_mem _ (List.mem_cons_self ..)⟩⟩
theorem VC.conds {c : Cd} (h : VC c) {r : Rl} (hr : r ∈ c.2.2) : condE c.2.1 r.2.2.2.1 = 0 ∧ condE c.2.1 r.2.2.2.2.1 = 0 := by
  obtain ⟨i, hi⟩ := List.mem_iff_getElem?.1 hr
  obtain ⟨_, _, _, h1, h2, _⟩ := h.rule hi
  exact ⟨h1, h2⟩
theorem Near.binds {c : Cd} (h : VC c) {f : List Fct} (hf : VF c f) {v w : List Int} (hv : In f v) (hw : Near c f v w) (d : Int) : bindsL c d v = bindsL c d w := by
  unfold bindsL
  have key : ∀ (m : List Rl), (∀ r ∈ m, r ∈ c.2.2) → ∀ out, nbL c.2.1 c.2.2 d v m out = nbL c.2.1 c.2.2 d w m out := by
    intro m
    induction m with
    | nil => intro _ out; rfl
    | cons r m ih =>
      intro hs out
      have hr := hs r (List.mem_cons_self ..)
      have e : bindB c.2.1 c.2.2 d v r out = bindB c.2.1 c.2.2 d w r out := by
        unfold bindB
        rw [hw.so h hf hv (conds_mem hr).1 (h.conds hr).1]
      simp only [nbL, e]
      rw [ih (fun q hq => hs q (List.mem_cons_of_mem _ hq))]
  exact key c.2.2 (fun _ h => h) []
theorem Near.kept {c : Cd} (h : VC c) {f : List Fct} (hf : VF c f) {v w : List Int} (hv : In f v) (hw : Near c f v w) (d : Int) : keptL c d v = keptL c d w := by
  unfold keptL
  rw [hw.binds h hf hv d]
  have key : ∀ (m : List Rl), (∀ r ∈ m, r ∈ c.2.2) → ∀ bs : List Bool, List.zipWith (fun b (r : Rl) => !b || soB c.2.1 v r.2.2.2.2.1) bs m = List.zipWith (fun b (r : Rl) => !b || soB c.2.1 w r.2.2.2.2.1) bs m := by
    intro m
    induction m with
    | nil => intro _ bs; simp
    | cons r m ih =>
      intro hs bs
      have hr := hs r (List.mem_cons_self ..)
      cases bs with
      | nil => rfl
      | cons b bs =>
        simp only [List.zipWith_cons_cons]
        rw [hw.so h hf hv (conds_mem hr).2 (h.conds hr).2, ih (fun q hq => hs q (List.mem_cons_of_mem _ hq))]
  exact key c.2.2 (fun _ h => h) _
end Go.K
set_option linter.unusedVariables false
set_option linter.unusedSimpArgs false
set_option maxRecDepth 100000
namespace Go.K
open Go.Sl Go.Sx Go.Proofs
theorem same_loop {σ : Type} {f : Int → Option (Int ⊕ Bool)} (l : List σ) (h1 : ∀ (i : Nat) x, l[i]? = some x → f (i : Int) = some (.inl ((i + 1 : Nat) : Int))) (h2 : f (l.length : Int) = some (.inr true)) (hl : l.length < LF) : iter LF f 0 = some true := by
  refine (iter_scan (fun (_ : σ) _ => (none : Option Bool)) l (some true) (fun i x hx _ => h1 i x hx) (fun _ => h2) hl).trans ?_
  have : ∀ (l : List σ) (i : Nat), scan (fun (_ : σ) _ => (none : Option Bool)) l i = none := by
    intro l
    induction l with
    | nil => intro i; rfl
    | cons x l ih => intro i; simp only [scan]; exact ih _
  rw [this]
theorem G62_same (l : List Int) (hl : l.length < LF) : G62 LF (l, l) = some true := by
  unfold G62
  simp only [decide_true, Bool.not_true, cond_false]
  refine same_loop l (fun i x hx => ?_) ?_ hl
  · have hi := lt_of_get hx
    simp only [dlt hi, cond_true, getI_nat hx, Option.bind_some, decide_true, Bool.not_true, cond_false, succ_W (Nat.lt_of_le_of_lt hi hl)]
  · simp only [dnlt, cond_false]
theorem G33_same (l : List ByteArray) (hl : l.length < LF) : G33 LF (l, l) = some true := by
  unfold G33
  simp only [decide_true, Bool.not_true, cond_false]
  refine same_loop l (fun i x hx => ?_) ?_ hl
  · have hi := lt_of_get hx
    simp only [dlt hi, cond_true, getI_nat hx, Option.bind_some, eqD, decide_true, Bool.not_true, cond_false, succ_W (Nat.lt_of_le_of_lt hi hl)]
  · simp only [dnlt, cond_false]
end Go.K
set_option linter.unusedVariables false
set_option linter.unusedSimpArgs false
set_option maxRecDepth 100000
namespace Go.K
open Go.Sl Go.Sx Go.Proofs
def dayR (r : Rl) : List Int := r.2.1 :: if r.2.2.1 < 100000 then [w64 (r.2.2.1 + 1)] else []
theorem dayR_len (r : Rl) : (dayR r).length ≤ 2 := by unfold dayR; split <;> simp
theorem daysL_eq (l : List Rl) : daysL l = compL (sortL (0 :: l.flatMap dayR)) := rfl
theorem days_len (l : List Rl) : (daysL l).length ≤ 2 * l.length + 1 := by
  have h1 := compact_le (sortL (0 :: l.flatMap dayR))
  have h2 := sortL_len (0 :: l.flatMap dayR)
  have h3 := flat_len dayR 2 l (fun r _ => dayR_len r)
  rw [daysL_eq]
  simp only [List.length_cons] at h2
  omega
theorem G127_days (c : Cd) (hl : c.2.2.length ≤ 1000) : G127 LF c = some (daysL c.2.2) := by
  unfold G127
  refine (iter_app (fun i a => (a, i)) dayR c.2.2 (fun a => some (compL (sortL a))) 2 (fun r _ => dayR_len r) [0] ?_ ?_ (by show c.2.2.length < 9223372036854775808; omega)).trans ?_
  · intro i r a hr ha hi
    simp only [List.length_singleton] at ha
    simp only [dlt hi, cond_true, getI_nat hr, Option.bind_some, appC_of (show a.length + [r.2.1].length ≤ 1099511627776 by simp; omega), succ_W (show i + 1 < 9223372036854775808 by omega)]
    unfold dayR
    by_cases h : r.2.2.1 < 100000
    · simp only [decide_eq_true h, cond_true, if_pos h, appC_of (show (a ++ [r.2.1]).length + [w64 (r.2.2.1 + 1)].length ≤ 1099511627776 by simp; omega), Option.bind_some]
      simp
    · simp only [decide_eq_false h, cond_false, if_neg h]
  · intro a ha
    simp only [List.length_singleton] at ha
    have h1 : a.length ≤ 1099511627776 := by omega
    have h2 : (sortL a).length ≤ 1099511627776 := by rw [← sortL_len]; exact h1
    simp only [dnlt, cond_false, ltC_of h1, ltC_of h2, Option.bind_some]
  · rfl
theorem G142_days (c : Cd) (hl : c.2.2.length ≤ 1000) : G142 LF c = some (daysL c.2.2) := by
  unfold G142
  refine (iter_put (fun i a => (a, i)) dayR c.2.2 (fun a => some a) 2 (fun r _ => dayR_len r) [0] ?_ ?_ (by show c.2.2.length < 9223372036854775808; omega)).trans ?_
  · intro i r a hr ha hi
    simp only [List.length_singleton] at ha
    have hpl := putL_len a r.2.1
    simp only [dlt hi, cond_true, getI_nat hr, Option.bind_some, G177_put a r.2.1 (by omega), succ_W (show i + 1 < 9223372036854775808 by omega)]
    unfold dayR
    by_cases h : r.2.2.1 < 100000
    · simp only [decide_eq_true h, cond_true, if_pos h, G177_put (putL a r.2.1) (w64 (r.2.2.1 + 1)) (by omega), Option.bind_some]
      rfl
    · simp only [decide_eq_false h, cond_false, if_neg h]
      rfl
  · intro a _
    simp only [dnlt]; rfl
  · rw [putF_sort]; rfl
end Go.K
set_option linter.unusedVariables false
set_option linter.unusedSimpArgs false
set_option maxRecDepth 100000
namespace Go.K
open Go.Sl Go.Sx Go.Proofs
abbrev Cl := Int × (Int × (Int × List Int))
end Go.K
set_option linter.unusedVariables false
set_option linter.unusedSimpArgs false
set_option maxRecDepth 100000
namespace Go.K
open Go.Sl Go.Sx Go.Proofs
def frcS (d : Int) (r : Rl) (i : Nat) : List Int := if r.2.1 ≤ d ∧ d ≤ r.2.2.1 then [(i : Int)] else []
def frcA (c : Cd) (d : Int) : List Int := foldI (fun r i a => a ++ frcS d r i) c.2.2 0 []
theorem frcS_len (d : Int) (r : Rl) (i : Nat) : (frcS d r i).length ≤ 1 := by unfold frcS; split <;> simp
theorem frc_len (d : Int) : ∀ (l : List Rl) (i : Nat) (a : List Int), (foldI (fun r i a => a ++ frcS d r i) l i a).length ≤ a.length + l.length
  | [], _, _ => by simp [foldI]
  | r :: l, i, a => by
    have h1 := frc_len d l (i + 1) (a ++ frcS d r i)
    have h2 := frcS_len d r i
    simp only [foldI, List.length_cons]
    rw [List.length_append] at h1; omega
def frcR (c : Cd) (d : Int) : List Int × Int := if codeE c ≠ 0 then ([], codeE c) else if 0 ≤ d ∧ d ≤ 100000 then (frcA c d, 0) else ([], 45)
theorem G73_frc (c : Cd) (d : Int) : G73 LF (c, d) = some (frcR c d) := by
  unfold G73 frcR
  simp only [show G31 LF (c.1, (c.2.1, c.2.2)) = some (codeE c) from G31_code c, Option.bind_some, G91_in]
  by_cases he : codeE c = 0
  · have h := VC.of he
    have hll := h.ll
    simp only [he, decide_true, Bool.not_true, cond_false, ne_eq, not_true, if_false]
    by_cases hd : 0 ≤ d ∧ d ≤ 100000
    · simp only [decide_eq_true hd, Bool.not_true, cond_false, jl, decide_true, if_pos hd]
      refine (iter_foldI (fun i a => (a, i)) (fun (r : Rl) i a => a ++ frcS d r i) (fun i a => a.length ≤ i) c.2.2 (fun a => some (a, 0)) [] ?_ ?_ ?_ h.ll' (by simp)).trans rfl
      · intro i r a hr ha
        have hi := lt_of_get hr
        simp only [dlt hi, cond_true, getI_nat hr, Option.bind_some, succ_W (show i + 1 < 9223372036854775808 by omega), appC_of (show a.length + [(i : Int)].length ≤ 1099511627776 by simp; omega)]
        unfold frcS
        by_cases hb : r.2.1 ≤ d ∧ d ≤ r.2.2.1
        · simp only [decide_eq_true hb, cond_true, if_pos hb]
        · simp only [decide_eq_false hb, cond_false, if_neg hb, List.append_nil]
      · intro i r a _ ha
        have := frcS_len d r i
        rw [List.length_append]; omega
      · intro a _
        simp only [dnlt]; rfl
    · simp only [decide_eq_false hd, Bool.not_false, cond_true, jl, show decide ((45 : Int) = 0) = false by rfl, if_neg hd]
  · simp only [he, decide_false, Bool.not_false, cond_true, jl, ne_eq, not_false_eq_true, if_true]
theorem G74_frc (c : Cd) (d : Int) : G74 LF (c, d) = some (frcR c d) := by
  unfold G74 frcR
  simp only [show G32 LF (c.1, (c.2.1, c.2.2)) = some (codeE c) from G32_code c, Option.bind_some, G126_in]
  by_cases he : codeE c = 0
  · have h := VC.of he
    have hll := h.ll
    simp only [he, decide_true, Bool.not_true, cond_false, ne_eq, not_true, if_false]
    by_cases hd : 0 ≤ d ∧ d ≤ 100000
    · simp only [decide_eq_true hd, Bool.not_true, cond_false, decide_true, if_pos hd]
      refine (iter_foldI (fun i a => (a, i)) (fun (r : Rl) i a => a ++ frcS d r i) (fun i a => a.length ≤ i) c.2.2 (fun a => some (a, 0)) [] ?_ ?_ ?_ h.ll' (by simp)).trans rfl
      · intro i r a hr ha
        have hi := lt_of_get hr
        simp only [dlt hi, cond_true, getI_nat hr, Option.bind_some, succ_W (show i + 1 < 9223372036854775808 by omega), appC_of (show a.length + [(i : Int)].length ≤ 1099511627776 by simp; omega)]
        unfold frcS
        by_cases hb : r.2.1 ≤ d ∧ d ≤ r.2.2.1
        · simp only [decide_eq_true hb, cond_true, if_pos hb]
        · simp only [decide_eq_false hb, cond_false, if_neg hb, List.append_nil]
      · intro i r a _ ha
        have := frcS_len d r i
        rw [List.length_append]; omega
      · intro a _
        simp only [dnlt]; rfl
    · simp only [decide_eq_false hd, Bool.not_false, cond_true, if_neg hd]
  · simp only [he, decide_false, Bool.not_false, cond_true, ne_eq, not_false_eq_true, if_true]
def dayE (c : Cd) : List Int × Int := if codeE c ≠ 0 then ([], codeE c) else (daysL c.2.2, 0)
theorem G44_days (c : Cd) : G44 LF c = some (dayE c) := by
  unfold G44 dayE
  simp only [show G31 LF (c.1, (c.2.1, c.2.2)) = some (codeE c) from G31_code c, Option.bind_some]
  by_cases he : codeE c = 0
  · have hll := (VC.of he).ll
    simp only [he, decide_true, Bool.not_true, cond_false, ne_eq, not_true, if_false, show G127 LF (c.1, (c.2.1, c.2.2)) = some (daysL c.2.2) from G127_days c (by omega), Option.bind_some]
  · simp only [he, decide_false, Bool.not_false, cond_true, ne_eq, not_false_eq_true, if_true]
theorem G75_days (c : Cd) : G75 LF c = some (dayE c) := by
  unfold G75 dayE
  simp only [show G32 LF (c.1, (c.2.1, c.2.2)) = some (codeE c) from G32_code c, Option.bind_some]
  by_cases he : codeE c = 0
  · have hll := (VC.of he).ll
    simp only [he, decide_true, Bool.not_true, cond_false, ne_eq, not_true, if_false, show G142 LF (c.1, (c.2.1, c.2.2)) = some (daysL c.2.2) from G142_days c (by omega), Option.bind_some]
  · simp only [he, decide_false, Bool.not_false, cond_true, ne_eq, not_false_eq_true, if_true]
def celE (c : Cd) : List (List Int) × Int := if codeE c ≠ 0 then ([], codeE c) else (startsL c.2.1 (condsL c.2.2), 0)
theorem G55_cells (c : Cd) : G55 LF c = some (celE c) := by
  unfold G55 celE
  simp only [show G31 LF (c.1, (c.2.1, c.2.2)) = some (codeE c) from G31_code c, Option.bind_some]
  by_cases he : codeE c = 0
  · have h := VC.of he
    have hll := h.ll
    have hfl := h.fl
    simp only [he, decide_true, Bool.not_true, cond_false, ne_eq, not_true, if_false, G116_conds _ _ _ (show c.2.2.length ≤ 1000 by omega), G115_starts _ _ (show c.2.1.length ≤ 1000 by omega) (show (condsL c.2.2).length ≤ 1000 by have := h.cl; omega) h.cs, Option.bind_some]
  · simp only [he, decide_false, Bool.not_false, cond_true, ne_eq, not_false_eq_true, if_true]
theorem G76_cells (c : Cd) : G76 LF c = some (celE c) := by
  unfold G76 celE
  simp only [show G32 LF (c.1, (c.2.1, c.2.2)) = some (codeE c) from G32_code c, Option.bind_some]
  by_cases he : codeE c = 0
  · have h := VC.of he
    have hll := h.ll
    have hfl := h.fl
    simp only [he, decide_true, Bool.not_true, cond_false, ne_eq, not_true, if_false]
    unfold G120
    simp only [show G109 LF (c.1, (c.2.1, c.2.2)) = some (condsL c.2.2) from G109_conds c (show c.2.2.length ≤ 1000 by omega), Option.bind_some, G108_starts _ _ (show c.2.1.length ≤ 1000 by omega) h.cl h.cs]
  · simp only [he, decide_false, Bool.not_false, cond_true, ne_eq, not_false_eq_true, if_true]
end Go.K
set_option linter.unusedVariables false
set_option maxRecDepth 100000
set_option maxHeartbeats 0
namespace Go.K
open Go.Sl Go.Sx Go.Proofs
def S54 : FuncId → Sp := fun g => match g with
  | 54 => { loops := [(4, [(.slot 13, .dat .i)])] }
  | 128 => { nz := [(11, [12])] }
  | _ => {}
noncomputable def F54 (P : Program) (lf : Nat) (x : tt [(false, (.sl (.pair .str (.pair .i .i)))), (false, (.sl (.pair .str (.pair .i .i))))]) : Option (tt [(false, .bool)]) := fnF P (C16 P lf) S54 54 [(false, (.sl (.pair .str (.pair .i .i)))), (false, (.sl (.pair .str (.pair .i .i))))] [(false, .bool)] lf x
noncomputable def C54 (P : Program) (lf : Nat) : FuncId → Option Con := extC (C16 P lf) 54 (dataCon [(false, (.sl (.pair .str (.pair .i .i)))), (false, (.sl (.pair .str (.pair .i .i))))] [(false, .bool)] (F54 P lf))
theorem F54_eq (lf : Nat) (a0 : (List (ByteArray × (Int × Int)))) (a1 : (List (ByteArray × (Int × Int)))) : F54 Tryz.prog lf (a0, a1) =
  cond (!(decide ((a0.length : Int) = (a1.length : Int)))) (some false) (iter lf (fun y5 : Int => cond (decide (y5 < (a0.length : Int))) (((getI a0 y5)).bind fun r6 => ((getI a1 y5)).bind fun r7 => cond (!((((ByteArray.toList r6.1) == (ByteArray.toList r7.1)) && true) && (((decide (r6.2.1 = r7.2.1)) && ((decide (r6.2.2 = r7.2.2)) && true)) && true))) (some (.inr false)) (some (.inl (w64 (y5 + (1 : Int)))))) (some (.inr true))) (0 : Int)) := by kernel_rfl
def S53 : FuncId → Sp := fun g => match g with
  | 53 => { joins := [(9, [(.slot 88, .dat .bool)]), (2, [(.slot 29, .dat .bool)])], loops := [(4, [(.slot 33, .dat .i)])] }
  | 128 => { nz := [(11, [12])] }
  | _ => {}
noncomputable def F53 (P : Program) (lf : Nat) (x : tt [(true, (.pair .str (.pair (.sl (.pair .str (.pair .i .i))) (.sl (.pair .str (.pair .i (.pair .i (.pair (.sl (.pair .i (.pair .i (.pair .i (.pair .str .i))))) (.pair (.sl (.pair .i (.pair .i (.pair .i (.pair .str .i))))) (.sl .str)))))))))), (true, (.pair .str (.pair (.sl (.pair .str (.pair .i .i))) (.sl (.pair .str (.pair .i (.pair .i (.pair (.sl (.pair .i (.pair .i (.pair .i (.pair .str .i))))) (.pair (.sl (.pair .i (.pair .i (.pair .i (.pair .str .i))))) (.sl .str))))))))))]) : Option (tt [(false, .bool)]) := fnF P (C54 P lf) S53 53 [(true, (.pair .str (.pair (.sl (.pair .str (.pair .i .i))) (.sl (.pair .str (.pair .i (.pair .i (.pair (.sl (.pair .i (.pair .i (.pair .i (.pair .str .i))))) (.pair (.sl (.pair .i (.pair .i (.pair .i (.pair .str .i))))) (.sl .str)))))))))), (true, (.pair .str (.pair (.sl (.pair .str (.pair .i .i))) (.sl (.pair .str (.pair .i (.pair .i (.pair (.sl (.pair .i (.pair .i (.pair .i (.pair .str .i))))) (.pair (.sl (.pair .i (.pair .i (.pair .i (.pair .str .i))))) (.sl .str))))))))))] [(false, .bool)] lf x
noncomputable def C53 (P : Program) (lf : Nat) : FuncId → Option Con := extC (C54 P lf) 53 (dataCon [(true, (.pair .str (.pair (.sl (.pair .str (.pair .i .i))) (.sl (.pair .str (.pair .i (.pair .i (.pair (.sl (.pair .i (.pair .i (.pair .i (.pair .str .i))))) (.pair (.sl (.pair .i (.pair .i (.pair .i (.pair .str .i))))) (.sl .str)))))))))), (true, (.pair .str (.pair (.sl (.pair .str (.pair .i .i))) (.sl (.pair .str (.pair .i (.pair .i (.pair (.sl (.pair .i (.pair .i (.pair .i (.pair .str .i))))) (.pair (.sl (.pair .i (.pair .i (.pair .i (.pair .str .i))))) (.sl .str))))))))))] [(false, .bool)] (F53 P lf))
theorem F53_eq (lf : Nat) (a0 : ByteArray) (a1 : (List (ByteArray × (Int × Int)))) (a2 : (List (ByteArray × (Int × (Int × ((List (Int × (Int × (Int × (ByteArray × Int))))) × ((List (Int × (Int × (Int × (ByteArray × Int))))) × (List ByteArray)))))))) (a3 : ByteArray) (a4 : (List (ByteArray × (Int × Int)))) (a5 : (List (ByteArray × (Int × (Int × ((List (Int × (Int × (Int × (ByteArray × Int))))) × ((List (Int × (Int × (Int × (ByteArray × Int))))) × (List ByteArray)))))))) : F53 Tryz.prog lf ((a0, (a1, a2)), (a3, (a4, a5))) =
  jn (cond (!((ByteArray.toList a0) == (ByteArray.toList a3))) (some (.inl true)) (((F54 Tryz.prog lf (a1, a4))).bind fun r15 => cond (!r15) (some (.inl true)) (some (.inl (!(decide ((a2.length : Int) = (a5.length : Int)))))))) (fun y16 : Bool => cond y16 (some false) (iter lf (fun y17 : Int => cond (decide (y17 < (a2.length : Int))) (((getI a2 y17)).bind fun r18 => ((getI a5 y17)).bind fun r19 => jn (cond (!((ByteArray.toList r18.1) == (ByteArray.toList r19.1))) (some (.inl true)) (cond (!(decide (r18.2.1 = r19.2.1))) (some (.inl true)) (cond (!(decide (r18.2.2.1 = r19.2.2.1))) (some (.inl true)) (((F21 Tryz.prog lf (r18.2.2.2.1, r19.2.2.2.1))).bind fun r20 => cond (!r20) (some (.inl true)) (((F21 Tryz.prog lf (r18.2.2.2.2.1, r19.2.2.2.2.1))).bind fun r21 => cond (!r21) (some (.inl true)) (((F33 Tryz.prog lf (r18.2.2.2.2.2, r19.2.2.2.2.2))).bind fun r22 => some (.inl (!r22)))))))) (fun y23 : Bool => cond y23 (some (.inr false)) (some (.inl (w64 (y17 + (1 : Int))))))) (some (.inr true))) (0 : Int))) := by kernel_rfl
def S210 : FuncId → Sp := fun g => match g with
  | 128 => { nz := [(11, [12])] }
  | _ => {}
noncomputable def F210 (P : Program) (lf : Nat) (x : tt [(false, (.sl (.pair .str (.pair .i .i))))]) : Option (tt [(false, (.sl (.pair .str (.pair .i .i))))]) := fnF P (C53 P lf) S210 210 [(false, (.sl (.pair .str (.pair .i .i))))] [(false, (.sl (.pair .str (.pair .i .i))))] lf x
noncomputable def C210 (P : Program) (lf : Nat) : FuncId → Option Con := extC (C53 P lf) 210 (dataCon [(false, (.sl (.pair .str (.pair .i .i))))] [(false, (.sl (.pair .str (.pair .i .i))))] (F210 P lf))
theorem F210_eq (lf : Nat) (a0 : (List (ByteArray × (Int × Int)))) : F210 Tryz.prog lf a0 =
  cond (decide ((a0.length : Int) = (0 : Int))) (agree (some ([] : List (ByteArray × (Int × Int)))) (((appC ([] : List (ByteArray × (Int × Int))) a0)).bind fun r3 => some r3)) (((appC ([] : List (ByteArray × (Int × Int))) a0)).bind fun r4 => some r4) := by kernel_rfl
def S211 : FuncId → Sp := fun g => match g with
  | 128 => { nz := [(11, [12])] }
  | _ => {}
noncomputable def F211 (P : Program) (lf : Nat) (x : tt [(false, (.sl (.pair .i (.pair .i (.pair .i (.pair .str .i))))))]) : Option (tt [(false, (.sl (.pair .i (.pair .i (.pair .i (.pair .str .i))))))]) := fnF P (C210 P lf) S211 211 [(false, (.sl (.pair .i (.pair .i (.pair .i (.pair .str .i))))))] [(false, (.sl (.pair .i (.pair .i (.pair .i (.pair .str .i))))))] lf x
noncomputable def C211 (P : Program) (lf : Nat) : FuncId → Option Con := extC (C210 P lf) 211 (dataCon [(false, (.sl (.pair .i (.pair .i (.pair .i (.pair .str .i))))))] [(false, (.sl (.pair .i (.pair .i (.pair .i (.pair .str .i))))))] (F211 P lf))
theorem F211_eq (lf : Nat) (a0 : (List (Int × (Int × (Int × (ByteArray × Int)))))) : F211 Tryz.prog lf a0 =
  cond (decide ((a0.length : Int) = (0 : Int))) (agree (some ([] : List (Int × (Int × (Int × (ByteArray × Int)))))) (((appC ([] : List (Int × (Int × (Int × (ByteArray × Int))))) a0)).bind fun r3 => some r3)) (((appC ([] : List (Int × (Int × (Int × (ByteArray × Int))))) a0)).bind fun r4 => some r4) := by kernel_rfl
def S212 : FuncId → Sp := fun g => match g with
  | 128 => { nz := [(11, [12])] }
  | _ => {}
noncomputable def F212 (P : Program) (lf : Nat) (x : tt [(false, (.sl .str))]) : Option (tt [(false, (.sl .str))]) := fnF P (C211 P lf) S212 212 [(false, (.sl .str))] [(false, (.sl .str))] lf x
noncomputable def C212 (P : Program) (lf : Nat) : FuncId → Option Con := extC (C211 P lf) 212 (dataCon [(false, (.sl .str))] [(false, (.sl .str))] (F212 P lf))
theorem F212_eq (lf : Nat) (a0 : (List ByteArray)) : F212 Tryz.prog lf a0 =
  cond (decide ((a0.length : Int) = (0 : Int))) (agree (some ([] : List ByteArray)) (((appC ([] : List ByteArray) a0)).bind fun r3 => some r3)) (((appC ([] : List ByteArray) a0)).bind fun r4 => some r4) := by kernel_rfl
def S153 : FuncId → Sp := fun g => match g with
  | 153 => { loops := [(3, [(.slot 15, .dat .i), (.cell 3 2, .own (.pair .str (.pair .i (.pair .i (.pair (.sl (.pair .i (.pair .i (.pair .i (.pair .str .i))))) (.pair (.sl (.pair .i (.pair .i (.pair .i (.pair .str .i))))) (.sl .str)))))) 60)])] }
  | 128 => { nz := [(11, [12])] }
  | _ => {}
noncomputable def F153 (P : Program) (lf : Nat) (x : tt [(true, (.pair .str (.pair (.sl (.pair .str (.pair .i .i))) (.sl (.pair .str (.pair .i (.pair .i (.pair (.sl (.pair .i (.pair .i (.pair .i (.pair .str .i))))) (.pair (.sl (.pair .i (.pair .i (.pair .i (.pair .str .i))))) (.sl .str))))))))))]) : Option (tt [(true, (.pair .str (.pair (.sl (.pair .str (.pair .i .i))) (.sl (.pair .str (.pair .i (.pair .i (.pair (.sl (.pair .i (.pair .i (.pair .i (.pair .str .i))))) (.pair (.sl (.pair .i (.pair .i (.pair .i (.pair .str .i))))) (.sl .str))))))))))]) := fnF P (C212 P lf) S153 153 [(true, (.pair .str (.pair (.sl (.pair .str (.pair .i .i))) (.sl (.pair .str (.pair .i (.pair .i (.pair (.sl (.pair .i (.pair .i (.pair .i (.pair .str .i))))) (.pair (.sl (.pair .i (.pair .i (.pair .i (.pair .str .i))))) (.sl .str))))))))))] [(true, (.pair .str (.pair (.sl (.pair .str (.pair .i .i))) (.sl (.pair .str (.pair .i (.pair .i (.pair (.sl (.pair .i (.pair .i (.pair .i (.pair .str .i))))) (.pair (.sl (.pair .i (.pair .i (.pair .i (.pair .str .i))))) (.sl .str))))))))))] lf x
noncomputable def C153 (P : Program) (lf : Nat) : FuncId → Option Con := extC (C212 P lf) 153 (dataCon [(true, (.pair .str (.pair (.sl (.pair .str (.pair .i .i))) (.sl (.pair .str (.pair .i (.pair .i (.pair (.sl (.pair .i (.pair .i (.pair .i (.pair .str .i))))) (.pair (.sl (.pair .i (.pair .i (.pair .i (.pair .str .i))))) (.sl .str))))))))))] [(true, (.pair .str (.pair (.sl (.pair .str (.pair .i .i))) (.sl (.pair .str (.pair .i (.pair .i (.pair (.sl (.pair .i (.pair .i (.pair .i (.pair .str .i))))) (.pair (.sl (.pair .i (.pair .i (.pair .i (.pair .str .i))))) (.sl .str))))))))))] (F153 P lf))
theorem F153_eq (lf : Nat) (a0 : ByteArray) (a1 : (List (ByteArray × (Int × Int)))) (a2 : (List (ByteArray × (Int × (Int × ((List (Int × (Int × (Int × (ByteArray × Int))))) × ((List (Int × (Int × (Int × (ByteArray × Int))))) × (List ByteArray)))))))) : F153 Tryz.prog lf (a0, (a1, a2)) =
  agree (((F210 Tryz.prog lf a1)).bind fun r25 => iter lf (fun y26 : (Int × (List (ByteArray × (Int × (Int × ((List (Int × (Int × (Int × (ByteArray × Int))))) × ((List (Int × (Int × (Int × (ByteArray × Int))))) × (List ByteArray)))))))) => cond (decide (y26.1 < (a2.length : Int))) (((getI a2 y26.1)).bind fun r27 => ((F211 Tryz.prog lf r27.2.2.2.1)).bind fun r28 => ((F211 Tryz.prog lf r27.2.2.2.2.1)).bind fun r29 => ((F212 Tryz.prog lf r27.2.2.2.2.2)).bind fun r30 => ((appC y26.2 [(r27.1, (r27.2.1, (r27.2.2.1, (r28, (r29, r30)))))])).bind fun r31 => some (.inl ((w64 (y26.1 + (1 : Int))), r31))) (some (.inr (a0, (r25, y26.2))))) ((0 : Int), ([] : List (ByteArray × (Int × (Int × ((List (Int × (Int × (Int × (ByteArray × Int))))) × ((List (Int × (Int × (Int × (ByteArray × Int))))) × (List ByteArray))))))))) (((F210 Tryz.prog lf a1)).bind fun r32 => iter lf (fun y33 : (Int × (List (ByteArray × (Int × (Int × ((List (Int × (Int × (Int × (ByteArray × Int))))) × ((List (Int × (Int × (Int × (ByteArray × Int))))) × (List ByteArray)))))))) => cond (decide (y33.1 < (a2.length : Int))) (((getI a2 y33.1)).bind fun r34 => ((F211 Tryz.prog lf r34.2.2.2.1)).bind fun r35 => ((F211 Tryz.prog lf r34.2.2.2.2.1)).bind fun r36 => ((F212 Tryz.prog lf r34.2.2.2.2.2)).bind fun r37 => ((appC y33.2 [(r34.1, (r34.2.1, (r34.2.2.1, (r35, (r36, r37)))))])).bind fun r38 => some (.inl ((w64 (y33.1 + (1 : Int))), r38))) (some (.inr (a0, (r32, y33.2))))) ((0 : Int), ([] : List (ByteArray × (Int × (Int × ((List (Int × (Int × (Int × (ByteArray × Int))))) × ((List (Int × (Int × (Int × (ByteArray × Int))))) × (List ByteArray))))))))) := by kernel_rfl
def S71 : FuncId → Sp := fun g => match g with
  | 71 => { joins := [(5, [(.cell 2 2, .own (.pair .str (.pair .i (.pair .i (.pair (.sl (.pair .i (.pair .i (.pair .i (.pair .str .i))))) (.pair (.sl (.pair .i (.pair .i (.pair .i (.pair .str .i))))) (.sl .str)))))) 60)])], wr := [4] }
  | 128 => { nz := [(11, [12])] }
  | _ => {}
noncomputable def F71 (P : Program) (lf : Nat) (x : tt [(true, (.pair .str (.pair (.sl (.pair .str (.pair .i .i))) (.sl (.pair .str (.pair .i (.pair .i (.pair (.sl (.pair .i (.pair .i (.pair .i (.pair .str .i))))) (.pair (.sl (.pair .i (.pair .i (.pair .i (.pair .str .i))))) (.sl .str)))))))))), (true, (.pair .str (.pair .i (.pair .i (.pair (.sl (.pair .i (.pair .i (.pair .i (.pair .str .i))))) (.pair (.sl (.pair .i (.pair .i (.pair .i (.pair .str .i))))) (.sl .str)))))))]) : Option (tt [(true, (.pair .str (.pair (.sl (.pair .str (.pair .i .i))) (.sl (.pair .str (.pair .i (.pair .i (.pair (.sl (.pair .i (.pair .i (.pair .i (.pair .str .i))))) (.pair (.sl (.pair .i (.pair .i (.pair .i (.pair .str .i))))) (.sl .str)))))))))), (false, .i)]) := fnF P (C153 P lf) S71 71 [(true, (.pair .str (.pair (.sl (.pair .str (.pair .i .i))) (.sl (.pair .str (.pair .i (.pair .i (.pair (.sl (.pair .i (.pair .i (.pair .i (.pair .str .i))))) (.pair (.sl (.pair .i (.pair .i (.pair .i (.pair .str .i))))) (.sl .str)))))))))), (true, (.pair .str (.pair .i (.pair .i (.pair (.sl (.pair .i (.pair .i (.pair .i (.pair .str .i))))) (.pair (.sl (.pair .i (.pair .i (.pair .i (.pair .str .i))))) (.sl .str)))))))] [(true, (.pair .str (.pair (.sl (.pair .str (.pair .i .i))) (.sl (.pair .str (.pair .i (.pair .i (.pair (.sl (.pair .i (.pair .i (.pair .i (.pair .str .i))))) (.pair (.sl (.pair .i (.pair .i (.pair .i (.pair .str .i))))) (.sl .str)))))))))), (false, .i)] lf x
noncomputable def C71 (P : Program) (lf : Nat) : FuncId → Option Con := extC (C153 P lf) 71 (dataCon [(true, (.pair .str (.pair (.sl (.pair .str (.pair .i .i))) (.sl (.pair .str (.pair .i (.pair .i (.pair (.sl (.pair .i (.pair .i (.pair .i (.pair .str .i))))) (.pair (.sl (.pair .i (.pair .i (.pair .i (.pair .str .i))))) (.sl .str)))))))))), (true, (.pair .str (.pair .i (.pair .i (.pair (.sl (.pair .i (.pair .i (.pair .i (.pair .str .i))))) (.pair (.sl (.pair .i (.pair .i (.pair .i (.pair .str .i))))) (.sl .str)))))))] [(true, (.pair .str (.pair (.sl (.pair .str (.pair .i .i))) (.sl (.pair .str (.pair .i (.pair .i (.pair (.sl (.pair .i (.pair .i (.pair .i (.pair .str .i))))) (.pair (.sl (.pair .i (.pair .i (.pair .i (.pair .str .i))))) (.sl .str)))))))))), (false, .i)] (F71 P lf))
theorem F71_eq (lf : Nat) (a0 : ByteArray) (a1 : (List (ByteArray × (Int × Int)))) (a2 : (List (ByteArray × (Int × (Int × ((List (Int × (Int × (Int × (ByteArray × Int))))) × ((List (Int × (Int × (Int × (ByteArray × Int))))) × (List ByteArray)))))))) (a3 : ByteArray) (a4 : Int) (a5 : Int) (a6 : (List (Int × (Int × (Int × (ByteArray × Int)))))) (a7 : (List (Int × (Int × (Int × (ByteArray × Int)))))) (a8 : (List ByteArray)) : F71 Tryz.prog lf ((a0, (a1, a2)), (a3, (a4, (a5, (a6, (a7, a8)))))) =
  ((F31 Tryz.prog lf (a0, (a1, a2)))).bind fun r34 => cond (!(decide (r34 = (0 : Int)))) (some (((bts []), (([] : List (ByteArray × (Int × Int))), ([] : List (ByteArray × (Int × (Int × ((List (Int × (Int × (Int × (ByteArray × Int))))) × ((List (Int × (Int × (Int × (ByteArray × Int))))) × (List ByteArray))))))))), r34)) (jn (agree (cond (decide ((a2.length : Int) = (0 : Int))) (agree (((appC ([] : List (ByteArray × (Int × (Int × ((List (Int × (Int × (Int × (ByteArray × Int))))) × ((List (Int × (Int × (Int × (ByteArray × Int))))) × (List ByteArray))))))) [(a3, (a4, (a5, (a6, (a7, a8)))))])).bind fun r35 => some (.inl r35)) (((appC ([] : List (ByteArray × (Int × (Int × ((List (Int × (Int × (Int × (ByteArray × Int))))) × ((List (Int × (Int × (Int × (ByteArray × Int))))) × (List ByteArray))))))) a2)).bind fun r36 => ((appC r36 [(a3, (a4, (a5, (a6, (a7, a8)))))])).bind fun r37 => some (.inl r37))) (((appC ([] : List (ByteArray × (Int × (Int × ((List (Int × (Int × (Int × (ByteArray × Int))))) × ((List (Int × (Int × (Int × (ByteArray × Int))))) × (List ByteArray))))))) a2)).bind fun r38 => ((appC r38 [(a3, (a4, (a5, (a6, (a7, a8)))))])).bind fun r39 => some (.inl r39))) (agree (cond (decide ((a2.length : Int) = (0 : Int))) (agree (((appC ([] : List (ByteArray × (Int × (Int × ((List (Int × (Int × (Int × (ByteArray × Int))))) × ((List (Int × (Int × (Int × (ByteArray × Int))))) × (List ByteArray))))))) [(a3, (a4, (a5, (a6, (a7, a8)))))])).bind fun r40 => some (.inl r40)) (((appC ([] : List (ByteArray × (Int × (Int × ((List (Int × (Int × (Int × (ByteArray × Int))))) × ((List (Int × (Int × (Int × (ByteArray × Int))))) × (List ByteArray))))))) a2)).bind fun r41 => ((appC r41 [(a3, (a4, (a5, (a6, (a7, a8)))))])).bind fun r42 => some (.inl r42))) (((appC ([] : List (ByteArray × (Int × (Int × ((List (Int × (Int × (Int × (ByteArray × Int))))) × ((List (Int × (Int × (Int × (ByteArray × Int))))) × (List ByteArray))))))) a2)).bind fun r43 => ((appC r43 [(a3, (a4, (a5, (a6, (a7, a8)))))])).bind fun r44 => some (.inl r44))) (cond (decide ((a2.length : Int) = (0 : Int))) (agree (((appC ([] : List (ByteArray × (Int × (Int × ((List (Int × (Int × (Int × (ByteArray × Int))))) × ((List (Int × (Int × (Int × (ByteArray × Int))))) × (List ByteArray))))))) [(a3, (a4, (a5, (a6, (a7, a8)))))])).bind fun r45 => some (.inl r45)) (((appC ([] : List (ByteArray × (Int × (Int × ((List (Int × (Int × (Int × (ByteArray × Int))))) × ((List (Int × (Int × (Int × (ByteArray × Int))))) × (List ByteArray))))))) a2)).bind fun r46 => ((appC r46 [(a3, (a4, (a5, (a6, (a7, a8)))))])).bind fun r47 => some (.inl r47))) (((appC ([] : List (ByteArray × (Int × (Int × ((List (Int × (Int × (Int × (ByteArray × Int))))) × ((List (Int × (Int × (Int × (ByteArray × Int))))) × (List ByteArray))))))) a2)).bind fun r48 => ((appC r48 [(a3, (a4, (a5, (a6, (a7, a8)))))])).bind fun r49 => some (.inl r49))))) (fun y50 : (List (ByteArray × (Int × (Int × ((List (Int × (Int × (Int × (ByteArray × Int))))) × ((List (Int × (Int × (Int × (ByteArray × Int))))) × (List ByteArray))))))) => ((F31 Tryz.prog lf (a0, (a1, y50)))).bind fun r51 => cond (!(decide (r51 = (0 : Int)))) (some (((bts []), (([] : List (ByteArray × (Int × Int))), ([] : List (ByteArray × (Int × (Int × ((List (Int × (Int × (Int × (ByteArray × Int))))) × ((List (Int × (Int × (Int × (ByteArray × Int))))) × (List ByteArray))))))))), r51)) (((F153 Tryz.prog lf (a0, (a1, y50)))).bind fun r52 => some ((r52.1, (r52.2.1, r52.2.2)), (0 : Int))))) := by kernel_rfl
def S213 : FuncId → Sp := fun g => match g with
  | 128 => { nz := [(11, [12])] }
  | _ => {}
noncomputable def F213 (P : Program) (lf : Nat) (x : tt [(true, (.sl (.pair .i (.pair .i (.pair .i (.pair .str .i))))))]) : Option (tt [(true, (.sl (.pair .i (.pair .i (.pair .i (.pair .str .i))))))]) := fnF P (C71 P lf) S213 213 [(true, (.sl (.pair .i (.pair .i (.pair .i (.pair .str .i))))))] [(true, (.sl (.pair .i (.pair .i (.pair .i (.pair .str .i))))))] lf x
noncomputable def C213 (P : Program) (lf : Nat) : FuncId → Option Con := extC (C71 P lf) 213 (dataCon [(true, (.sl (.pair .i (.pair .i (.pair .i (.pair .str .i))))))] [(true, (.sl (.pair .i (.pair .i (.pair .i (.pair .str .i))))))] (F213 P lf))
theorem F213_eq (lf : Nat) (a0 : (List (Int × (Int × (Int × (ByteArray × Int)))))) : F213 Tryz.prog lf a0 =
  ((appC ([] : List (Int × (Int × (Int × (ByteArray × Int))))) a0)).bind fun r2 => some r2 := by kernel_rfl
def S155 : FuncId → Sp := fun g => match g with
  | 128 => { nz := [(11, [12])] }
  | _ => {}
noncomputable def F155 (P : Program) (lf : Nat) (x : tt [(true, (.pair .str (.pair .i (.pair .i (.pair (.sl (.pair .i (.pair .i (.pair .i (.pair .str .i))))) (.pair (.sl (.pair .i (.pair .i (.pair .i (.pair .str .i))))) (.sl .str)))))))]) : Option (tt [(true, (.pair .str (.pair .i (.pair .i (.pair (.sl (.pair .i (.pair .i (.pair .i (.pair .str .i))))) (.pair (.sl (.pair .i (.pair .i (.pair .i (.pair .str .i))))) (.sl .str)))))))]) := fnF P (C213 P lf) S155 155 [(true, (.pair .str (.pair .i (.pair .i (.pair (.sl (.pair .i (.pair .i (.pair .i (.pair .str .i))))) (.pair (.sl (.pair .i (.pair .i (.pair .i (.pair .str .i))))) (.sl .str)))))))] [(true, (.pair .str (.pair .i (.pair .i (.pair (.sl (.pair .i (.pair .i (.pair .i (.pair .str .i))))) (.pair (.sl (.pair .i (.pair .i (.pair .i (.pair .str .i))))) (.sl .str)))))))] lf x
noncomputable def C155 (P : Program) (lf : Nat) : FuncId → Option Con := extC (C213 P lf) 155 (dataCon [(true, (.pair .str (.pair .i (.pair .i (.pair (.sl (.pair .i (.pair .i (.pair .i (.pair .str .i))))) (.pair (.sl (.pair .i (.pair .i (.pair .i (.pair .str .i))))) (.sl .str)))))))] [(true, (.pair .str (.pair .i (.pair .i (.pair (.sl (.pair .i (.pair .i (.pair .i (.pair .str .i))))) (.pair (.sl (.pair .i (.pair .i (.pair .i (.pair .str .i))))) (.sl .str)))))))] (F155 P lf))
theorem F155_eq (lf : Nat) (a0 : ByteArray) (a1 : Int) (a2 : Int) (a3 : (List (Int × (Int × (Int × (ByteArray × Int)))))) (a4 : (List (Int × (Int × (Int × (ByteArray × Int)))))) (a5 : (List ByteArray)) : F155 Tryz.prog lf (a0, (a1, (a2, (a3, (a4, a5))))) =
  ((F213 Tryz.prog lf a3)).bind fun r9 => ((F213 Tryz.prog lf a4)).bind fun r10 => ((appC ([] : List ByteArray) a5)).bind fun r11 => some (a0, (a1, (a2, (r9, (r10, r11))))) := by kernel_rfl
def S72 : FuncId → Sp := fun g => match g with
  | 154 => { loops := [(3, [(.slot 16, .dat .i), (.cell 3 2, .own (.pair .str (.pair .i (.pair .i (.pair (.sl (.pair .i (.pair .i (.pair .i (.pair .str .i))))) (.pair (.sl (.pair .i (.pair .i (.pair .i (.pair .str .i))))) (.sl .str)))))) 60)])] }
  | 128 => { nz := [(11, [12])] }
  | _ => {}
noncomputable def F72 (P : Program) (lf : Nat) (x : tt [(true, (.pair .str (.pair (.sl (.pair .str (.pair .i .i))) (.sl (.pair .str (.pair .i (.pair .i (.pair (.sl (.pair .i (.pair .i (.pair .i (.pair .str .i))))) (.pair (.sl (.pair .i (.pair .i (.pair .i (.pair .str .i))))) (.sl .str)))))))))), (true, (.pair .str (.pair .i (.pair .i (.pair (.sl (.pair .i (.pair .i (.pair .i (.pair .str .i))))) (.pair (.sl (.pair .i (.pair .i (.pair .i (.pair .str .i))))) (.sl .str)))))))]) : Option (tt [(true, (.pair .str (.pair (.sl (.pair .str (.pair .i .i))) (.sl (.pair .str (.pair .i (.pair .i (.pair (.sl (.pair .i (.pair .i (.pair .i (.pair .str .i))))) (.pair (.sl (.pair .i (.pair .i (.pair .i (.pair .str .i))))) (.sl .str)))))))))), (false, .i)]) := fnF P (C155 P lf) S72 72 [(true, (.pair .str (.pair (.sl (.pair .str (.pair .i .i))) (.sl (.pair .str (.pair .i (.pair .i (.pair (.sl (.pair .i (.pair .i (.pair .i (.pair .str .i))))) (.pair (.sl (.pair .i (.pair .i (.pair .i (.pair .str .i))))) (.sl .str)))))))))), (true, (.pair .str (.pair .i (.pair .i (.pair (.sl (.pair .i (.pair .i (.pair .i (.pair .str .i))))) (.pair (.sl (.pair .i (.pair .i (.pair .i (.pair .str .i))))) (.sl .str)))))))] [(true, (.pair .str (.pair (.sl (.pair .str (.pair .i .i))) (.sl (.pair .str (.pair .i (.pair .i (.pair (.sl (.pair .i (.pair .i (.pair .i (.pair .str .i))))) (.pair (.sl (.pair .i (.pair .i (.pair .i (.pair .str .i))))) (.sl .str)))))))))), (false, .i)] lf x
noncomputable def C72 (P : Program) (lf : Nat) : FuncId → Option Con := extC (C155 P lf) 72 (dataCon [(true, (.pair .str (.pair (.sl (.pair .str (.pair .i .i))) (.sl (.pair .str (.pair .i (.pair .i (.pair (.sl (.pair .i (.pair .i (.pair .i (.pair .str .i))))) (.pair (.sl (.pair .i (.pair .i (.pair .i (.pair .str .i))))) (.sl .str)))))))))), (true, (.pair .str (.pair .i (.pair .i (.pair (.sl (.pair .i (.pair .i (.pair .i (.pair .str .i))))) (.pair (.sl (.pair .i (.pair .i (.pair .i (.pair .str .i))))) (.sl .str)))))))] [(true, (.pair .str (.pair (.sl (.pair .str (.pair .i .i))) (.sl (.pair .str (.pair .i (.pair .i (.pair (.sl (.pair .i (.pair .i (.pair .i (.pair .str .i))))) (.pair (.sl (.pair .i (.pair .i (.pair .i (.pair .str .i))))) (.sl .str)))))))))), (false, .i)] (F72 P lf))
theorem F72_eq (lf : Nat) (a0 : ByteArray) (a1 : (List (ByteArray × (Int × Int)))) (a2 : (List (ByteArray × (Int × (Int × ((List (Int × (Int × (Int × (ByteArray × Int))))) × ((List (Int × (Int × (Int × (ByteArray × Int))))) × (List ByteArray)))))))) (a3 : ByteArray) (a4 : Int) (a5 : Int) (a6 : (List (Int × (Int × (Int × (ByteArray × Int)))))) (a7 : (List (Int × (Int × (Int × (ByteArray × Int)))))) (a8 : (List ByteArray)) : F72 Tryz.prog lf ((a0, (a1, a2)), (a3, (a4, (a5, (a6, (a7, a8)))))) =
  ((F32 Tryz.prog lf (a0, (a1, a2)))).bind fun r145 => cond (!(decide (r145 = (0 : Int)))) (some (((bts []), (([] : List (ByteArray × (Int × Int))), ([] : List (ByteArray × (Int × (Int × ((List (Int × (Int × (Int × (ByteArray × Int))))) × ((List (Int × (Int × (Int × (ByteArray × Int))))) × (List ByteArray))))))))), r145)) (agree (agree (agree (((appC ([] : List (ByteArray × (Int × Int))) a1)).bind fun r146 => agree (iter lf (fun y147 : (Int × (List (ByteArray × (Int × (Int × ((List (Int × (Int × (Int × (ByteArray × Int))))) × ((List (Int × (Int × (Int × (ByteArray × Int))))) × (List ByteArray)))))))) => cond (decide (y147.1 < (a2.length : Int))) (((getI a2 y147.1)).bind fun r148 => ((F155 Tryz.prog lf (r148.1, (r148.2.1, (r148.2.2.1, (r148.2.2.2.1, (r148.2.2.2.2.1, r148.2.2.2.2.2))))))).bind fun r149 => ((appC y147.2 [(r149.1, (r149.2.1, (r149.2.2.1, (r149.2.2.2.1, (r149.2.2.2.2.1, r149.2.2.2.2.2)))))])).bind fun r150 => some (.inl ((w64 (y147.1 + (1 : Int))), r150))) (outR (((F155 Tryz.prog lf (a3, (a4, (a5, (a6, (a7, a8))))))).bind fun r151 => ((appC y147.2 [(r151.1, (r151.2.1, (r151.2.2.1, (r151.2.2.2.1, (r151.2.2.2.2.1, r151.2.2.2.2.2)))))])).bind fun r152 => ((F32 Tryz.prog lf (a0, (r146, r152)))).bind fun r153 => cond (!(decide (r153 = (0 : Int)))) (some (((bts []), (([] : List (ByteArray × (Int × Int))), ([] : List (ByteArray × (Int × (Int × ((List (Int × (Int × (Int × (ByteArray × Int))))) × ((List (Int × (Int × (Int × (ByteArray × Int))))) × (List ByteArray))))))))), r153)) (some ((a0, (r146, r152)), (0 : Int)))))) ((0 : Int), ([] : List (ByteArray × (Int × (Int × ((List (Int × (Int × (Int × (ByteArray × Int))))) × ((List (Int × (Int × (Int × (ByteArray × Int))))) × (List ByteArray))))))))) (iter lf (fun y154 : (Int × (List (ByteArray × (Int × (Int × ((List (Int × (Int × (Int × (ByteArray × Int))))) × ((List (Int × (Int × (Int × (ByteArray × Int))))) × (List ByteArray)))))))) => cond (decide (y154.1 < (a2.length : Int))) (((getI a2 y154.1)).bind fun r155 => ((F155 Tryz.prog lf (r155.1, (r155.2.1, (r155.2.2.1, (r155.2.2.2.1, (r155.2.2.2.2.1, r155.2.2.2.2.2))))))).bind fun r156 => ((appC y154.2 [(r156.1, (r156.2.1, (r156.2.2.1, (r156.2.2.2.1, (r156.2.2.2.2.1, r156.2.2.2.2.2)))))])).bind fun r157 => some (.inl ((w64 (y154.1 + (1 : Int))), r157))) (outR (((F155 Tryz.prog lf (a3, (a4, (a5, (a6, (a7, a8))))))).bind fun r158 => ((appC y154.2 [(r158.1, (r158.2.1, (r158.2.2.1, (r158.2.2.2.1, (r158.2.2.2.2.1, r158.2.2.2.2.2)))))])).bind fun r159 => ((F32 Tryz.prog lf (a0, (r146, r159)))).bind fun r160 => cond (!(decide (r160 = (0 : Int)))) (some (((bts []), (([] : List (ByteArray × (Int × Int))), ([] : List (ByteArray × (Int × (Int × ((List (Int × (Int × (Int × (ByteArray × Int))))) × ((List (Int × (Int × (Int × (ByteArray × Int))))) × (List ByteArray))))))))), r160)) (some ((a0, (r146, r159)), (0 : Int)))))) ((0 : Int), ([] : List (ByteArray × (Int × (Int × ((List (Int × (Int × (Int × (ByteArray × Int))))) × ((List (Int × (Int × (Int × (ByteArray × Int))))) × (List ByteArray)))))))))) (((appC ([] : List (ByteArray × (Int × Int))) a1)).bind fun r161 => iter lf (fun y162 : (Int × (List (ByteArray × (Int × (Int × ((List (Int × (Int × (Int × (ByteArray × Int))))) × ((List (Int × (Int × (Int × (ByteArray × Int))))) × (List ByteArray)))))))) => cond (decide (y162.1 < (a2.length : Int))) (((getI a2 y162.1)).bind fun r163 => ((F155 Tryz.prog lf (r163.1, (r163.2.1, (r163.2.2.1, (r163.2.2.2.1, (r163.2.2.2.2.1, r163.2.2.2.2.2))))))).bind fun r164 => ((appC y162.2 [(r164.1, (r164.2.1, (r164.2.2.1, (r164.2.2.2.1, (r164.2.2.2.2.1, r164.2.2.2.2.2)))))])).bind fun r165 => some (.inl ((w64 (y162.1 + (1 : Int))), r165))) (outR (((F155 Tryz.prog lf (a3, (a4, (a5, (a6, (a7, a8))))))).bind fun r166 => ((appC y162.2 [(r166.1, (r166.2.1, (r166.2.2.1, (r166.2.2.2.1, (r166.2.2.2.2.1, r166.2.2.2.2.2)))))])).bind fun r167 => ((F32 Tryz.prog lf (a0, (r161, r167)))).bind fun r168 => cond (!(decide (r168 = (0 : Int)))) (some (((bts []), (([] : List (ByteArray × (Int × Int))), ([] : List (ByteArray × (Int × (Int × ((List (Int × (Int × (Int × (ByteArray × Int))))) × ((List (Int × (Int × (Int × (ByteArray × Int))))) × (List ByteArray))))))))), r168)) (some ((a0, (r161, r167)), (0 : Int)))))) ((0 : Int), ([] : List (ByteArray × (Int × (Int × ((List (Int × (Int × (Int × (ByteArray × Int))))) × ((List (Int × (Int × (Int × (ByteArray × Int))))) × (List ByteArray)))))))))) (((appC ([] : List (ByteArray × (Int × Int))) a1)).bind fun r169 => iter lf (fun y170 : (Int × (List (ByteArray × (Int × (Int × ((List (Int × (Int × (Int × (ByteArray × Int))))) × ((List (Int × (Int × (Int × (ByteArray × Int))))) × (List ByteArray)))))))) => cond (decide (y170.1 < (a2.length : Int))) (((getI a2 y170.1)).bind fun r171 => ((F155 Tryz.prog lf (r171.1, (r171.2.1, (r171.2.2.1, (r171.2.2.2.1, (r171.2.2.2.2.1, r171.2.2.2.2.2))))))).bind fun r172 => ((appC y170.2 [(r172.1, (r172.2.1, (r172.2.2.1, (r172.2.2.2.1, (r172.2.2.2.2.1, r172.2.2.2.2.2)))))])).bind fun r173 => some (.inl ((w64 (y170.1 + (1 : Int))), r173))) (outR (((F155 Tryz.prog lf (a3, (a4, (a5, (a6, (a7, a8))))))).bind fun r174 => ((appC y170.2 [(r174.1, (r174.2.1, (r174.2.2.1, (r174.2.2.2.1, (r174.2.2.2.2.1, r174.2.2.2.2.2)))))])).bind fun r175 => ((F32 Tryz.prog lf (a0, (r169, r175)))).bind fun r176 => cond (!(decide (r176 = (0 : Int)))) (some (((bts []), (([] : List (ByteArray × (Int × Int))), ([] : List (ByteArray × (Int × (Int × ((List (Int × (Int × (Int × (ByteArray × Int))))) × ((List (Int × (Int × (Int × (ByteArray × Int))))) × (List ByteArray))))))))), r176)) (some ((a0, (r169, r175)), (0 : Int)))))) ((0 : Int), ([] : List (ByteArray × (Int × (Int × ((List (Int × (Int × (Int × (ByteArray × Int))))) × ((List (Int × (Int × (Int × (ByteArray × Int))))) × (List ByteArray)))))))))) (agree (agree (agree (((appC ([] : List (ByteArray × (Int × Int))) a1)).bind fun r177 => agree (iter lf (fun y178 : (Int × (List (ByteArray × (Int × (Int × ((List (Int × (Int × (Int × (ByteArray × Int))))) × ((List (Int × (Int × (Int × (ByteArray × Int))))) × (List ByteArray)))))))) => cond (decide (y178.1 < (a2.length : Int))) (((getI a2 y178.1)).bind fun r179 => ((F155 Tryz.prog lf (r179.1, (r179.2.1, (r179.2.2.1, (r179.2.2.2.1, (r179.2.2.2.2.1, r179.2.2.2.2.2))))))).bind fun r180 => ((appC y178.2 [(r180.1, (r180.2.1, (r180.2.2.1, (r180.2.2.2.1, (r180.2.2.2.2.1, r180.2.2.2.2.2)))))])).bind fun r181 => some (.inl ((w64 (y178.1 + (1 : Int))), r181))) (outR (((F155 Tryz.prog lf (a3, (a4, (a5, (a6, (a7, a8))))))).bind fun r182 => ((appC y178.2 [(r182.1, (r182.2.1, (r182.2.2.1, (r182.2.2.2.1, (r182.2.2.2.2.1, r182.2.2.2.2.2)))))])).bind fun r183 => ((F32 Tryz.prog lf (a0, (r177, r183)))).bind fun r184 => cond (!(decide (r184 = (0 : Int)))) (some (((bts []), (([] : List (ByteArray × (Int × Int))), ([] : List (ByteArray × (Int × (Int × ((List (Int × (Int × (Int × (ByteArray × Int))))) × ((List (Int × (Int × (Int × (ByteArray × Int))))) × (List ByteArray))))))))), r184)) (some ((a0, (r177, r183)), (0 : Int)))))) ((0 : Int), ([] : List (ByteArray × (Int × (Int × ((List (Int × (Int × (Int × (ByteArray × Int))))) × ((List (Int × (Int × (Int × (ByteArray × Int))))) × (List ByteArray))))))))) (iter lf (fun y185 : (Int × (List (ByteArray × (Int × (Int × ((List (Int × (Int × (Int × (ByteArray × Int))))) × ((List (Int × (Int × (Int × (ByteArray × Int))))) × (List ByteArray)))))))) => cond (decide (y185.1 < (a2.length : Int))) (((getI a2 y185.1)).bind fun r186 => ((F155 Tryz.prog lf (r186.1, (r186.2.1, (r186.2.2.1, (r186.2.2.2.1, (r186.2.2.2.2.1, r186.2.2.2.2.2))))))).bind fun r187 => ((appC y185.2 [(r187.1, (r187.2.1, (r187.2.2.1, (r187.2.2.2.1, (r187.2.2.2.2.1, r187.2.2.2.2.2)))))])).bind fun r188 => some (.inl ((w64 (y185.1 + (1 : Int))), r188))) (outR (((F155 Tryz.prog lf (a3, (a4, (a5, (a6, (a7, a8))))))).bind fun r189 => ((appC y185.2 [(r189.1, (r189.2.1, (r189.2.2.1, (r189.2.2.2.1, (r189.2.2.2.2.1, r189.2.2.2.2.2)))))])).bind fun r190 => ((F32 Tryz.prog lf (a0, (r177, r190)))).bind fun r191 => cond (!(decide (r191 = (0 : Int)))) (some (((bts []), (([] : List (ByteArray × (Int × Int))), ([] : List (ByteArray × (Int × (Int × ((List (Int × (Int × (Int × (ByteArray × Int))))) × ((List (Int × (Int × (Int × (ByteArray × Int))))) × (List ByteArray))))))))), r191)) (some ((a0, (r177, r190)), (0 : Int)))))) ((0 : Int), ([] : List (ByteArray × (Int × (Int × ((List (Int × (Int × (Int × (ByteArray × Int))))) × ((List (Int × (Int × (Int × (ByteArray × Int))))) × (List ByteArray)))))))))) (((appC ([] : List (ByteArray × (Int × Int))) a1)).bind fun r192 => iter lf (fun y193 : (Int × (List (ByteArray × (Int × (Int × ((List (Int × (Int × (Int × (ByteArray × Int))))) × ((List (Int × (Int × (Int × (ByteArray × Int))))) × (List ByteArray)))))))) => cond (decide (y193.1 < (a2.length : Int))) (((getI a2 y193.1)).bind fun r194 => ((F155 Tryz.prog lf (r194.1, (r194.2.1, (r194.2.2.1, (r194.2.2.2.1, (r194.2.2.2.2.1, r194.2.2.2.2.2))))))).bind fun r195 => ((appC y193.2 [(r195.1, (r195.2.1, (r195.2.2.1, (r195.2.2.2.1, (r195.2.2.2.2.1, r195.2.2.2.2.2)))))])).bind fun r196 => some (.inl ((w64 (y193.1 + (1 : Int))), r196))) (outR (((F155 Tryz.prog lf (a3, (a4, (a5, (a6, (a7, a8))))))).bind fun r197 => ((appC y193.2 [(r197.1, (r197.2.1, (r197.2.2.1, (r197.2.2.2.1, (r197.2.2.2.2.1, r197.2.2.2.2.2)))))])).bind fun r198 => ((F32 Tryz.prog lf (a0, (r192, r198)))).bind fun r199 => cond (!(decide (r199 = (0 : Int)))) (some (((bts []), (([] : List (ByteArray × (Int × Int))), ([] : List (ByteArray × (Int × (Int × ((List (Int × (Int × (Int × (ByteArray × Int))))) × ((List (Int × (Int × (Int × (ByteArray × Int))))) × (List ByteArray))))))))), r199)) (some ((a0, (r192, r198)), (0 : Int)))))) ((0 : Int), ([] : List (ByteArray × (Int × (Int × ((List (Int × (Int × (Int × (ByteArray × Int))))) × ((List (Int × (Int × (Int × (ByteArray × Int))))) × (List ByteArray)))))))))) (agree (((appC ([] : List (ByteArray × (Int × Int))) a1)).bind fun r200 => agree (agree (iter lf (fun y201 : (Int × (List (ByteArray × (Int × (Int × ((List (Int × (Int × (Int × (ByteArray × Int))))) × ((List (Int × (Int × (Int × (ByteArray × Int))))) × (List ByteArray)))))))) => cond (decide (y201.1 < (a2.length : Int))) (((getI a2 y201.1)).bind fun r202 => ((F155 Tryz.prog lf (r202.1, (r202.2.1, (r202.2.2.1, (r202.2.2.2.1, (r202.2.2.2.2.1, r202.2.2.2.2.2))))))).bind fun r203 => ((appC y201.2 [(r203.1, (r203.2.1, (r203.2.2.1, (r203.2.2.2.1, (r203.2.2.2.2.1, r203.2.2.2.2.2)))))])).bind fun r204 => some (.inl ((w64 (y201.1 + (1 : Int))), r204))) (outR (((F155 Tryz.prog lf (a3, (a4, (a5, (a6, (a7, a8))))))).bind fun r205 => ((appC y201.2 [(r205.1, (r205.2.1, (r205.2.2.1, (r205.2.2.2.1, (r205.2.2.2.2.1, r205.2.2.2.2.2)))))])).bind fun r206 => ((F32 Tryz.prog lf (a0, (r200, r206)))).bind fun r207 => cond (!(decide (r207 = (0 : Int)))) (some (((bts []), (([] : List (ByteArray × (Int × Int))), ([] : List (ByteArray × (Int × (Int × ((List (Int × (Int × (Int × (ByteArray × Int))))) × ((List (Int × (Int × (Int × (ByteArray × Int))))) × (List ByteArray))))))))), r207)) (some ((a0, (r200, r206)), (0 : Int)))))) ((0 : Int), ([] : List (ByteArray × (Int × (Int × ((List (Int × (Int × (Int × (ByteArray × Int))))) × ((List (Int × (Int × (Int × (ByteArray × Int))))) × (List ByteArray))))))))) (iter lf (fun y208 : (Int × (List (ByteArray × (Int × (Int × ((List (Int × (Int × (Int × (ByteArray × Int))))) × ((List (Int × (Int × (Int × (ByteArray × Int))))) × (List ByteArray)))))))) => cond (decide (y208.1 < (a2.length : Int))) (((getI a2 y208.1)).bind fun r209 => ((F155 Tryz.prog lf (r209.1, (r209.2.1, (r209.2.2.1, (r209.2.2.2.1, (r209.2.2.2.2.1, r209.2.2.2.2.2))))))).bind fun r210 => ((appC y208.2 [(r210.1, (r210.2.1, (r210.2.2.1, (r210.2.2.2.1, (r210.2.2.2.2.1, r210.2.2.2.2.2)))))])).bind fun r211 => some (.inl ((w64 (y208.1 + (1 : Int))), r211))) (outR (((F155 Tryz.prog lf (a3, (a4, (a5, (a6, (a7, a8))))))).bind fun r212 => ((appC y208.2 [(r212.1, (r212.2.1, (r212.2.2.1, (r212.2.2.2.1, (r212.2.2.2.2.1, r212.2.2.2.2.2)))))])).bind fun r213 => ((F32 Tryz.prog lf (a0, (r200, r213)))).bind fun r214 => cond (!(decide (r214 = (0 : Int)))) (some (((bts []), (([] : List (ByteArray × (Int × Int))), ([] : List (ByteArray × (Int × (Int × ((List (Int × (Int × (Int × (ByteArray × Int))))) × ((List (Int × (Int × (Int × (ByteArray × Int))))) × (List ByteArray))))))))), r214)) (some ((a0, (r200, r213)), (0 : Int)))))) ((0 : Int), ([] : List (ByteArray × (Int × (Int × ((List (Int × (Int × (Int × (ByteArray × Int))))) × ((List (Int × (Int × (Int × (ByteArray × Int))))) × (List ByteArray)))))))))) (iter lf (fun y215 : (Int × (List (ByteArray × (Int × (Int × ((List (Int × (Int × (Int × (ByteArray × Int))))) × ((List (Int × (Int × (Int × (ByteArray × Int))))) × (List ByteArray)))))))) => cond (decide (y215.1 < (a2.length : Int))) (((getI a2 y215.1)).bind fun r216 => ((F155 Tryz.prog lf (r216.1, (r216.2.1, (r216.2.2.1, (r216.2.2.2.1, (r216.2.2.2.2.1, r216.2.2.2.2.2))))))).bind fun r217 => ((appC y215.2 [(r217.1, (r217.2.1, (r217.2.2.1, (r217.2.2.2.1, (r217.2.2.2.2.1, r217.2.2.2.2.2)))))])).bind fun r218 => some (.inl ((w64 (y215.1 + (1 : Int))), r218))) (outR (((F155 Tryz.prog lf (a3, (a4, (a5, (a6, (a7, a8))))))).bind fun r219 => ((appC y215.2 [(r219.1, (r219.2.1, (r219.2.2.1, (r219.2.2.2.1, (r219.2.2.2.2.1, r219.2.2.2.2.2)))))])).bind fun r220 => ((F32 Tryz.prog lf (a0, (r200, r220)))).bind fun r221 => cond (!(decide (r221 = (0 : Int)))) (some (((bts []), (([] : List (ByteArray × (Int × Int))), ([] : List (ByteArray × (Int × (Int × ((List (Int × (Int × (Int × (ByteArray × Int))))) × ((List (Int × (Int × (Int × (ByteArray × Int))))) × (List ByteArray))))))))), r221)) (some ((a0, (r200, r220)), (0 : Int)))))) ((0 : Int), ([] : List (ByteArray × (Int × (Int × ((List (Int × (Int × (Int × (ByteArray × Int))))) × ((List (Int × (Int × (Int × (ByteArray × Int))))) × (List ByteArray)))))))))) (agree (((appC ([] : List (ByteArray × (Int × Int))) a1)).bind fun r222 => iter lf (fun y223 : (Int × (List (ByteArray × (Int × (Int × ((List (Int × (Int × (Int × (ByteArray × Int))))) × ((List (Int × (Int × (Int × (ByteArray × Int))))) × (List ByteArray)))))))) => cond (decide (y223.1 < (a2.length : Int))) (((getI a2 y223.1)).bind fun r224 => ((F155 Tryz.prog lf (r224.1, (r224.2.1, (r224.2.2.1, (r224.2.2.2.1, (r224.2.2.2.2.1, r224.2.2.2.2.2))))))).bind fun r225 => ((appC y223.2 [(r225.1, (r225.2.1, (r225.2.2.1, (r225.2.2.2.1, (r225.2.2.2.2.1, r225.2.2.2.2.2)))))])).bind fun r226 => some (.inl ((w64 (y223.1 + (1 : Int))), r226))) (outR (((F155 Tryz.prog lf (a3, (a4, (a5, (a6, (a7, a8))))))).bind fun r227 => ((appC y223.2 [(r227.1, (r227.2.1, (r227.2.2.1, (r227.2.2.2.1, (r227.2.2.2.2.1, r227.2.2.2.2.2)))))])).bind fun r228 => ((F32 Tryz.prog lf (a0, (r222, r228)))).bind fun r229 => cond (!(decide (r229 = (0 : Int)))) (some (((bts []), (([] : List (ByteArray × (Int × Int))), ([] : List (ByteArray × (Int × (Int × ((List (Int × (Int × (Int × (ByteArray × Int))))) × ((List (Int × (Int × (Int × (ByteArray × Int))))) × (List ByteArray))))))))), r229)) (some ((a0, (r222, r228)), (0 : Int)))))) ((0 : Int), ([] : List (ByteArray × (Int × (Int × ((List (Int × (Int × (Int × (ByteArray × Int))))) × ((List (Int × (Int × (Int × (ByteArray × Int))))) × (List ByteArray))))))))) (((appC ([] : List (ByteArray × (Int × Int))) a1)).bind fun r230 => iter lf (fun y231 : (Int × (List (ByteArray × (Int × (Int × ((List (Int × (Int × (Int × (ByteArray × Int))))) × ((List (Int × (Int × (Int × (ByteArray × Int))))) × (List ByteArray)))))))) => cond (decide (y231.1 < (a2.length : Int))) (((getI a2 y231.1)).bind fun r232 => ((F155 Tryz.prog lf (r232.1, (r232.2.1, (r232.2.2.1, (r232.2.2.2.1, (r232.2.2.2.2.1, r232.2.2.2.2.2))))))).bind fun r233 => ((appC y231.2 [(r233.1, (r233.2.1, (r233.2.2.1, (r233.2.2.2.1, (r233.2.2.2.2.1, r233.2.2.2.2.2)))))])).bind fun r234 => some (.inl ((w64 (y231.1 + (1 : Int))), r234))) (outR (((F155 Tryz.prog lf (a3, (a4, (a5, (a6, (a7, a8))))))).bind fun r235 => ((appC y231.2 [(r235.1, (r235.2.1, (r235.2.2.1, (r235.2.2.2.1, (r235.2.2.2.2.1, r235.2.2.2.2.2)))))])).bind fun r236 => ((F32 Tryz.prog lf (a0, (r230, r236)))).bind fun r237 => cond (!(decide (r237 = (0 : Int)))) (some (((bts []), (([] : List (ByteArray × (Int × Int))), ([] : List (ByteArray × (Int × (Int × ((List (Int × (Int × (Int × (ByteArray × Int))))) × ((List (Int × (Int × (Int × (ByteArray × Int))))) × (List ByteArray))))))))), r237)) (some ((a0, (r230, r236)), (0 : Int)))))) ((0 : Int), ([] : List (ByteArray × (Int × (Int × ((List (Int × (Int × (Int × (ByteArray × Int))))) × ((List (Int × (Int × (Int × (ByteArray × Int))))) × (List ByteArray)))))))))))) (agree (((appC ([] : List (ByteArray × (Int × Int))) a1)).bind fun r238 => iter lf (fun y239 : (Int × (List (ByteArray × (Int × (Int × ((List (Int × (Int × (Int × (ByteArray × Int))))) × ((List (Int × (Int × (Int × (ByteArray × Int))))) × (List ByteArray)))))))) => cond (decide (y239.1 < (a2.length : Int))) (((getI a2 y239.1)).bind fun r240 => ((F155 Tryz.prog lf (r240.1, (r240.2.1, (r240.2.2.1, (r240.2.2.2.1, (r240.2.2.2.2.1, r240.2.2.2.2.2))))))).bind fun r241 => ((appC y239.2 [(r241.1, (r241.2.1, (r241.2.2.1, (r241.2.2.2.1, (r241.2.2.2.2.1, r241.2.2.2.2.2)))))])).bind fun r242 => some (.inl ((w64 (y239.1 + (1 : Int))), r242))) (outR (((F155 Tryz.prog lf (a3, (a4, (a5, (a6, (a7, a8))))))).bind fun r243 => ((appC y239.2 [(r243.1, (r243.2.1, (r243.2.2.1, (r243.2.2.2.1, (r243.2.2.2.2.1, r243.2.2.2.2.2)))))])).bind fun r244 => ((F32 Tryz.prog lf (a0, (r238, r244)))).bind fun r245 => cond (!(decide (r245 = (0 : Int)))) (some (((bts []), (([] : List (ByteArray × (Int × Int))), ([] : List (ByteArray × (Int × (Int × ((List (Int × (Int × (Int × (ByteArray × Int))))) × ((List (Int × (Int × (Int × (ByteArray × Int))))) × (List ByteArray))))))))), r245)) (some ((a0, (r238, r244)), (0 : Int)))))) ((0 : Int), ([] : List (ByteArray × (Int × (Int × ((List (Int × (Int × (Int × (ByteArray × Int))))) × ((List (Int × (Int × (Int × (ByteArray × Int))))) × (List ByteArray))))))))) (agree (((appC ([] : List (ByteArray × (Int × Int))) a1)).bind fun r246 => iter lf (fun y247 : (Int × (List (ByteArray × (Int × (Int × ((List (Int × (Int × (Int × (ByteArray × Int))))) × ((List (Int × (Int × (Int × (ByteArray × Int))))) × (List ByteArray)))))))) => cond (decide (y247.1 < (a2.length : Int))) (((getI a2 y247.1)).bind fun r248 => ((F155 Tryz.prog lf (r248.1, (r248.2.1, (r248.2.2.1, (r248.2.2.2.1, (r248.2.2.2.2.1, r248.2.2.2.2.2))))))).bind fun r249 => ((appC y247.2 [(r249.1, (r249.2.1, (r249.2.2.1, (r249.2.2.2.1, (r249.2.2.2.2.1, r249.2.2.2.2.2)))))])).bind fun r250 => some (.inl ((w64 (y247.1 + (1 : Int))), r250))) (outR (((F155 Tryz.prog lf (a3, (a4, (a5, (a6, (a7, a8))))))).bind fun r251 => ((appC y247.2 [(r251.1, (r251.2.1, (r251.2.2.1, (r251.2.2.2.1, (r251.2.2.2.2.1, r251.2.2.2.2.2)))))])).bind fun r252 => ((F32 Tryz.prog lf (a0, (r246, r252)))).bind fun r253 => cond (!(decide (r253 = (0 : Int)))) (some (((bts []), (([] : List (ByteArray × (Int × Int))), ([] : List (ByteArray × (Int × (Int × ((List (Int × (Int × (Int × (ByteArray × Int))))) × ((List (Int × (Int × (Int × (ByteArray × Int))))) × (List ByteArray))))))))), r253)) (some ((a0, (r246, r252)), (0 : Int)))))) ((0 : Int), ([] : List (ByteArray × (Int × (Int × ((List (Int × (Int × (Int × (ByteArray × Int))))) × ((List (Int × (Int × (Int × (ByteArray × Int))))) × (List ByteArray))))))))) (((appC ([] : List (ByteArray × (Int × Int))) a1)).bind fun r254 => iter lf (fun y255 : (Int × (List (ByteArray × (Int × (Int × ((List (Int × (Int × (Int × (ByteArray × Int))))) × ((List (Int × (Int × (Int × (ByteArray × Int))))) × (List ByteArray)))))))) => cond (decide (y255.1 < (a2.length : Int))) (((getI a2 y255.1)).bind fun r256 => ((F155 Tryz.prog lf (r256.1, (r256.2.1, (r256.2.2.1, (r256.2.2.2.1, (r256.2.2.2.2.1, r256.2.2.2.2.2))))))).bind fun r257 => ((appC y255.2 [(r257.1, (r257.2.1, (r257.2.2.1, (r257.2.2.2.1, (r257.2.2.2.2.1, r257.2.2.2.2.2)))))])).bind fun r258 => some (.inl ((w64 (y255.1 + (1 : Int))), r258))) (outR (((F155 Tryz.prog lf (a3, (a4, (a5, (a6, (a7, a8))))))).bind fun r259 => ((appC y255.2 [(r259.1, (r259.2.1, (r259.2.2.1, (r259.2.2.2.1, (r259.2.2.2.2.1, r259.2.2.2.2.2)))))])).bind fun r260 => ((F32 Tryz.prog lf (a0, (r254, r260)))).bind fun r261 => cond (!(decide (r261 = (0 : Int)))) (some (((bts []), (([] : List (ByteArray × (Int × Int))), ([] : List (ByteArray × (Int × (Int × ((List (Int × (Int × (Int × (ByteArray × Int))))) × ((List (Int × (Int × (Int × (ByteArray × Int))))) × (List ByteArray))))))))), r261)) (some ((a0, (r254, r260)), (0 : Int)))))) ((0 : Int), ([] : List (ByteArray × (Int × (Int × ((List (Int × (Int × (Int × (ByteArray × Int))))) × ((List (Int × (Int × (Int × (ByteArray × Int))))) × (List ByteArray))))))))))))) := by kernel_rfl
def S14 : FuncId → Sp := fun g => match g with
  | 14 => { joins := [(10, [(.slot 110, .dat .bool)])], loops := [(12, [(.slot 113, .dat .i)])] }
  | 128 => { nz := [(11, [12])] }
  | _ => {}
noncomputable def F14 (P : Program) (lf : Nat) (x : tt [(true, (.pair .str (.pair (.sl (.pair .str (.pair .i .i))) (.sl (.pair .str (.pair .i (.pair .i (.pair (.sl (.pair .i (.pair .i (.pair .i (.pair .str .i))))) (.pair (.sl (.pair .i (.pair .i (.pair .i (.pair .str .i))))) (.sl .str)))))))))), (true, (.pair .str (.pair .i (.pair .i (.pair (.sl (.pair .i (.pair .i (.pair .i (.pair .str .i))))) (.pair (.sl (.pair .i (.pair .i (.pair .i (.pair .str .i))))) (.sl .str))))))), (false, .i)]) : Option (tt [(false, .bool)]) := fnF P (C72 P lf) S14 14 [(true, (.pair .str (.pair (.sl (.pair .str (.pair .i .i))) (.sl (.pair .str (.pair .i (.pair .i (.pair (.sl (.pair .i (.pair .i (.pair .i (.pair .str .i))))) (.pair (.sl (.pair .i (.pair .i (.pair .i (.pair .str .i))))) (.sl .str)))))))))), (true, (.pair .str (.pair .i (.pair .i (.pair (.sl (.pair .i (.pair .i (.pair .i (.pair .str .i))))) (.pair (.sl (.pair .i (.pair .i (.pair .i (.pair .str .i))))) (.sl .str))))))), (false, .i)] [(false, .bool)] lf x
theorem F14_eq (lf : Nat) (a0 : ByteArray) (a1 : (List (ByteArray × (Int × Int)))) (a2 : (List (ByteArray × (Int × (Int × ((List (Int × (Int × (Int × (ByteArray × Int))))) × ((List (Int × (Int × (Int × (ByteArray × Int))))) × (List ByteArray)))))))) (a3 : ByteArray) (a4 : Int) (a5 : Int) (a6 : (List (Int × (Int × (Int × (ByteArray × Int)))))) (a7 : (List (Int × (Int × (Int × (ByteArray × Int)))))) (a8 : (List ByteArray)) (a9 : Int) : F14 Tryz.prog lf ((a0, (a1, a2)), ((a3, (a4, (a5, (a6, (a7, a8))))), a9)) =
  ((F71 Tryz.prog lf ((a0, (a1, a2)), (a3, (a4, (a5, (a6, (a7, a8)))))))).bind fun r27 => ((F72 Tryz.prog lf ((a0, (a1, a2)), (a3, (a4, (a5, (a6, (a7, a8)))))))).bind fun r28 => ((F73 Tryz.prog lf ((a0, (a1, a2)), a9))).bind fun r29 => ((F74 Tryz.prog lf ((a0, (a1, a2)), a9))).bind fun r30 => ((F44 Tryz.prog lf (a0, (a1, a2)))).bind fun r31 => ((F75 Tryz.prog lf (a0, (a1, a2)))).bind fun r32 => ((F55 Tryz.prog lf (a0, (a1, a2)))).bind fun r33 => ((F76 Tryz.prog lf (a0, (a1, a2)))).bind fun r34 => jn (cond (!(decide (r27.2 = r28.2))) (some (.inl true)) (cond (!(decide (r29.2 = r30.2))) (some (.inl true)) (cond (!(decide (r31.2 = r32.2))) (some (.inl true)) (cond (!(decide (r33.2 = r34.2))) (some (.inl true)) (((F53 Tryz.prog lf ((r27.1.1, (r27.1.2.1, r27.1.2.2)), (r28.1.1, (r28.1.2.1, r28.1.2.2))))).bind fun r35 => cond (!r35) (some (.inl true)) (((F62 Tryz.prog lf (r29.1, r30.1))).bind fun r36 => cond (!r36) (some (.inl true)) (((F62 Tryz.prog lf (r31.1, r32.1))).bind fun r37 => cond (!r37) (some (.inl true)) (some (.inl (!(decide ((r33.1.length : Int) = (r34.1.length : Int))))))))))))) (fun y38 : Bool => cond y38 (some false) (iter lf (fun y39 : Int => cond (decide (y39 < (r33.1.length : Int))) (((getI r33.1 y39)).bind fun r40 => ((getI r34.1 y39)).bind fun r41 => ((F62 Tryz.prog lf (r40, r41))).bind fun r42 => cond (!r42) (some (.inr false)) (some (.inl (w64 (y39 + (1 : Int)))))) (outR (((F22 Tryz.prog lf ())).bind fun r43 => some r43))) (0 : Int))) := by kernel_rfl
end Go.K
set_option linter.unusedVariables false
set_option linter.unusedSimpArgs false
set_option maxRecDepth 100000
set_option maxHeartbeats 0
namespace Go.K
open Go.Sl Go.Sx Go.Proofs
noncomputable def G54 (lf : Nat) (x : ((List (ByteArray × (Int × Int))) × (List (ByteArray × (Int × Int))))) : Option (Bool) :=
  cond (!(decide ((x.1.length : Int) = (x.2.length : Int)))) (some false) (iter lf (fun y5 : Int => cond (decide (y5 < (x.1.length : Int))) (((getI x.1 y5)).bind fun r6 => ((getI x.2 y5)).bind fun r7 => cond (!(((r6.1.data.toList == r7.1.data.toList) && true) && (((decide (r6.2.1 = r7.2.1)) && ((decide (r6.2.2 = r7.2.2)) && true)) && true))) (some (.inr false)) (some (.inl (w64 (y5 + (1 : Int)))))) (some (.inr true))) (0 : Int))
theorem F54_G (lf : Nat) (x : ((List (ByteArray × (Int × Int))) × (List (ByteArray × (Int × Int))))) : F54 Tryz.prog lf x = G54 lf x := (F54_eq lf x.1 x.2).trans (by
  unfold G54
  (try simp only [agree_self, Lib.toList_data]); first | done | rfl)
noncomputable def G53 (lf : Nat) (x : ((ByteArray × ((List (ByteArray × (Int × Int))) × (List (ByteArray × (Int × (Int × ((List (Int × (Int × (Int × (ByteArray × Int))))) × ((List (Int × (Int × (Int × (ByteArray × Int))))) × (List ByteArray))))))))) × (ByteArray × ((List (ByteArray × (Int × Int))) × (List (ByteArray × (Int × (Int × ((List (Int × (Int × (Int × (ByteArray × Int))))) × ((List (Int × (Int × (Int × (ByteArray × Int))))) × (List ByteArray))))))))))) : Option (Bool) :=
  jn (cond (!(x.1.1.data.toList == x.2.1.data.toList)) (some (.inl true)) (((G54 lf (x.1.2.1, x.2.2.1))).bind fun r15 => cond (!r15) (some (.inl true)) (some (.inl (!(decide ((x.1.2.2.length : Int) = (x.2.2.2.length : Int)))))))) (fun y16 : Bool => cond y16 (some false) (iter lf (fun y17 : Int => cond (decide (y17 < (x.1.2.2.length : Int))) (((getI x.1.2.2 y17)).bind fun r18 => ((getI x.2.2.2 y17)).bind fun r19 => jn (cond (!(r18.1.data.toList == r19.1.data.toList)) (some (.inl true)) (cond (!(decide (r18.2.1 = r19.2.1))) (some (.inl true)) (cond (!(decide (r18.2.2.1 = r19.2.2.1))) (some (.inl true)) (((G21 lf (r18.2.2.2.1, r19.2.2.2.1))).bind fun r20 => cond (!r20) (some (.inl true)) (((G21 lf (r18.2.2.2.2.1, r19.2.2.2.2.1))).bind fun r21 => cond (!r21) (some (.inl true)) (((G33 lf (r18.2.2.2.2.2, r19.2.2.2.2.2))).bind fun r22 => some (.inl (!r22)))))))) (fun y23 : Bool => cond y23 (some (.inr false)) (some (.inl (w64 (y17 + (1 : Int))))))) (some (.inr true))) (0 : Int)))
theorem F53_G (lf : Nat) (x : ((ByteArray × ((List (ByteArray × (Int × Int))) × (List (ByteArray × (Int × (Int × ((List (Int × (Int × (Int × (ByteArray × Int))))) × ((List (Int × (Int × (Int × (ByteArray × Int))))) × (List ByteArray))))))))) × (ByteArray × ((List (ByteArray × (Int × Int))) × (List (ByteArray × (Int × (Int × ((List (Int × (Int × (Int × (ByteArray × Int))))) × ((List (Int × (Int × (Int × (ByteArray × Int))))) × (List ByteArray))))))))))) : F53 Tryz.prog lf x = G53 lf x := (F53_eq lf x.1.1 x.1.2.1 x.1.2.2 x.2.1 x.2.2.1 x.2.2.2).trans (by
  unfold G53
  (try simp only [F21_G, F33_G, F54_G, agree_self, Lib.toList_data]); first | done | rfl)
noncomputable def G210 (lf : Nat) (x : (List (ByteArray × (Int × Int)))) : Option ((List (ByteArray × (Int × Int)))) :=
  cond (decide ((x.length : Int) = (0 : Int))) (agree (some ([] : List (ByteArray × (Int × Int)))) (((appC ([] : List (ByteArray × (Int × Int))) x)).bind fun r3 => some r3)) (((appC ([] : List (ByteArray × (Int × Int))) x)).bind fun r4 => some r4)
theorem F210_G (lf : Nat) (x : (List (ByteArray × (Int × Int)))) : F210 Tryz.prog lf x = G210 lf x := (F210_eq lf x).trans (by
  unfold G210
  (try simp only [agree_self, Lib.toList_data]); first | done | rfl)
noncomputable def G211 (lf : Nat) (x : (List (Int × (Int × (Int × (ByteArray × Int)))))) : Option ((List (Int × (Int × (Int × (ByteArray × Int)))))) :=
  cond (decide ((x.length : Int) = (0 : Int))) (agree (some ([] : List (Int × (Int × (Int × (ByteArray × Int)))))) (((appC ([] : List (Int × (Int × (Int × (ByteArray × Int))))) x)).bind fun r3 => some r3)) (((appC ([] : List (Int × (Int × (Int × (ByteArray × Int))))) x)).bind fun r4 => some r4)
theorem F211_G (lf : Nat) (x : (List (Int × (Int × (Int × (ByteArray × Int)))))) : F211 Tryz.prog lf x = G211 lf x := (F211_eq lf x).trans (by
  unfold G211
  (try simp only [agree_self, Lib.toList_data]); first | done | rfl)
noncomputable def G212 (lf : Nat) (x : (List ByteArray)) : Option ((List ByteArray)) :=
  cond (decide ((x.length : Int) = (0 : Int))) (agree (some ([] : List ByteArray)) (((appC ([] : List ByteArray) x)).bind fun r3 => some r3)) (((appC ([] : List ByteArray) x)).bind fun r4 => some r4)
theorem F212_G (lf : Nat) (x : (List ByteArray)) : F212 Tryz.prog lf x = G212 lf x := (F212_eq lf x).trans (by
  unfold G212
  (try simp only [agree_self, Lib.toList_data]); first | done | rfl)
noncomputable def G153 (lf : Nat) (x : (ByteArray × ((List (ByteArray × (Int × Int))) × (List (ByteArray × (Int × (Int × ((List (Int × (Int × (Int × (ByteArray × Int))))) × ((List (Int × (Int × (Int × (ByteArray × Int))))) × (List ByteArray)))))))))) : Option ((ByteArray × ((List (ByteArray × (Int × Int))) × (List (ByteArray × (Int × (Int × ((List (Int × (Int × (Int × (ByteArray × Int))))) × ((List (Int × (Int × (Int × (ByteArray × Int))))) × (List ByteArray)))))))))) :=
  ((G210 lf x.2.1)).bind fun r25 => iter lf (fun y26 : (Int × (List (ByteArray × (Int × (Int × ((List (Int × (Int × (Int × (ByteArray × Int))))) × ((List (Int × (Int × (Int × (ByteArray × Int))))) × (List ByteArray)))))))) => cond (decide (y26.1 < (x.2.2.length : Int))) (((getI x.2.2 y26.1)).bind fun r27 => ((G211 lf r27.2.2.2.1)).bind fun r28 => ((G211 lf r27.2.2.2.2.1)).bind fun r29 => ((G212 lf r27.2.2.2.2.2)).bind fun r30 => ((appC y26.2 [(r27.1, (r27.2.1, (r27.2.2.1, (r28, (r29, r30)))))])).bind fun r31 => some (.inl ((w64 (y26.1 + (1 : Int))), r31))) (some (.inr (x.1, (r25, y26.2))))) ((0 : Int), ([] : List (ByteArray × (Int × (Int × ((List (Int × (Int × (Int × (ByteArray × Int))))) × ((List (Int × (Int × (Int × (ByteArray × Int))))) × (List ByteArray))))))))
theorem F153_G (lf : Nat) (x : (ByteArray × ((List (ByteArray × (Int × Int))) × (List (ByteArray × (Int × (Int × ((List (Int × (Int × (Int × (ByteArray × Int))))) × ((List (Int × (Int × (Int × (ByteArray × Int))))) × (List ByteArray)))))))))) : F153 Tryz.prog lf x = G153 lf x := (F153_eq lf x.1 x.2.1 x.2.2).trans (by
  unfold G153
  (try simp only [F210_G, F211_G, F212_G, agree_self, Lib.toList_data]); first | done | rfl)
noncomputable def G71 (lf : Nat) (x : ((ByteArray × ((List (ByteArray × (Int × Int))) × (List (ByteArray × (Int × (Int × ((List (Int × (Int × (Int × (ByteArray × Int))))) × ((List (Int × (Int × (Int × (ByteArray × Int))))) × (List ByteArray))))))))) × (ByteArray × (Int × (Int × ((List (Int × (Int × (Int × (ByteArray × Int))))) × ((List (Int × (Int × (Int × (ByteArray × Int))))) × (List ByteArray)))))))) : Option (((ByteArray × ((List (ByteArray × (Int × Int))) × (List (ByteArray × (Int × (Int × ((List (Int × (Int × (Int × (ByteArray × Int))))) × ((List (Int × (Int × (Int × (ByteArray × Int))))) × (List ByteArray))))))))) × Int)) :=
  ((G31 lf (x.1.1, (x.1.2.1, x.1.2.2)))).bind fun r34 => cond (!(decide (r34 = (0 : Int)))) (some (((bts []), (([] : List (ByteArray × (Int × Int))), ([] : List (ByteArray × (Int × (Int × ((List (Int × (Int × (Int × (ByteArray × Int))))) × ((List (Int × (Int × (Int × (ByteArray × Int))))) × (List ByteArray))))))))), r34)) (jn (cond (decide ((x.1.2.2.length : Int) = (0 : Int))) (agree (((appC ([] : List (ByteArray × (Int × (Int × ((List (Int × (Int × (Int × (ByteArray × Int))))) × ((List (Int × (Int × (Int × (ByteArray × Int))))) × (List ByteArray))))))) [(x.2.1, (x.2.2.1, (x.2.2.2.1, (x.2.2.2.2.1, (x.2.2.2.2.2.1, x.2.2.2.2.2.2)))))])).bind fun r35 => some (.inl r35)) (((appC ([] : List (ByteArray × (Int × (Int × ((List (Int × (Int × (Int × (ByteArray × Int))))) × ((List (Int × (Int × (Int × (ByteArray × Int))))) × (List ByteArray))))))) x.1.2.2)).bind fun r36 => ((appC r36 [(x.2.1, (x.2.2.1, (x.2.2.2.1, (x.2.2.2.2.1, (x.2.2.2.2.2.1, x.2.2.2.2.2.2)))))])).bind fun r37 => some (.inl r37))) (((appC ([] : List (ByteArray × (Int × (Int × ((List (Int × (Int × (Int × (ByteArray × Int))))) × ((List (Int × (Int × (Int × (ByteArray × Int))))) × (List ByteArray))))))) x.1.2.2)).bind fun r38 => ((appC r38 [(x.2.1, (x.2.2.1, (x.2.2.2.1, (x.2.2.2.2.1, (x.2.2.2.2.2.1, x.2.2.2.2.2.2)))))])).bind fun r39 => some (.inl r39))) (fun y50 : (List (ByteArray × (Int × (Int × ((List (Int × (Int × (Int × (ByteArray × Int))))) × ((List (Int × (Int × (Int × (ByteArray × Int))))) × (List ByteArray))))))) => ((G31 lf (x.1.1, (x.1.2.1, y50)))).bind fun r51 => cond (!(decide (r51 = (0 : Int)))) (some (((bts []), (([] : List (ByteArray × (Int × Int))), ([] : List (ByteArray × (Int × (Int × ((List (Int × (Int × (Int × (ByteArray × Int))))) × ((List (Int × (Int × (Int × (ByteArray × Int))))) × (List ByteArray))))))))), r51)) (((G153 lf (x.1.1, (x.1.2.1, y50)))).bind fun r52 => some ((r52.1, (r52.2.1, r52.2.2)), (0 : Int)))))
theorem F71_G (lf : Nat) (x : ((ByteArray × ((List (ByteArray × (Int × Int))) × (List (ByteArray × (Int × (Int × ((List (Int × (Int × (Int × (ByteArray × Int))))) × ((List (Int × (Int × (Int × (ByteArray × Int))))) × (List ByteArray))))))))) × (ByteArray × (Int × (Int × ((List (Int × (Int × (Int × (ByteArray × Int))))) × ((List (Int × (Int × (Int × (ByteArray × Int))))) × (List ByteArray)))))))) : F71 Tryz.prog lf x = G71 lf x := (F71_eq lf x.1.1 x.1.2.1 x.1.2.2 x.2.1 x.2.2.1 x.2.2.2.1 x.2.2.2.2.1 x.2.2.2.2.2.1 x.2.2.2.2.2.2).trans (by
  unfold G71
  (try simp only [F31_G, F153_G, agree_self, Lib.toList_data]); first | done | rfl)
noncomputable def G213 (lf : Nat) (x : (List (Int × (Int × (Int × (ByteArray × Int)))))) : Option ((List (Int × (Int × (Int × (ByteArray × Int)))))) :=
  ((appC ([] : List (Int × (Int × (Int × (ByteArray × Int))))) x)).bind fun r2 => some r2
theorem F213_G (lf : Nat) (x : (List (Int × (Int × (Int × (ByteArray × Int)))))) : F213 Tryz.prog lf x = G213 lf x := (F213_eq lf x).trans (by
  unfold G213
  (try simp only [agree_self, Lib.toList_data]); first | done | rfl)
noncomputable def G155 (lf : Nat) (x : (ByteArray × (Int × (Int × ((List (Int × (Int × (Int × (ByteArray × Int))))) × ((List (Int × (Int × (Int × (ByteArray × Int))))) × (List ByteArray))))))) : Option ((ByteArray × (Int × (Int × ((List (Int × (Int × (Int × (ByteArray × Int))))) × ((List (Int × (Int × (Int × (ByteArray × Int))))) × (List ByteArray))))))) :=
  ((G213 lf x.2.2.2.1)).bind fun r9 => ((G213 lf x.2.2.2.2.1)).bind fun r10 => ((appC ([] : List ByteArray) x.2.2.2.2.2)).bind fun r11 => some (x.1, (x.2.1, (x.2.2.1, (r9, (r10, r11)))))
theorem F155_G (lf : Nat) (x : (ByteArray × (Int × (Int × ((List (Int × (Int × (Int × (ByteArray × Int))))) × ((List (Int × (Int × (Int × (ByteArray × Int))))) × (List ByteArray))))))) : F155 Tryz.prog lf x = G155 lf x := (F155_eq lf x.1 x.2.1 x.2.2.1 x.2.2.2.1 x.2.2.2.2.1 x.2.2.2.2.2).trans (by
  unfold G155
  (try simp only [F213_G, agree_self, Lib.toList_data]); first | done | rfl)
noncomputable def G72 (lf : Nat) (x : ((ByteArray × ((List (ByteArray × (Int × Int))) × (List (ByteArray × (Int × (Int × ((List (Int × (Int × (Int × (ByteArray × Int))))) × ((List (Int × (Int × (Int × (ByteArray × Int))))) × (List ByteArray))))))))) × (ByteArray × (Int × (Int × ((List (Int × (Int × (Int × (ByteArray × Int))))) × ((List (Int × (Int × (Int × (ByteArray × Int))))) × (List ByteArray)))))))) : Option (((ByteArray × ((List (ByteArray × (Int × Int))) × (List (ByteArray × (Int × (Int × ((List (Int × (Int × (Int × (ByteArray × Int))))) × ((List (Int × (Int × (Int × (ByteArray × Int))))) × (List ByteArray))))))))) × Int)) :=
  ((G32 lf (x.1.1, (x.1.2.1, x.1.2.2)))).bind fun r145 => cond (!(decide (r145 = (0 : Int)))) (some (((bts []), (([] : List (ByteArray × (Int × Int))), ([] : List (ByteArray × (Int × (Int × ((List (Int × (Int × (Int × (ByteArray × Int))))) × ((List (Int × (Int × (Int × (ByteArray × Int))))) × (List ByteArray))))))))), r145)) (((appC ([] : List (ByteArray × (Int × Int))) x.1.2.1)).bind fun r146 => iter lf (fun y147 : (Int × (List (ByteArray × (Int × (Int × ((List (Int × (Int × (Int × (ByteArray × Int))))) × ((List (Int × (Int × (Int × (ByteArray × Int))))) × (List ByteArray)))))))) => cond (decide (y147.1 < (x.1.2.2.length : Int))) (((getI x.1.2.2 y147.1)).bind fun r148 => ((G155 lf (r148.1, (r148.2.1, (r148.2.2.1, (r148.2.2.2.1, (r148.2.2.2.2.1, r148.2.2.2.2.2))))))).bind fun r149 => ((appC y147.2 [(r149.1, (r149.2.1, (r149.2.2.1, (r149.2.2.2.1, (r149.2.2.2.2.1, r149.2.2.2.2.2)))))])).bind fun r150 => some (.inl ((w64 (y147.1 + (1 : Int))), r150))) (outR (((G155 lf (x.2.1, (x.2.2.1, (x.2.2.2.1, (x.2.2.2.2.1, (x.2.2.2.2.2.1, x.2.2.2.2.2.2))))))).bind fun r151 => ((appC y147.2 [(r151.1, (r151.2.1, (r151.2.2.1, (r151.2.2.2.1, (r151.2.2.2.2.1, r151.2.2.2.2.2)))))])).bind fun r152 => ((G32 lf (x.1.1, (r146, r152)))).bind fun r153 => cond (!(decide (r153 = (0 : Int)))) (some (((bts []), (([] : List (ByteArray × (Int × Int))), ([] : List (ByteArray × (Int × (Int × ((List (Int × (Int × (Int × (ByteArray × Int))))) × ((List (Int × (Int × (Int × (ByteArray × Int))))) × (List ByteArray))))))))), r153)) (some ((x.1.1, (r146, r152)), (0 : Int)))))) ((0 : Int), ([] : List (ByteArray × (Int × (Int × ((List (Int × (Int × (Int × (ByteArray × Int))))) × ((List (Int × (Int × (Int × (ByteArray × Int))))) × (List ByteArray)))))))))
theorem F72_G (lf : Nat) (x : ((ByteArray × ((List (ByteArray × (Int × Int))) × (List (ByteArray × (Int × (Int × ((List (Int × (Int × (Int × (ByteArray × Int))))) × ((List (Int × (Int × (Int × (ByteArray × Int))))) × (List ByteArray))))))))) × (ByteArray × (Int × (Int × ((List (Int × (Int × (Int × (ByteArray × Int))))) × ((List (Int × (Int × (Int × (ByteArray × Int))))) × (List ByteArray)))))))) : F72 Tryz.prog lf x = G72 lf x := (F72_eq lf x.1.1 x.1.2.1 x.1.2.2 x.2.1 x.2.2.1 x.2.2.2.1 x.2.2.2.2.1 x.2.2.2.2.2.1 x.2.2.2.2.2.2).trans (by
  unfold G72
  (try simp only [F32_G, F155_G, agree_self, Lib.toList_data]); first | done | rfl)
noncomputable def G14 (lf : Nat) (x : ((ByteArray × ((List (ByteArray × (Int × Int))) × (List (ByteArray × (Int × (Int × ((List (Int × (Int × (Int × (ByteArray × Int))))) × ((List (Int × (Int × (Int × (ByteArray × Int))))) × (List ByteArray))))))))) × ((ByteArray × (Int × (Int × ((List (Int × (Int × (Int × (ByteArray × Int))))) × ((List (Int × (Int × (Int × (ByteArray × Int))))) × (List ByteArray)))))) × Int))) : Option (Bool) :=
  ((G71 lf ((x.1.1, (x.1.2.1, x.1.2.2)), (x.2.1.1, (x.2.1.2.1, (x.2.1.2.2.1, (x.2.1.2.2.2.1, (x.2.1.2.2.2.2.1, x.2.1.2.2.2.2.2)))))))).bind fun r27 => ((G72 lf ((x.1.1, (x.1.2.1, x.1.2.2)), (x.2.1.1, (x.2.1.2.1, (x.2.1.2.2.1, (x.2.1.2.2.2.1, (x.2.1.2.2.2.2.1, x.2.1.2.2.2.2.2)))))))).bind fun r28 => ((G73 lf ((x.1.1, (x.1.2.1, x.1.2.2)), x.2.2))).bind fun r29 => ((G74 lf ((x.1.1, (x.1.2.1, x.1.2.2)), x.2.2))).bind fun r30 => ((G44 lf (x.1.1, (x.1.2.1, x.1.2.2)))).bind fun r31 => ((G75 lf (x.1.1, (x.1.2.1, x.1.2.2)))).bind fun r32 => ((G55 lf (x.1.1, (x.1.2.1, x.1.2.2)))).bind fun r33 => ((G76 lf (x.1.1, (x.1.2.1, x.1.2.2)))).bind fun r34 => jn (cond (!(decide (r27.2 = r28.2))) (some (.inl true)) (cond (!(decide (r29.2 = r30.2))) (some (.inl true)) (cond (!(decide (r31.2 = r32.2))) (some (.inl true)) (cond (!(decide (r33.2 = r34.2))) (some (.inl true)) (((G53 lf ((r27.1.1, (r27.1.2.1, r27.1.2.2)), (r28.1.1, (r28.1.2.1, r28.1.2.2))))).bind fun r35 => cond (!r35) (some (.inl true)) (((G62 lf (r29.1, r30.1))).bind fun r36 => cond (!r36) (some (.inl true)) (((G62 lf (r31.1, r32.1))).bind fun r37 => cond (!r37) (some (.inl true)) (some (.inl (!(decide ((r33.1.length : Int) = (r34.1.length : Int))))))))))))) (fun y38 : Bool => cond y38 (some false) (iter lf (fun y39 : Int => cond (decide (y39 < (r33.1.length : Int))) (((getI r33.1 y39)).bind fun r40 => ((getI r34.1 y39)).bind fun r41 => ((G62 lf (r40, r41))).bind fun r42 => cond (!r42) (some (.inr false)) (some (.inl (w64 (y39 + (1 : Int)))))) (outR (((G22 lf ())).bind fun r43 => some r43))) (0 : Int)))
theorem F14_G (lf : Nat) (x : ((ByteArray × ((List (ByteArray × (Int × Int))) × (List (ByteArray × (Int × (Int × ((List (Int × (Int × (Int × (ByteArray × Int))))) × ((List (Int × (Int × (Int × (ByteArray × Int))))) × (List ByteArray))))))))) × ((ByteArray × (Int × (Int × ((List (Int × (Int × (Int × (ByteArray × Int))))) × ((List (Int × (Int × (Int × (ByteArray × Int))))) × (List ByteArray)))))) × Int))) : F14 Tryz.prog lf x = G14 lf x := (F14_eq lf x.1.1 x.1.2.1 x.1.2.2 x.2.1.1 x.2.1.2.1 x.2.1.2.2.1 x.2.1.2.2.2.1 x.2.1.2.2.2.2.1 x.2.1.2.2.2.2.2 x.2.2).trans (by
  unfold G14
  (try simp only [F22_G, F44_G, F53_G, F55_G, F62_G, F71_G, F72_G, F73_G, F74_G, F75_G, F76_G, agree_self, Lib.toList_data]); first | done | rfl)
end Go.K
set_option linter.unusedVariables false
set_option linter.unusedSimpArgs false
set_option maxRecDepth 100000
namespace Go.K
open Go.Sl Go.Sx Go.Proofs
theorem cpy_id {α : Type} [Inhabited (Byt α)] {l : List α} (h : appC ([] : List α) l = some l) :
    cond (decide ((l.length : Int) = (0 : Int))) (agree (some ([] : List α)) ((appC ([] : List α) l).bind fun r => some r)) ((appC ([] : List α) l).bind fun r => some r) = some l := by
  rw [h]
  cases l with
  | nil => exact agree_self _
  | cons x l => rw [show decide (((x :: l).length : Int) = 0) = false from decide_eq_false (by simp only [List.length_cons]; omega)]; rfl
theorem appN_of {α : Type} [b : Inhabited (Byt α)] {l : List α} (h : l.length ≤ 1000) (hb : b.default.n ≤ 128 := by decide) : appC ([] : List α) l = some l := by
  rw [appC_of (by simp; omega) hb, List.nil_append]
theorem appN_len {α : Type} [b : Inhabited (Byt α)] {l : List α} (h : l.length * b.default.n ≤ 140737488355328) : appC ([] : List α) l = some l := by
  rw [appC_len (by simpa using h), List.nil_append]
theorem G210_id {l : List Fct} (h : l.length ≤ 1000) : G210 LF l = some l := cpy_id (appN_of h)
theorem G211_id {l : Cnd} (h : List.length l ≤ 1000) : G211 LF l = some l := cpy_id (appN_of h)
theorem G212_id {l : List ByteArray} (h : l.length ≤ 1000) : G212 LF l = some l := cpy_id (appN_of h)
theorem cond_len {f : List Fct} {c : Cnd} (h : condE f c = 0) : List.length c ≤ 30 := by
  unfold condE at h
  split at h
  · cases h
  · omega
theorem VC.lens {c : Cd} (h : VC c) {i : Nat} {r : Rl} (hr : c.2.2[i]? = some r) : List.length r.2.2.2.1 ≤ 30 ∧ List.length r.2.2.2.2.1 ≤ 30 ∧ r.2.2.2.2.2.length ≤ 6 := by
  obtain ⟨h1, h2⟩ := h.conds (List.mem_of_getElem? hr)
  exact ⟨cond_len h1, cond_len h2, (h.rule hr).2.2.2.2.2.1⟩
theorem flat_one {α : Type} (l : List α) : l.flatMap (fun x => [x]) = l := by
  induction l with
  | nil => rfl
  | cons x l ih => rw [List.flatMap_cons, ih]; rfl
theorem G153_id {c : Cd} (h : VC c) : G153 LF c = some c := by
  unfold G153
  have hll := h.ll
  have hfl := h.fl
  simp only [G210_id (show c.2.1.length ≤ 1000 by omega), Option.bind_some]
  refine (iter_app (fun i a => (i, a)) (fun (r : Rl) => [r]) c.2.2 (fun a => some (c.1, (c.2.1, a))) 1 (fun _ _ => by simp) [] ?_ ?_ h.ll').trans ?_
  · intro i r a hr ha hi
    obtain ⟨l1, l2, l3⟩ := h.lens hr
    simp only [List.length_nil, Nat.zero_add, Nat.one_mul] at ha
    simp only [dlt hi, cond_true, getI_nat hr, Option.bind_some, G211_id (show List.length r.2.2.2.1 ≤ 1000 by omega), G211_id (show List.length r.2.2.2.2.1 ≤ 1000 by omega), G212_id (show r.2.2.2.2.2.length ≤ 1000 by omega), succ_W (show i + 1 < 9223372036854775808 by omega),
      appC_of (show a.length + [r].length ≤ 1099511627776 by simp; omega)]
  · intro a _
    simp only [dnlt]; rfl
  · simp only [List.nil_append, flat_one]
theorem G155_id {r : Rl} (h1 : List.length r.2.2.2.1 * 48 ≤ 140737488355328) (h2 : List.length r.2.2.2.2.1 * 48 ≤ 140737488355328) (h3 : r.2.2.2.2.2.length * 16 ≤ 140737488355328) : G155 LF r = some r := by
  unfold G155 G213
  simp only [appN_len (l := r.2.2.2.1) h1, appN_len (l := r.2.2.2.2.1) h2, appN_len (l := r.2.2.2.2.2) h3, Option.bind_some]
def wthC (c : Cd) (r : Rl) : Cd := (c.1, (c.2.1, c.2.2 ++ [r]))
def wthR (c : Cd) (r : Rl) : Cd × Int := if codeE c ≠ 0 then ((bts [], ([], [])), codeE c) else if codeE (wthC c r) ≠ 0 then ((bts [], ([], [])), codeE (wthC c r)) else (wthC c r, 0)
theorem G71_with (c : Cd) (r : Rl) : G71 LF (c, r) = some (wthR c r) := by
  unfold G71 wthR
  simp only [show G31 LF (c.1, (c.2.1, c.2.2)) = some (codeE c) from G31_code c, Option.bind_some]
  by_cases he : codeE c = 0
  · have hv := VC.of he
    have hll := hv.ll
    have e1 : appC ([] : List Rl) c.2.2 = some c.2.2 := appN_of (by omega)
    have e2 : appC c.2.2 [r] = some (c.2.2 ++ [r]) := appC_of (by simp; omega)
    have e0 : appC ([] : List Rl) [r] = some [r] := appN_of (by simp)
    simp only [he, decide_true, Bool.not_true, cond_false, ne_eq, not_true, if_false, e1, Option.bind_some]
    have key : (cond (decide ((c.2.2.length : Int) = 0)) (agree ((appC ([] : List Rl) [r]).bind fun q => some (Sum.inl q : List Rl ⊕ (Cd × Int))) ((appC c.2.2 [r]).bind fun q => some (Sum.inl q))) ((appC c.2.2 [r]).bind fun q => some (Sum.inl q))) = some (.inl (c.2.2 ++ [r])) := by
      rw [e2]
      cases hc : c.2.2 with
      | nil => rw [e0]; exact agree_self _
      | cons x l => rw [show decide (((x :: l).length : Int) = 0) = false from decide_eq_false (by simp only [List.length_cons]; omega)]; rfl
    refine (congrArg (fun z => jn z _) key).trans ?_
    rw [jl]
    simp only [show G31 LF (c.1, (c.2.1, c.2.2 ++ [r])) = some (codeE (wthC c r)) from G31_code (wthC c r), Option.bind_some]
    by_cases hd : codeE (wthC c r) = 0
    · simp only [hd, decide_true, Bool.not_true, cond_false, ne_eq, not_true, if_false, show G153 LF (c.1, (c.2.1, c.2.2 ++ [r])) = some (wthC c r) from G153_id (VC.of hd), Option.bind_some]
    · simp only [hd, decide_false, Bool.not_false, cond_true, ne_eq, not_false_eq_true, if_true]
  · simp only [he, decide_false, Bool.not_false, cond_true, ne_eq, not_false_eq_true, if_true]
theorem G72_with (c : Cd) (r : Rl) (h1 : List.length r.2.2.2.1 * 48 ≤ 140737488355328) (h2 : List.length r.2.2.2.2.1 * 48 ≤ 140737488355328) (h3 : r.2.2.2.2.2.length * 16 ≤ 140737488355328) : G72 LF (c, r) = some (wthR c r) := by
  unfold G72 wthR
  simp only [show G32 LF (c.1, (c.2.1, c.2.2)) = some (codeE c) from G32_code c, Option.bind_some]
  by_cases he : codeE c = 0
  · have h := VC.of he
    have hll := h.ll
    have hfl := h.fl
    simp only [he, decide_true, Bool.not_true, cond_false, ne_eq, not_true, if_false, appN_of (show c.2.1.length ≤ 1000 by omega), Option.bind_some]
    refine (iter_app (fun i a => (i, a)) (fun (r : Rl) => [r]) c.2.2 (fun a => if codeE (c.1, (c.2.1, a ++ [r])) ≠ 0 then some ((bts [], ([], [])), codeE (c.1, (c.2.1, a ++ [r]))) else some ((c.1, (c.2.1, a ++ [r])), 0)) 1 (fun _ _ => by simp) [] ?_ ?_ h.ll').trans ?_
    · intro i q a hr ha hi
      obtain ⟨l1, l2, l3⟩ := h.lens hr
      simp only [List.length_nil, Nat.zero_add, Nat.one_mul] at ha
      simp only [dlt hi, cond_true, getI_nat hr, Option.bind_some, show G155 LF (q.1, (q.2.1, (q.2.2.1, (q.2.2.2.1, (q.2.2.2.2.1, q.2.2.2.2.2))))) = some q from G155_id (r := q) (by omega) (by omega) (by omega), succ_W (show i + 1 < 9223372036854775808 by omega),
        appC_of (show a.length + [q].length ≤ 1099511627776 by simp; omega)]
    · intro a ha
      simp only [List.length_nil, Nat.zero_add, Nat.one_mul] at ha
      simp only [dnlt, cond_false, show G155 LF (r.1, (r.2.1, (r.2.2.1, (r.2.2.2.1, (r.2.2.2.2.1, r.2.2.2.2.2))))) = some r from G155_id h1 h2 h3, Option.bind_some, appC_of (show a.length + [r].length ≤ 1099511627776 by simp; omega),
        show G32 LF (c.1, (c.2.1, a ++ [r])) = some (codeE (c.1, (c.2.1, a ++ [r]))) from G32_code _]
      by_cases hd : codeE (c.1, (c.2.1, a ++ [r])) = 0
      · simp only [hd, decide_true, Bool.not_true, cond_false, ne_eq, not_true, if_false]
      · simp only [hd, decide_false, Bool.not_false, cond_true, ne_eq, not_false_eq_true, if_true]
    · simp only [List.nil_append, flat_one]
      show (if codeE (wthC c r) ≠ 0 then _ else _) = some (if codeE (wthC c r) ≠ 0 then _ else _)
      split <;> rfl
  · simp only [he, decide_false, Bool.not_false, cond_true, ne_eq, not_false_eq_true, if_true]
theorem G54_same (l : List Fct) (hl : l.length < LF) : G54 LF (l, l) = some true := by
  unfold G54
  simp only [decide_true, Bool.not_true, cond_false]
  refine same_loop l (fun i x hx => ?_) ?_ hl
  · have hi := lt_of_get hx
    simp only [dlt hi, cond_true, getI_nat hx, Option.bind_some, eqD, decide_true, Bool.and_self, Bool.and_true, Bool.not_true, cond_false, succ_W (Nat.lt_of_le_of_lt hi hl)]
  · simp only [dnlt, cond_false]
theorem G21_same (l : Cnd) (hl : List.length l < LF) : G21 LF (l, l) = some true := by
  unfold G21
  simp only [decide_true, Bool.not_true, cond_false]
  refine same_loop l (fun i x hx => ?_) ?_ hl
  · have hi := lt_of_get hx
    simp only [dlt hi, cond_true, getI_nat hx, Option.bind_some, eqD, decide_true, Bool.and_self, Bool.and_true, Bool.not_true, cond_false, succ_W (Nat.lt_of_le_of_lt hi hl)]
  · simp only [dnlt, cond_false]
theorem G53_same (c : Cd) (h1 : c.2.1.length < LF) (h2 : c.2.2.length < LF) (h3 : ∀ r ∈ c.2.2, List.length r.2.2.2.1 < LF ∧ List.length r.2.2.2.2.1 < LF ∧ r.2.2.2.2.2.length < LF) : G53 LF (c, c) = some true := by
  unfold G53
  simp only [eqD, decide_true, Bool.not_true, cond_false, G54_same _ h1, Option.bind_some, jl]
  refine same_loop c.2.2 (fun i x hx => ?_) ?_ h2
  · have hi := lt_of_get hx
    obtain ⟨l1, l2, l3⟩ := h3 x (List.mem_of_getElem? hx)
    simp only [dlt hi, cond_true, getI_nat hx, Option.bind_some, eqD, decide_true, Bool.not_true, cond_false, G21_same _ l1, G21_same _ l2, G33_same _ l3, jl, succ_W (Nat.lt_of_le_of_lt hi h2)]
  · simp only [dnlt, cond_false]
theorem G53_with (c : Cd) (r : Rl) : G53 LF ((wthR c r).1, (wthR c r).1) = some true := by
  unfold wthR
  split
  · exact G53_same _ (by show 0 < 9223372036854775808; decide) (by show 0 < 9223372036854775808; decide) (by simp)
  · split
    · exact G53_same _ (by show 0 < 9223372036854775808; decide) (by show 0 < 9223372036854775808; decide) (by simp)
    · rename_i h
      have hv := VC.of (Decidable.not_not.1 h)
      refine G53_same _ hv.fl' hv.ll' fun q hq => ?_
      obtain ⟨i, hi⟩ := List.getElem?_of_mem hq
      obtain ⟨l1, l2, l3⟩ := hv.lens hi
      show List.length q.2.2.2.1 < 9223372036854775808 ∧ List.length q.2.2.2.2.1 < 9223372036854775808 ∧ q.2.2.2.2.2.length < 9223372036854775808
      omega
theorem G14_true (c : Cd) (r : Rl) (d : Int) (h1 : List.length r.2.2.2.1 * 48 ≤ 140737488355328) (h2 : List.length r.2.2.2.2.1 * 48 ≤ 140737488355328) (h3 : r.2.2.2.2.2.length * 16 ≤ 140737488355328) : G14 LF (c, (r, d)) = some true := by
  unfold G14
  have a1 : (frcR c d).1.length < LF := by
    show (frcR c d).1.length < 9223372036854775808
    unfold frcR
    split
    · simp
    · rename_i he
      have hll := (VC.of (Decidable.not_not.1 he)).ll
      split
      · have := frc_len d c.2.2 0 []
        simp only [List.length_nil] at this
        unfold frcA
        simp only
        omega
      · simp
  have a2 : (dayE c).1.length < LF := by
    show (dayE c).1.length < 9223372036854775808
    unfold dayE
    split
    · simp
    · rename_i he
      have hll := (VC.of (Decidable.not_not.1 he)).ll
      have := days_len c.2.2
      simp only
      omega
  have a3 : (celE c).1.length < LF ∧ ∀ x ∈ (celE c).1, List.length x < LF := by
    show (celE c).1.length < 9223372036854775808 ∧ ∀ x ∈ (celE c).1, List.length x < 9223372036854775808
    unfold celE
    split
    · simp
    · rename_i he
      have hv := VC.of (Decidable.not_not.1 he)
      have hfl := hv.fl
      refine ⟨by simp only [starts_len]; omega, fun x hx => ?_⟩
      obtain ⟨y, _, rfl⟩ := List.mem_map.1 hx
      have := cuts_len y (condsL c.2.2) hv.cl hv.cs
      omega
  simp only [show G71 LF ((c.1, (c.2.1, c.2.2)), (r.1, (r.2.1, (r.2.2.1, (r.2.2.2.1, (r.2.2.2.2.1, r.2.2.2.2.2)))))) = some (wthR c r) from G71_with c r,
    show G72 LF ((c.1, (c.2.1, c.2.2)), (r.1, (r.2.1, (r.2.2.1, (r.2.2.2.1, (r.2.2.2.2.1, r.2.2.2.2.2)))))) = some (wthR c r) from G72_with c r h1 h2 h3, Option.bind_some,
    show G73 LF ((c.1, (c.2.1, c.2.2)), d) = some (frcR c d) from G73_frc c d, show G74 LF ((c.1, (c.2.1, c.2.2)), d) = some (frcR c d) from G74_frc c d,
    show G44 LF (c.1, (c.2.1, c.2.2)) = some (dayE c) from G44_days c, show G75 LF (c.1, (c.2.1, c.2.2)) = some (dayE c) from G75_days c, show G55 LF (c.1, (c.2.1, c.2.2)) = some (celE c) from G55_cells c, show G76 LF (c.1, (c.2.1, c.2.2)) = some (celE c) from G76_cells c,
    decide_true, Bool.not_true, cond_false, show G53 LF (((wthR c r).1.1, ((wthR c r).1.2.1, (wthR c r).1.2.2)), ((wthR c r).1.1, ((wthR c r).1.2.1, (wthR c r).1.2.2))) = some true from G53_with c r, G62_same _ a1, G62_same _ a2, jl]
  refine same_loop (celE c).1 (fun i x hx => ?_) ?_ a3.1
  · have hi := lt_of_get hx
    simp only [dlt hi, cond_true, getI_nat hx, Option.bind_some, G62_same _ (a3.2 x (List.mem_of_getElem? hx)), Bool.not_true, cond_false, succ_W (Nat.lt_of_le_of_lt hi a3.1)]
  · simp only [dnlt, cond_false, sane_true, Option.bind_some]; rfl
end Go.K
namespace Go.Sx
open Go.Sl Go.Shelf Go.Proofs
variable {P : Program} {ρ : Ren} {h : Zone} {L : List Atom} {w : World} {E : TypeId} {o : Option Addr} {cap : Nat} {xs : List Int}
theorem rows_int : ∀ {xs : List Int} {cs : List Value}, Rows Ty.int h cs xs ↔ cs = xs.map (Value.int .i64)
  | [], cs => by simp [Rows]
  | x :: xs, cs => by
    constructor
    · rintro ⟨c, d, rfl, hc, hd⟩
      have hc' : c = [.int .i64 x] := hc
      rw [hc', (rows_int (xs := xs)).1 hd]
      rfl
    · intro e
      subst e
      exact ⟨[.int .i64 x], xs.map (Value.int .i64), rfl, rfl, rows_int.2 rfl⟩
theorem own_ints {cur : Array Value} (hr : Rows Ty.int h (cur.toList.take (xs.length * Ty.int.size)) xs) : cur.toList.take xs.length = xs.map (Value.int .i64) := by
  have := rows_int.1 hr
  simpa [Ty.int] using this
theorem St.ownPut (hS : St h L w) {j : Nat} {g : Nat} {ys : List Int} (hj : L[j]? = some (ownS Ty.int E (some ⟨g, 0, none⟩) cap xs)) (hl : ys.length = xs.length) (n : Nat) (os : Array Obj) :
    St h (L.set j (ownS Ty.int E (some ⟨g, 0, none⟩) cap ys)) (Sort.grow (Sort.putRow (Value.int .i64) (Sort.ahead w n) g 0 ys.toArray) os) := by
  obtain ⟨x, hx, hxw, dx, hset⟩ := hS.focus hj
  rcases hx with ⟨e, _⟩ | ⟨g', cur, e, rfl, h1, h2, h3, h4⟩
  · cases e
  · have hg : g' = g := by cases e; rfl
    subst hg
    have hb : w.heap[g']? = some (.cells cur E (0, 0)) := Hp.one_le.1 hxw
    have hsz : cur.size = cap := by simpa [Ty.int] using h3
    have hlen : ys.length ≤ cur.size := by omega
    have hgr := grownBy_sortedI (w := w) (g := g') (n := n) (os := os) ys.toArray
    refine hset _ (ownS Ty.int E (some ⟨g', 0, none⟩) cap ys) (Hp.one g' (.cells (Sort.putCells (Value.int .i64) 0 ys.toArray cur) E (0, 0)))
      (.inr ⟨g', _, rfl, rfl, by omega, h2, by simp [Sort.putCells, h3], ?_⟩) (Hp.one_le.2 (heap_sortedI ys.toArray hb)) (fun b hb' hn => hgr.block b hb' fun e => ?_) (fun b o' e => .inr ?_) hgr.os hgr.tape hgr.output
    · have := take_putCellsI cur ys hlen
      have e1 : ys.length * Ty.int.size = ys.length := by simp [Ty.int]
      rw [e1, this]
      exact rows_int.2 rfl
    · cases e; simp [Hp.one] at hn
    · unfold Hp.one at e ⊢
      split at e
      · rename_i hbg; simp [hbg]
      · cases e
theorem sortOwn (Ly : Lays.n189 P ρ) (hS : St h L w) {j : Nat} (hj : L[j]? = some (ownS Ty.int E o cap xs)) (hsz : xs.length ≤ 4398046511104) :
    Calls P (ρ.f 189) #[.slice o xs.length cap] w fun e w' => ∃ v, e = .returned v ∧ v = .tuple #[] ∧ St h (L.set j (ownS Ty.int E o cap (sortL xs))) w' := by
  obtain ⟨x, hx, hxw, dx, hset⟩ := hS.focus hj
  rcases hx with ⟨rfl, rfl, rfl, rfl⟩ | ⟨g, cur, rfl, rfl, h1, h2, h3, h4⟩
  · refine (Any.slices_Sort_int_none Ly none 0 w).mono ?_
    rintro e w' ⟨rfl, rfl⟩
    refine ⟨_, rfl, rfl, ?_⟩
    have : sortL [] = [] := rfl
    rw [this]
    exact hset w' (ownS Ty.int E none 0 []) Hp.nil (.inl ⟨rfl, rfl, rfl, rfl⟩) (Hp.nil_le _) (fun _ _ _ => rfl) (fun b o e => by simp [Hp.nil] at e) rfl rfl rfl
  · have hb : w.heap[g]? = some (.cells cur E (0, 0)) := Hp.one_le.1 hxw
    have hH := holds_of_blockI hb (own_ints h4)
    refine (Any.slices_Sort_int Ly g 0 cap xs w hH (Array.getElem?_eq_some_iff.1 hb).1 (by omega)).mono ?_
    rintro e w' ⟨rfl, n, os, rfl⟩
    rw [sortL_eq]
    exact ⟨_, rfl, rfl, St.ownPut hS hj (sortL_len xs).symm n os⟩
theorem compactOwn (Ly : SlLaysN.n43 P ρ) (hS : St h L w) {j : Nat} (hj : L[j]? = some (ownS Ty.int E o cap xs)) (hsz : xs.length ≤ 4398046511104) :
    Calls P (ρ.f 43) #[.slice o xs.length cap] w fun e w' => ∃ v, e = .returned v ∧ v = .slice o (compL xs).length cap ∧ St h (L.set j (ownS Ty.int E o cap (compL xs))) w' := by
  obtain ⟨x, hx, hxw, dx, hset⟩ := hS.focus hj
  rcases hx with ⟨rfl, rfl, rfl, rfl⟩ | ⟨g, cur, rfl, rfl, h1, h2, h3, h4⟩
  · refine (AnyG.slices_Compact_int_empty Ly none 0 w).mono ?_
    rintro e w' ⟨rfl, rfl⟩
    have hc : compL [] = [] := by simp [compL, Lib.compact, Lib.compactUpTo]
    rw [hc]
    exact ⟨_, rfl, rfl, hset w' (ownS Ty.int E none 0 []) Hp.nil (.inl ⟨rfl, rfl, rfl, rfl⟩) (Hp.nil_le _) (fun _ _ _ => rfl) (fun b o e => by simp [Hp.nil] at e) rfl rfl rfl⟩
  · have hb : w.heap[g]? = some (.cells cur E (0, 0)) := Hp.one_le.1 hxw
    have hH := holds_of_blockI hb (own_ints h4)
    refine (AnyG.slices_Compact_int Ly g 0 cap xs w hH (by omega) h1).mono ?_
    rintro e w' ⟨rfl, q, rfl⟩
    have hle : (Lib.compact xs).length ≤ xs.length := by
      unfold Lib.compact Lib.compactUpTo
      rw [List.length_map]
      exact Nat.le_trans (List.length_filter_le _ _) (by simp)
    have hlen : (Lib.compact xs ++ List.replicate (xs.length - (Lib.compact xs).length) 0).length = xs.length := by
      rw [List.length_append, List.length_replicate]; omega
    have h5 := St.ownPut hS hj hlen q #[]
    rw [Sort.grow_empty] at h5
    refine ⟨_, rfl, rfl, ?_⟩
    have hlt := (List.getElem?_eq_some_iff.1 hj).1
    have h6 := h5.ownTake (j := j) (T := Ty.int) (E := E) (o := some ⟨g, 0, none⟩) (cap := cap) (xs := Lib.compact xs ++ List.replicate (xs.length - (Lib.compact xs).length) 0) (by simp [hlt]) (n := (Lib.compact xs).length) (by rw [hlen]; exact hle)
    have h7 : (Lib.compact xs ++ List.replicate (xs.length - (Lib.compact xs).length) 0).take (Lib.compact xs).length = compL xs := by simp [compL]
    rw [h7] at h6
    simpa using h6
def lenC {α : Type} (xs : List α) : Option Unit := if xs.length ≤ 1099511627776 then some () else none
theorem lenC_spec {α : Type} {xs : List α} {u : Unit} (e : lenC xs = some u) : xs.length ≤ 1099511627776 := by
  unfold lenC at e
  split at e
  · assumption
  · cases e
end Go.Sx
set_option linter.unusedVariables false
set_option linter.unusedSimpArgs false
set_option maxRecDepth 100000
namespace Go.K
open Go.Sl Go.Sx Go.Proofs Go.Shelf Go.RowKit
variable {P : Program} {ρ' : Ren} {E : Env}
theorem foldl_sum (k : Nat) : ∀ (xs : List ByteArray) (n : Nat), xs.foldl (fun n x => n + x.size + k) n = n + (xs.map fun x => x.size + k).sum
  | [], n => by simp
  | x :: xs, n => by rw [List.foldl_cons, foldl_sum k xs]; simp; omega
theorem join_data (sep : ByteArray) : ∀ (xs : List ByteArray) (r : ByteArray), (xs.foldl (fun r y => r ++ sep ++ y) r).data.toList = r.data.toList ++ (xs.map fun y => sep.data.toList ++ y.data.toList).flatten
  | [], r => by simp
  | y :: xs, r => by rw [List.foldl_cons, join_data sep xs]; simp [ByteArray.data_append]
theorem size_len' (s : ByteArray) : s.size = s.data.toList.length := by simp
theorem lens_eq : ∀ xs : List ByteArray, Lib.lens (xs.map (·.data.toList)) = (xs.map (·.size)).sum
  | [] => rfl
  | x :: xs => by
    have := lens_eq xs
    simp only [Lib.lens, List.map_cons, List.flatten_cons, List.length_append, List.sum_cons] at this ⊢
    rw [this, size_len']
theorem sum_add (k : Nat) : ∀ xs : List ByteArray, (xs.map fun x => x.size + (k + 1)).sum = (xs.map (·.size)).sum + k * xs.length + xs.length
  | [] => by simp
  | x :: xs => by
    simp only [List.map_cons, List.sum_cons, sum_add k xs, List.length_cons, Nat.mul_add]; omega
theorem joinC_lib {sep : ByteArray} {xs : List ByteArray} {y : ByteArray} (h : joinC sep xs = some y) : y = ⟨(Lib.join (xs.map (·.data.toList)) sep.data.toList).toArray⟩ ∧ (Lib.join (xs.map (·.data.toList)) sep.data.toList).length ≤ 140737488355328 ∧ xs.length ≤ 140737488355328 := by
  unfold joinC at h
  split at h
  · rename_i hc
    rw [foldl_sum, sum_add] at hc
    have hll := lens_eq xs
    cases xs with
    | nil =>
      simp only [Option.some.injEq] at h
      subst h
      exact ⟨rfl, by simp [Lib.join_nil], by simp⟩
    | cons x xs =>
      simp only [Option.some.injEq] at h
      have hj : (Lib.join ((x :: xs).map (·.data.toList)) sep.data.toList) = y.data.toList := by
        rw [← h, join_data, List.map_cons, Lib.join_cons]
        congr 1
        unfold Lib.joinTail
        rw [List.map_map]
        rfl
      have hlen := Lib.join_length x.data.toList (xs.map (·.data.toList)) sep.data.toList
      rw [List.map_cons] at hj hll
      simp only [List.length_cons, List.length_map] at hc hlen
      rw [hll] at hlen
      refine ⟨?_, ?_, ?_⟩
      · rw [List.map_cons, hj]
      · rw [List.map_cons, hlen]
        have hs : sep.data.toList.length = sep.size := (size_len' sep).symm
        rw [hs]
        have := Nat.mul_le_mul (Nat.le_refl sep.size) (show xs.length ≤ xs.length + 1 by omega)
        omega
      · simp only [List.length_cons]; omega
  · cases h
theorem join_valid (Ly : Lays.n156 P ρ') (X : Builder.Extra P ρ') : Valid E P (ρ'.f 156) [aSs, aS] [aS] fun x => joinC x.2 x.1 := by
  intro x y hx z L w vs hz hrep hs
  obtain ⟨v, r, rfl, hv, u, rfl, hu⟩ := hrep
  have h2 := rep_str hu
  subst h2
  obtain ⟨rfl, hl, hn⟩ := joinC_lib hx
  have hv' := rep1 hv
  obtain ⟨o, c, e1, hsl⟩ := hv'
  simp only [List.cons.injEq, and_true] at e1
  subst e1
  have fin : ∀ (o : Option Addr), (o = none → x.1 = []) → (∀ a, o = some a → ∀ j s, x.1[j]? = some s → z.cell? (a.add j) = some (.string s)) → x.1.length ≤ c → Calls P (ρ'.f 156) #[.slice o x.1.length c, .string x.2] w fun e w' => e = .returned (.string ⟨(Lib.join (x.1.map (·.data.toList)) x.2.data.toList).toArray⟩) ∧ Below w.heap.size w w' := by
    intro o h0 h1 hcap
    cases hx1 : x.1 with
    | nil =>
      simp only [List.length_nil]
      refine (Any.strings_Join_none Ly X o c x.2 w).mono fun e w' ⟨he, hw⟩ => ⟨he, hw ▸ Below.refl _ _⟩
    | cons s0 ss =>
      cases o with
      | none => rw [h0 rfl] at hx1; cases hx1
      | some a =>
        have hc0 := h1 a rfl 0 s0 (by rw [hx1]; rfl)
        have hspot : a.spot = none ∧ (a.add 0) = a := by
          constructor
          · unfold Zone.cell? at hc0
            split at hc0
            · split at hc0
              · cases hc0
              · rename_i hsp
                rw [add_zero' a] at hsp
                cases hs : a.spot with
                | none => rfl
                | some q => rw [hs] at hsp; simp at hsp
            · cases hc0
          · exact add_zero' a
        obtain ⟨bk, off, sp⟩ := a
        obtain ⟨hsp, _⟩ := hspot
        simp only at hsp
        subst hsp
        have hcell : ∀ (j : Nat) s, (s0 :: ss)[j]? = some s → w.cell? ⟨bk, off + j, none⟩ = some (.string s) := fun j s hj => by
          have := h1 _ rfl j s (by rw [hx1]; exact hj)
          have := hs.cell this
          have ha : (⟨bk, off, none⟩ : Addr).add j = ⟨bk, off + j, none⟩ := by unfold Addr.add; split <;> simp_all
          rwa [ha] at this
        have hbk : bk < w.heap.size := by
          have := hcell 0 s0 rfl
          unfold World.cell? at this
          cases hb : w.heap[bk]? with
          | none => rw [hb] at this; cases this
          | some ob => exact (Array.getElem?_eq_some_iff.1 hb).1
        rw [hx1] at hl hn hcap
        exact Any.strings_Join Ly X bk off c (s0 :: ss) x.2 w hcell hbk hn hcap hl
  refine (fin o (fun e => (hsl.hnil e).1) (fun a e j s hj => ?_) hsl.hcap).mono ?_
  · obtain ⟨cs, hr, hc⟩ := hsl.hat a e j s hj
    have hr' : cs = [.string s] := hr
    have := hc 0 (.string s) (by rw [hr']; rfl)
    have e1 : j * (TC.str.ty).size = j := by show j * 1 = j; omega
    rw [e1] at this
    rwa [add_zero'] at this
  · rintro en w' ⟨rfl, hb⟩
    exact ⟨_, z, rfl, Zone.le_refl _, ⟨[.string _], rfl, _, rfl, .inr ⟨rfl, rfl⟩⟩, hs.of_below hb⟩
end Go.K
set_option linter.unusedVariables false
set_option linter.unusedSimpArgs false
set_option maxRecDepth 100000
namespace Go.Proofs
open Go.Shelf Go.RowKit Go.Lib
theorem Tryz.isBlank (W : World) (r : Nat) : FnGives Tryz.prog 158 #[] #[encR r] (.bool (Nat.beq r 32)) W := by
  unfold FnGives
  have e : Nat.beq r 32 = decide ((r : Int) = 32) := by
    cases h : Nat.beq r 32 with
    | true => have := Nat.eq_of_beq_eq_true h; simp; omega
    | false => have := Nat.ne_of_beq_eq_false h; simp; omega
  rw [e]
  go_enter Tryz.func158, Tryz.ntmps158
  go_wp2
  go_ret
  exact ⟨rfl, 0, rfl⟩
theorem Tryz.extraB : Builder.Extra Tryz.prog Tryz.join_ren := {
  sizeBuilder := by kernel_rfl
  liesBuilder := by kernel_rfl
  t5 := Tryz.underlying5
  a5 := Tryz.isAgg5
  z5 := Tryz.sizeOf5
  v5 := Tryz.zeroValue5
  infoByte := by kernel_rfl
  cellsByte := by kernel_rfl
  sizeByte := by kernel_rfl
  neB5 := by decide }
end Go.Proofs
namespace Go.K
open Go.Sl Go.Sx Go.Proofs Go.Shelf Go.RowKit
theorem mixedT : Tryz.prog.follows .mixedOrders = true := by kernel_rfl
abbrev HC (E : Env) (C : FuncId → Option Con) : Prop := ∀ L, envA E ∈ L → ∀ g con, C g = some con → ConOk Tryz.prog L con g
theorem sort_row : RowOk Tryz.prog 182 .i sortL := ⟨fun xs => (sortL_len xs).symm, fun hS hj hl => sortOwn Tryz.sortI hS hj hl⟩
theorem comp_cut : CutOk Tryz.prog 183 .i compL := fun hS hj hl => compactOwn Tryz.compactI hS hj hl
theorem ct_ok (lf : Nat) : HC (envT Tryz.prog 0) (CT Tryz.prog lf) := by
  intro L hL
  unfold CT
  refine extC_ok (extC_ok (extC_ok (extC_ok (extC_ok (extC_ok (extC_ok (extC_ok (fun g con h => by cases h) ?a) ?b) ?c) ?d) ?e) ?f) ?g) ?h
  case a => exact dataCon_ok (itoa_valid Tryz.itoa) hL
  case b => exact dataCon_ok (trim_valid Tryz.trim (by kernel_rfl)) hL
  case c => exact rowCon_ok sort_row
  case d => exact cutCon_ok comp_cut
  case e => exact dataCon_ok (split_valid Tryz.split (by kernel_rfl)) hL
  case f => exact atoiCon_ok Tryz.atoi
  case g => exact fieldsCon_ok Tryz.fields (enters_of Tryz.func158 (by kernel_rfl) rfl) (fun W x => Tryz.isBlank W x) (by kernel_rfl) (by kernel_rfl)
  case h => exact dataCon_ok (join_valid Tryz.join Tryz.extraB) hL
end Go.K
set_option linter.unusedVariables false
set_option maxRecDepth 100000
namespace Go.K
open Go.Sl Go.Sx Go.Proofs
theorem kcCT : HC (envT Tryz.prog 0) (CT Tryz.prog LF) := ct_ok LF
theorem kc91 : HC (envT Tryz.prog 0) (C91 Tryz.prog LF) := fun L hL => extC_ok (kcCT L hL) (dataCon_ok (fnF_valid mixedT kcCT 91 _ _ LF) hL)
theorem kc223 : HC (envT Tryz.prog 0) (C223 Tryz.prog LF) := fun L hL => extC_ok (kc91 L hL) (dataCon_ok (fnF_valid mixedT kc91 223 _ _ LF) hL)
theorem kc180 : HC (envT Tryz.prog 0) (C180 Tryz.prog LF) := fun L hL => extC_ok (kc223 L hL) (dataCon_ok (fnF_valid mixedT kc223 180 _ _ LF) hL)
theorem kc165 : HC (envT Tryz.prog 0) (C165 Tryz.prog LF) := fun L hL => extC_ok (kc180 L hL) (dataCon_ok (fnF_valid mixedT kc180 165 _ _ LF) hL)
theorem kc94 : HC (envT Tryz.prog 0) (C94 Tryz.prog LF) := fun L hL => extC_ok (kc165 L hL) (dataCon_ok (fnF_valid mixedT kc165 94 _ _ LF) hL)
theorem kc158 : HC (envT Tryz.prog 0) (C158 Tryz.prog LF) := fun L hL => extC_ok (kc94 L hL) (dataCon_ok (fnF_valid mixedT kc94 158 _ _ LF) hL)
theorem kc86 : HC (envT Tryz.prog 0) (C86 Tryz.prog LF) := fun L hL => extC_ok (kc158 L hL) (dataCon_ok (fnF_valid mixedT kc158 86 _ _ LF) hL)
theorem kc244 : HC (envT Tryz.prog 0) (C244 Tryz.prog LF) := fun L hL => extC_ok (kc86 L hL) (dataCon_ok (fnF_valid mixedT kc86 244 _ _ LF) hL)
theorem kc215 : HC (envT Tryz.prog 0) (C215 Tryz.prog LF) := fun L hL => extC_ok (kc244 L hL) (refCon_ok (fnR_valid mixedT kc244 215 _ _ _ _ _ _ LF) hL)
theorem kc216 : HC (envT Tryz.prog 0) (C216 Tryz.prog LF) := fun L hL => extC_ok (kc215 L hL) (refCon_ok (fnR_valid mixedT kc215 216 _ _ _ _ _ _ LF) hL)
theorem kc162 : HC (envT Tryz.prog 0) (C162 Tryz.prog LF) := fun L hL => extC_ok (kc216 L hL) (refCon_ok (recR_valid mixedT kc216 (fun _ => rfl) (fun _ _ => rfl) LF) hL)
theorem kc17 : HC (envT Tryz.prog 0) (C17 Tryz.prog LF) := fun L hL => extC_ok (kc162 L hL) (dataCon_ok (fnF_valid mixedT kc162 17 _ _ LF) hL)
theorem kc110 : HC (envT Tryz.prog 0) (C110 Tryz.prog LF) := fun L hL => extC_ok (kc17 L hL) (dataCon_ok (fnF_valid mixedT kc17 110 _ _ LF) hL)
theorem kc190 : HC (envT Tryz.prog 0) (C190 Tryz.prog LF) := fun L hL => extC_ok (kc110 L hL) (dataCon_ok (fnF_valid mixedT kc110 190 _ _ LF) hL)
theorem kc188 : HC (envT Tryz.prog 0) (C188 Tryz.prog LF) := fun L hL => extC_ok (kc190 L hL) (dataCon_ok (fnF_valid mixedT kc190 188 _ _ LF) hL)
theorem kc189 : HC (envT Tryz.prog 0) (C189 Tryz.prog LF) := fun L hL => extC_ok (kc188 L hL) (dataCon_ok (fnF_valid mixedT kc188 189 _ _ LF) hL)
theorem kc191 : HC (envT Tryz.prog 0) (C191 Tryz.prog LF) := fun L hL => extC_ok (kc189 L hL) (dataCon_ok (fnF_valid mixedT kc189 191 _ _ LF) hL)
theorem kc192 : HC (envT Tryz.prog 0) (C192 Tryz.prog LF) := fun L hL => extC_ok (kc191 L hL) (dataCon_ok (fnF_valid mixedT kc191 192 _ _ LF) hL)
theorem kc193 : HC (envT Tryz.prog 0) (C193 Tryz.prog LF) := fun L hL => extC_ok (kc192 L hL) (dataCon_ok (fnF_valid mixedT kc192 193 _ _ LF) hL)
theorem kc194 : HC (envT Tryz.prog 0) (C194 Tryz.prog LF) := fun L hL => extC_ok (kc193 L hL) (dataCon_ok (fnF_valid mixedT kc193 194 _ _ LF) hL)
theorem kc195 : HC (envT Tryz.prog 0) (C195 Tryz.prog LF) := fun L hL => extC_ok (kc194 L hL) (dataCon_ok (fnF_valid mixedT kc194 195 _ _ LF) hL)
theorem kc131 : HC (envT Tryz.prog 0) (C131 Tryz.prog LF) := fun L hL => extC_ok (kc195 L hL) (dataCon_ok (fnF_valid mixedT kc195 131 _ _ LF) hL)
theorem kc147 : HC (envT Tryz.prog 0) (C147 Tryz.prog LF) := fun L hL => extC_ok (kc131 L hL) (dataCon_ok (fnF_valid mixedT kc131 147 _ _ LF) hL)
theorem kc36 : HC (envT Tryz.prog 0) (C36 Tryz.prog LF) := fun L hL => extC_ok (kc147 L hL) (dataCon_ok (fnF_valid mixedT kc147 36 _ _ LF) hL)
theorem kc130 : HC (envT Tryz.prog 0) (C130 Tryz.prog LF) := fun L hL => extC_ok (kc36 L hL) (dataCon_ok (fnF_valid mixedT kc36 130 _ _ LF) hL)
theorem kc116 : HC (envT Tryz.prog 0) (C116 Tryz.prog LF) := fun L hL => extC_ok (kc130 L hL) (dataCon_ok (fnF_valid mixedT kc130 116 _ _ LF) hL)
theorem kc181 : HC (envT Tryz.prog 0) (C181 Tryz.prog LF) := fun L hL => extC_ok (kc116 L hL) (dataCon_ok (fnF_valid mixedT kc116 181 _ _ LF) hL)
theorem kc115 : HC (envT Tryz.prog 0) (C115 Tryz.prog LF) := fun L hL => extC_ok (kc181 L hL) (dataCon_ok (fnF_valid mixedT kc181 115 _ _ LF) hL)
theorem kc106 : HC (envT Tryz.prog 0) (C106 Tryz.prog LF) := fun L hL => extC_ok (kc115 L hL) (dataCon_ok (fnF_valid mixedT kc115 106 _ _ LF) hL)
theorem kc174 : HC (envT Tryz.prog 0) (C174 Tryz.prog LF) := fun L hL => extC_ok (kc106 L hL) (dataCon_ok (fnF_valid mixedT kc106 174 _ _ LF) hL)
theorem kc125 : HC (envT Tryz.prog 0) (C125 Tryz.prog LF) := fun L hL => extC_ok (kc174 L hL) (dataCon_ok (fnF_valid mixedT kc174 125 _ _ LF) hL)
theorem kc133 : HC (envT Tryz.prog 0) (C133 Tryz.prog LF) := fun L hL => extC_ok (kc125 L hL) (dataCon_ok (fnF_valid mixedT kc125 133 _ _ LF) hL)
theorem kc104 : HC (envT Tryz.prog 0) (C104 Tryz.prog LF) := fun L hL => extC_ok (kc133 L hL) (dataCon_ok (fnF_valid mixedT kc133 104 _ _ LF) hL)
theorem kc266 : HC (envT Tryz.prog 0) (C266 Tryz.prog LF) := fun L hL => extC_ok (kc104 L hL) (dataCon_ok (fnF_valid mixedT kc104 266 _ _ LF) hL)
theorem kc199 : HC (envT Tryz.prog 0) (C199 Tryz.prog LF) := fun L hL => extC_ok (kc266 L hL) (panCon_ok (fnP_valid mixedT kc266 199 _ _ _ _ LF) hL)
theorem kc198 : HC (envT Tryz.prog 0) (C198 Tryz.prog LF) := fun L hL => extC_ok (kc199 L hL) (refCon_ok (fnR_valid mixedT kc199 198 _ _ _ _ _ _ LF) hL)
theorem kc200 : HC (envT Tryz.prog 0) (C200 Tryz.prog LF) := fun L hL => extC_ok (kc198 L hL) (refCon_ok (fnR_valid mixedT kc198 200 _ _ _ _ _ _ LF) hL)
theorem kc239 : HC (envT Tryz.prog 0) (C239 Tryz.prog LF) := fun L hL => extC_ok (kc200 L hL) (refCon_ok (fnR_valid mixedT kc200 239 _ _ _ _ _ _ LF) hL)
theorem kc201 : HC (envT Tryz.prog 0) (C201 Tryz.prog LF) := fun L hL => extC_ok (kc239 L hL) (refCon_ok (fnR_valid mixedT kc239 201 _ _ _ _ _ _ LF) hL)
theorem kc240 : HC (envT Tryz.prog 0) (C240 Tryz.prog LF) := fun L hL => extC_ok (kc201 L hL) (refCon_ok (fnR_valid mixedT kc201 240 _ _ _ _ _ _ LF) hL)
theorem kc202 : HC (envT Tryz.prog 0) (C202 Tryz.prog LF) := fun L hL => extC_ok (kc240 L hL) (refCon_ok (fnR_valid mixedT kc240 202 _ _ _ _ _ _ LF) hL)
theorem kc93 : HC (envT Tryz.prog 0) (C93 Tryz.prog LF) := fun L hL => extC_ok (kc202 L hL) (dataCon_ok (fnF_valid mixedT kc202 93 _ _ LF) hL)
theorem kc92 : HC (envT Tryz.prog 0) (C92 Tryz.prog LF) := fun L hL => extC_ok (kc93 L hL) (dataCon_ok (fnF_valid mixedT kc93 92 _ _ LF) hL)
theorem kc29 : HC (envT Tryz.prog 0) (C29 Tryz.prog LF) := fun L hL => extC_ok (kc92 L hL) (dataCon_ok (fnF_valid mixedT kc92 29 _ _ LF) hL)
theorem kc112 : HC (envT Tryz.prog 0) (C112 Tryz.prog LF) := fun L hL => extC_ok (kc29 L hL) (dataCon_ok (fnF_valid mixedT kc29 112 _ _ LF) hL)
theorem kc113 : HC (envT Tryz.prog 0) (C113 Tryz.prog LF) := fun L hL => extC_ok (kc112 L hL) (dataCon_ok (fnF_valid mixedT kc112 113 _ _ LF) hL)
theorem kc114 : HC (envT Tryz.prog 0) (C114 Tryz.prog LF) := fun L hL => extC_ok (kc113 L hL) (dataCon_ok (fnF_valid mixedT kc113 114 _ _ LF) hL)
theorem kc31 : HC (envT Tryz.prog 0) (C31 Tryz.prog LF) := fun L hL => extC_ok (kc114 L hL) (dataCon_ok (fnF_valid mixedT kc114 31 _ _ LF) hL)
theorem kc62 : HC (envT Tryz.prog 0) (C62 Tryz.prog LF) := fun L hL => extC_ok (kc31 L hL) (dataCon_ok (fnF_valid mixedT kc31 62 _ _ LF) hL)
theorem kc61 : HC (envT Tryz.prog 0) (C61 Tryz.prog LF) := fun L hL => extC_ok (kc62 L hL) (dataCon_ok (fnF_valid mixedT kc62 61 _ _ LF) hL)
theorem kc222 : HC (envT Tryz.prog 0) (C222 Tryz.prog LF) := fun L hL => extC_ok (kc61 L hL) (dataCon_ok (fnF_valid mixedT kc61 222 _ _ LF) hL)
theorem kc173 : HC (envT Tryz.prog 0) (C173 Tryz.prog LF) := fun L hL => extC_ok (kc222 L hL) (dataCon_ok (fnF_valid mixedT kc222 173 _ _ LF) hL)
theorem kc23 : HC (envT Tryz.prog 0) (C23 Tryz.prog LF) := fun L hL => extC_ok (kc173 L hL) (dataCon_ok (fnF_valid mixedT kc173 23 _ _ LF) hL)
theorem kc24 : HC (envT Tryz.prog 0) (C24 Tryz.prog LF) := fun L hL => extC_ok (kc23 L hL) (dataCon_ok (fnF_valid mixedT kc23 24 _ _ LF) hL)
theorem kc127 : HC (envT Tryz.prog 0) (C127 Tryz.prog LF) := fun L hL => extC_ok (kc24 L hL) (dataCon_ok (fnF_valid mixedT kc24 127 _ _ LF) hL)
theorem kc132 : HC (envT Tryz.prog 0) (C132 Tryz.prog LF) := fun L hL => extC_ok (kc127 L hL) (dataCon_ok (fnF_valid mixedT kc127 132 _ _ LF) hL)
theorem kc47 : HC (envT Tryz.prog 0) (C47 Tryz.prog LF) := fun L hL => extC_ok (kc132 L hL) (dataCon_ok (fnF_valid mixedT kc132 47 _ _ LF) hL)
theorem kc49 : HC (envT Tryz.prog 0) (C49 Tryz.prog LF) := fun L hL => extC_ok (kc47 L hL) (dataCon_ok (fnF_valid mixedT kc47 49 _ _ LF) hL)
theorem kc167 : HC (envT Tryz.prog 0) (C167 Tryz.prog LF) := fun L hL => extC_ok (kc49 L hL) (dataCon_ok (fnF_valid mixedT kc49 167 _ _ LF) hL)
theorem kc246 : HC (envT Tryz.prog 0) (C246 Tryz.prog LF) := fun L hL => extC_ok (kc167 L hL) (dataCon_ok (fnF_valid mixedT kc167 246 _ _ LF) hL)
theorem kc220 : HC (envT Tryz.prog 0) (C220 Tryz.prog LF) := fun L hL => extC_ok (kc246 L hL) (dataCon_ok (fnF_valid mixedT kc246 220 _ _ LF) hL)
theorem kc166 : HC (envT Tryz.prog 0) (C166 Tryz.prog LF) := fun L hL => extC_ok (kc220 L hL) (dataCon_ok (fnF_valid mixedT kc220 166 _ _ LF) hL)
theorem kc95 : HC (envT Tryz.prog 0) (C95 Tryz.prog LF) := fun L hL => extC_ok (kc166 L hL) (dataCon_ok (fnF_valid mixedT kc166 95 _ _ LF) hL)
theorem kc96 : HC (envT Tryz.prog 0) (C96 Tryz.prog LF) := fun L hL => extC_ok (kc95 L hL) (dataCon_ok (rec_valid mixedT kc95 (fun _ => rfl) (fun _ _ => rfl) LF) hL)
theorem kc19 : HC (envT Tryz.prog 0) (C19 Tryz.prog LF) := fun L hL => extC_ok (kc96 L hL) (dataCon_ok (fnF_valid mixedT kc96 19 _ _ LF) hL)
theorem kc128 : HC (envT Tryz.prog 0) (C128 Tryz.prog LF) := fun L hL => extC_ok (kc19 L hL) (dataCon_ok (fnF_valid mixedT kc19 128 _ _ LF) hL)
theorem kc41 : HC (envT Tryz.prog 0) (C41 Tryz.prog LF) := fun L hL => extC_ok (kc128 L hL) (dataCon_ok (fnF_valid mixedT kc128 41 _ _ LF) hL)
theorem kc102 : HC (envT Tryz.prog 0) (C102 Tryz.prog LF) := fun L hL => extC_ok (kc41 L hL) (dataCon_ok (fnF_valid mixedT kc41 102 _ _ LF) hL)
theorem kc22 : HC (envT Tryz.prog 0) (C22 Tryz.prog LF) := fun L hL => extC_ok (kc102 L hL) (dataCon_ok (fnF_valid mixedT kc102 22 _ _ LF) hL)
theorem kc126 : HC (envT Tryz.prog 0) (C126 Tryz.prog LF) := fun L hL => extC_ok (kc22 L hL) (dataCon_ok (fnF_valid mixedT kc22 126 _ _ LF) hL)
theorem kc168 : HC (envT Tryz.prog 0) (C168 Tryz.prog LF) := fun L hL => extC_ok (kc126 L hL) (dataCon_ok (fnF_valid mixedT kc126 168 _ _ LF) hL)
theorem kc84 : HC (envT Tryz.prog 0) (C84 Tryz.prog LF) := fun L hL => extC_ok (kc168 L hL) (dataCon_ok (fnF_valid mixedT kc168 84 _ _ LF) hL)
theorem kc99 : HC (envT Tryz.prog 0) (C99 Tryz.prog LF) := fun L hL => extC_ok (kc84 L hL) (dataCon_ok (fnF_valid mixedT kc84 99 _ _ LF) hL)
theorem kc117 : HC (envT Tryz.prog 0) (C117 Tryz.prog LF) := fun L hL => extC_ok (kc99 L hL) (dataCon_ok (fnF_valid mixedT kc99 117 _ _ LF) hL)
theorem kc98 : HC (envT Tryz.prog 0) (C98 Tryz.prog LF) := fun L hL => extC_ok (kc117 L hL) (dataCon_ok (fnF_valid mixedT kc117 98 _ _ LF) hL)
theorem kc97 : HC (envT Tryz.prog 0) (C97 Tryz.prog LF) := fun L hL => extC_ok (kc98 L hL) (dataCon_ok (fnF_valid mixedT kc98 97 _ _ LF) hL)
theorem kc111 : HC (envT Tryz.prog 0) (C111 Tryz.prog LF) := fun L hL => extC_ok (kc97 L hL) (dataCon_ok (fnF_valid mixedT kc97 111 _ _ LF) hL)
theorem kc30 : HC (envT Tryz.prog 0) (C30 Tryz.prog LF) := fun L hL => extC_ok (kc111 L hL) (dataCon_ok (fnF_valid mixedT kc111 30 _ _ LF) hL)
theorem kc37 : HC (envT Tryz.prog 0) (C37 Tryz.prog LF) := fun L hL => extC_ok (kc30 L hL) (dataCon_ok (fnF_valid mixedT kc30 37 _ _ LF) hL)
theorem kc118 : HC (envT Tryz.prog 0) (C118 Tryz.prog LF) := fun L hL => extC_ok (kc37 L hL) (dataCon_ok (fnF_valid mixedT kc37 118 _ _ LF) hL)
theorem kc109 : HC (envT Tryz.prog 0) (C109 Tryz.prog LF) := fun L hL => extC_ok (kc118 L hL) (dataCon_ok (fnF_valid mixedT kc118 109 _ _ LF) hL)
theorem kc176 : HC (envT Tryz.prog 0) (C176 Tryz.prog LF) := fun L hL => extC_ok (kc109 L hL) (dataCon_ok (fnF_valid mixedT kc109 176 _ _ LF) hL)
theorem kc177 : HC (envT Tryz.prog 0) (C177 Tryz.prog LF) := fun L hL => extC_ok (kc176 L hL) (dataCon_ok (fnF_valid mixedT kc176 177 _ _ LF) hL)
theorem kc108 : HC (envT Tryz.prog 0) (C108 Tryz.prog LF) := fun L hL => extC_ok (kc177 L hL) (dataCon_ok (fnF_valid mixedT kc177 108 _ _ LF) hL)
theorem kc120 : HC (envT Tryz.prog 0) (C120 Tryz.prog LF) := fun L hL => extC_ok (kc108 L hL) (dataCon_ok (fnF_valid mixedT kc108 120 _ _ LF) hL)
theorem kc119 : HC (envT Tryz.prog 0) (C119 Tryz.prog LF) := fun L hL => extC_ok (kc120 L hL) (dataCon_ok (fnF_valid mixedT kc120 119 _ _ LF) hL)
theorem kc32 : HC (envT Tryz.prog 0) (C32 Tryz.prog LF) := fun L hL => extC_ok (kc119 L hL) (dataCon_ok (fnF_valid mixedT kc119 32 _ _ LF) hL)
theorem kc33 : HC (envT Tryz.prog 0) (C33 Tryz.prog LF) := fun L hL => extC_ok (kc32 L hL) (dataCon_ok (fnF_valid mixedT kc32 33 _ _ LF) hL)
theorem kc107 : HC (envT Tryz.prog 0) (C107 Tryz.prog LF) := fun L hL => extC_ok (kc33 L hL) (dataCon_ok (fnF_valid mixedT kc33 107 _ _ LF) hL)
theorem kc56 : HC (envT Tryz.prog 0) (C56 Tryz.prog LF) := fun L hL => extC_ok (kc107 L hL) (dataCon_ok (fnF_valid mixedT kc107 56 _ _ LF) hL)
theorem kc57 : HC (envT Tryz.prog 0) (C57 Tryz.prog LF) := fun L hL => extC_ok (kc56 L hL) (dataCon_ok (fnF_valid mixedT kc56 57 _ _ LF) hL)
theorem kc40 : HC (envT Tryz.prog 0) (C40 Tryz.prog LF) := fun L hL => extC_ok (kc57 L hL) (dataCon_ok (fnF_valid mixedT kc57 40 _ _ LF) hL)
theorem kc28 : HC (envT Tryz.prog 0) (C28 Tryz.prog LF) := fun L hL => extC_ok (kc40 L hL) (dataCon_ok (fnF_valid mixedT kc40 28 _ _ LF) hL)
theorem kc148 : HC (envT Tryz.prog 0) (C148 Tryz.prog LF) := fun L hL => extC_ok (kc28 L hL) (dataCon_ok (fnF_valid mixedT kc28 148 _ _ LF) hL)
theorem kc149 : HC (envT Tryz.prog 0) (C149 Tryz.prog LF) := fun L hL => extC_ok (kc148 L hL) (dataCon_ok (fnF_valid mixedT kc148 149 _ _ LF) hL)
theorem kc27 : HC (envT Tryz.prog 0) (C27 Tryz.prog LF) := fun L hL => extC_ok (kc149 L hL) (dataCon_ok (fnF_valid mixedT kc149 27 _ _ LF) hL)
theorem kc150 : HC (envT Tryz.prog 0) (C150 Tryz.prog LF) := fun L hL => extC_ok (kc27 L hL) (dataCon_ok (fnF_valid mixedT kc27 150 _ _ LF) hL)
theorem kc142 : HC (envT Tryz.prog 0) (C142 Tryz.prog LF) := fun L hL => extC_ok (kc150 L hL) (dataCon_ok (fnF_valid mixedT kc150 142 _ _ LF) hL)
theorem kc145 : HC (envT Tryz.prog 0) (C145 Tryz.prog LF) := fun L hL => extC_ok (kc142 L hL) (dataCon_ok (fnF_valid mixedT kc142 145 _ _ LF) hL)
theorem kc83 : HC (envT Tryz.prog 0) (C83 Tryz.prog LF) := fun L hL => extC_ok (kc145 L hL) (dataCon_ok (fnF_valid mixedT kc145 83 _ _ LF) hL)
theorem kc129 : HC (envT Tryz.prog 0) (C129 Tryz.prog LF) := fun L hL => extC_ok (kc83 L hL) (dataCon_ok (fnF_valid mixedT kc83 129 _ _ LF) hL)
theorem kc156 : HC (envT Tryz.prog 0) (C156 Tryz.prog LF) := fun L hL => extC_ok (kc129 L hL) (dataCon_ok (fnF_valid mixedT kc129 156 _ _ LF) hL)
theorem kc43 : HC (envT Tryz.prog 0) (C43 Tryz.prog LF) := fun L hL => extC_ok (kc156 L hL) (dataCon_ok (fnF_valid mixedT kc156 43 _ _ LF) hL)
theorem kc39 : HC (envT Tryz.prog 0) (C39 Tryz.prog LF) := fun L hL => extC_ok (kc43 L hL) (dataCon_ok (fnF_valid mixedT kc43 39 _ _ LF) hL)
theorem kc25 : HC (envT Tryz.prog 0) (C25 Tryz.prog LF) := fun L hL => extC_ok (kc39 L hL) (dataCon_ok (fnF_valid mixedT kc39 25 _ _ LF) hL)
theorem kc45 : HC (envT Tryz.prog 0) (C45 Tryz.prog LF) := fun L hL => extC_ok (kc25 L hL) (dataCon_ok (fnF_valid mixedT kc25 45 _ _ LF) hL)
theorem kc21 : HC (envT Tryz.prog 0) (C21 Tryz.prog LF) := fun L hL => extC_ok (kc45 L hL) (dataCon_ok (fnF_valid mixedT kc45 21 _ _ LF) hL)
theorem kc82 : HC (envT Tryz.prog 0) (C82 Tryz.prog LF) := fun L hL => extC_ok (kc21 L hL) (dataCon_ok (fnF_valid mixedT kc21 82 _ _ LF) hL)
theorem kcD26 : HC (envT Tryz.prog 0) (D26 Tryz.prog LF) := fun L hL => extC_ok (kc82 L hL) (dataCon_ok (fnF_valid mixedT kc57 26 _ _ LF) hL)
theorem kc151 : HC (envT Tryz.prog 0) (C151 Tryz.prog LF) := fun L hL => extC_ok (kcD26 L hL) (dataCon_ok (fnF_valid mixedT kcD26 151 _ _ LF) hL)
theorem kc70 : HC (envT Tryz.prog 0) (C70 Tryz.prog LF) := fun L hL => extC_ok (kc151 L hL) (dataCon_ok (fnF_valid mixedT kc151 70 _ _ LF) hL)
theorem kc77 : HC (envT Tryz.prog 0) (C77 Tryz.prog LF) := fun L hL => extC_ok (kc70 L hL) (dataCon_ok (fnF_valid mixedT kc70 77 _ _ LF) hL)
theorem kc79 : HC (envT Tryz.prog 0) (C79 Tryz.prog LF) := fun L hL => extC_ok (kc77 L hL) (dataCon_ok (fnF_valid mixedT kc77 79 _ _ LF) hL)
theorem kc81 : HC (envT Tryz.prog 0) (C81 Tryz.prog LF) := fun L hL => extC_ok (kc79 L hL) (dataCon_ok (fnF_valid mixedT kc79 81 _ _ LF) hL)
theorem kc66 : HC (envT Tryz.prog 0) (C66 Tryz.prog LF) := fun L hL => extC_ok (kc81 L hL) (dataCon_ok (fnF_valid mixedT kc81 66 _ _ LF) hL)
theorem kc143 : HC (envT Tryz.prog 0) (C143 Tryz.prog LF) := fun L hL => extC_ok (kc66 L hL) (dataCon_ok (fnF_valid mixedT kc66 143 _ _ LF) hL)
theorem kc58 : HC (envT Tryz.prog 0) (C58 Tryz.prog LF) := fun L hL => extC_ok (kc143 L hL) (dataCon_ok (fnF_valid mixedT kc143 58 _ _ LF) hL)
theorem kc63 : HC (envT Tryz.prog 0) (C63 Tryz.prog LF) := fun L hL => extC_ok (kc58 L hL) (dataCon_ok (fnF_valid mixedT kc58 63 _ _ LF) hL)
theorem kc144 : HC (envT Tryz.prog 0) (C144 Tryz.prog LF) := fun L hL => extC_ok (kc63 L hL) (dataCon_ok (fnF_valid mixedT kc63 144 _ _ LF) hL)
theorem kc60 : HC (envT Tryz.prog 0) (C60 Tryz.prog LF) := fun L hL => extC_ok (kc144 L hL) (dataCon_ok (fnF_valid mixedT kc144 60 _ _ LF) hL)
theorem kc59 : HC (envT Tryz.prog 0) (C59 Tryz.prog LF) := fun L hL => extC_ok (kc60 L hL) (dataCon_ok (fnF_valid mixedT kc60 59 _ _ LF) hL)
theorem kc64 : HC (envT Tryz.prog 0) (C64 Tryz.prog LF) := fun L hL => extC_ok (kc59 L hL) (dataCon_ok (fnF_valid mixedT kc59 64 _ _ LF) hL)
theorem kc74 : HC (envT Tryz.prog 0) (C74 Tryz.prog LF) := fun L hL => extC_ok (kc64 L hL) (dataCon_ok (fnF_valid mixedT kc64 74 _ _ LF) hL)
theorem kc75 : HC (envT Tryz.prog 0) (C75 Tryz.prog LF) := fun L hL => extC_ok (kc74 L hL) (dataCon_ok (fnF_valid mixedT kc74 75 _ _ LF) hL)
theorem kc76 : HC (envT Tryz.prog 0) (C76 Tryz.prog LF) := fun L hL => extC_ok (kc75 L hL) (dataCon_ok (fnF_valid mixedT kc75 76 _ _ LF) hL)
theorem kc65 : HC (envT Tryz.prog 0) (C65 Tryz.prog LF) := fun L hL => extC_ok (kc76 L hL) (dataCon_ok (fnF_valid mixedT kc76 65 _ _ LF) hL)
theorem kc67 : HC (envT Tryz.prog 0) (C67 Tryz.prog LF) := fun L hL => extC_ok (kc65 L hL) (dataCon_ok (fnF_valid mixedT kc65 67 _ _ LF) hL)
theorem kc78 : HC (envT Tryz.prog 0) (C78 Tryz.prog LF) := fun L hL => extC_ok (kc67 L hL) (dataCon_ok (fnF_valid mixedT kc67 78 _ _ LF) hL)
theorem kc80 : HC (envT Tryz.prog 0) (C80 Tryz.prog LF) := fun L hL => extC_ok (kc78 L hL) (dataCon_ok (fnF_valid mixedT kc78 80 _ _ LF) hL)
theorem kc42 : HC (envT Tryz.prog 0) (C42 Tryz.prog LF) := fun L hL => extC_ok (kc80 L hL) (dataCon_ok (fnF_valid mixedT kc80 42 _ _ LF) hL)
theorem kc46 : HC (envT Tryz.prog 0) (C46 Tryz.prog LF) := fun L hL => extC_ok (kc42 L hL) (dataCon_ok (fnF_valid mixedT kc42 46 _ _ LF) hL)
theorem kc48 : HC (envT Tryz.prog 0) (C48 Tryz.prog LF) := fun L hL => extC_ok (kc46 L hL) (dataCon_ok (fnF_valid mixedT kc46 48 _ _ LF) hL)
theorem kc44 : HC (envT Tryz.prog 0) (C44 Tryz.prog LF) := fun L hL => extC_ok (kc48 L hL) (dataCon_ok (fnF_valid mixedT kc48 44 _ _ LF) hL)
theorem kc55 : HC (envT Tryz.prog 0) (C55 Tryz.prog LF) := fun L hL => extC_ok (kc44 L hL) (dataCon_ok (fnF_valid mixedT kc44 55 _ _ LF) hL)
theorem kc73 : HC (envT Tryz.prog 0) (C73 Tryz.prog LF) := fun L hL => extC_ok (kc55 L hL) (dataCon_ok (fnF_valid mixedT kc55 73 _ _ LF) hL)
theorem kc4 : HC (envT Tryz.prog 0) (C4 Tryz.prog LF) := fun L hL => extC_ok (kc73 L hL) (dataCon_ok (fnF_valid mixedT kc73 4 _ _ LF) hL)
theorem kc9 : HC (envT Tryz.prog 0) (C9 Tryz.prog LF) := fun L hL => extC_ok (kc4 L hL) (dataCon_ok (fnF_valid mixedT kc4 9 _ _ LF) hL)
theorem kc15 : HC (envT Tryz.prog 0) (C15 Tryz.prog LF) := fun L hL => extC_ok (kc9 L hL) (dataCon_ok (fnF_valid mixedT kc9 15 _ _ LF) hL)
theorem kc12 : HC (envT Tryz.prog 0) (C12 Tryz.prog LF) := fun L hL => extC_ok (kc15 L hL) (dataCon_ok (fnF_valid mixedT kc15 12 _ _ LF) hL)
theorem kc7 : HC (envT Tryz.prog 0) (C7 Tryz.prog LF) := fun L hL => extC_ok (kc12 L hL) (dataCon_ok (fnF_valid mixedT kc12 7 _ _ LF) hL)
theorem kc16 : HC (envT Tryz.prog 0) (C16 Tryz.prog LF) := fun L hL => extC_ok (kc7 L hL) (dataCon_ok (fnF_valid mixedT kc7 16 _ _ LF) hL)
theorem kc54 : HC (envT Tryz.prog 0) (C54 Tryz.prog LF) := fun L hL => extC_ok (kc16 L hL) (dataCon_ok (fnF_valid mixedT kc16 54 _ _ LF) hL)
theorem kc53 : HC (envT Tryz.prog 0) (C53 Tryz.prog LF) := fun L hL => extC_ok (kc54 L hL) (dataCon_ok (fnF_valid mixedT kc54 53 _ _ LF) hL)
theorem kc210 : HC (envT Tryz.prog 0) (C210 Tryz.prog LF) := fun L hL => extC_ok (kc53 L hL) (dataCon_ok (fnF_valid mixedT kc53 210 _ _ LF) hL)
theorem kc211 : HC (envT Tryz.prog 0) (C211 Tryz.prog LF) := fun L hL => extC_ok (kc210 L hL) (dataCon_ok (fnF_valid mixedT kc210 211 _ _ LF) hL)
theorem kc212 : HC (envT Tryz.prog 0) (C212 Tryz.prog LF) := fun L hL => extC_ok (kc211 L hL) (dataCon_ok (fnF_valid mixedT kc211 212 _ _ LF) hL)
theorem kc153 : HC (envT Tryz.prog 0) (C153 Tryz.prog LF) := fun L hL => extC_ok (kc212 L hL) (dataCon_ok (fnF_valid mixedT kc212 153 _ _ LF) hL)
theorem kc71 : HC (envT Tryz.prog 0) (C71 Tryz.prog LF) := fun L hL => extC_ok (kc153 L hL) (dataCon_ok (fnF_valid mixedT kc153 71 _ _ LF) hL)
theorem kc213 : HC (envT Tryz.prog 0) (C213 Tryz.prog LF) := fun L hL => extC_ok (kc71 L hL) (dataCon_ok (fnF_valid mixedT kc71 213 _ _ LF) hL)
theorem kc155 : HC (envT Tryz.prog 0) (C155 Tryz.prog LF) := fun L hL => extC_ok (kc213 L hL) (dataCon_ok (fnF_valid mixedT kc213 155 _ _ LF) hL)
theorem kc72 : HC (envT Tryz.prog 0) (C72 Tryz.prog LF) := fun L hL => extC_ok (kc155 L hL) (dataCon_ok (fnF_valid mixedT kc155 72 _ _ LF) hL)
end Go.K
set_option linter.unusedVariables false
namespace Go.Sx
open Go.Sl Go.RowKit Go.ChangeShapes
def I64 (n : Int) : Prop := -9223372036854775808 ≤ n ∧ n ≤ 9223372036854775807
def Opens {α : Type} (P : Program) (t : TypeId) (T : Ty α) (ok : α → Prop) : Prop :=
  ∀ (H : Type) (enc : TypeId × Value → H) (W : World) (fuel : Nat) (cs : List Value) (d : DataW H × List MemPlace),
    DataW.trod enc P W 0 (fun _ => true) true fuel t cs = some d → ∃ x, T.rep (Zone.all W) cs x ∧ ok x
theorem mapM_mem {α β : Type} {f : α → Option β} : ∀ {l : List α} {ys : List β}, l.mapM f = some ys → ∀ a ∈ l, ∃ y, f a = some y
  | [], _, _, a, ha => by cases ha
  | x :: l, ys, h, a, ha => by
    rw [List.mapM_cons] at h
    cases hx : f x with
    | none => rw [hx] at h; simp at h
    | some y =>
      rw [hx] at h
      simp only [Option.pure_def, Option.bind_eq_bind, Option.bind_some] at h
      cases hl : l.mapM f with
      | none => rw [hl] at h; simp at h
      | some zs =>
        rcases List.mem_cons.1 ha with e | e
        · subst e; exact ⟨y, hx⟩
        · exact mapM_mem hl a e
section
variable {H : Type} {enc : TypeId × Value → H} {P : Program} {W : World} {fuel : Nat} {t : TypeId} {cs : List Value} {d : DataW H × List MemPlace}
theorem trod_fields {fs : Array Field} (ht : P.underlying t = some (.struct fs)) (h : DataW.trod enc P W 0 (fun _ => true) true fuel t cs = some d) :
    cs.length = P.cellsOf t ∧ ∃ n, ∀ f ∈ fs.toList, ∃ y, DataW.trod enc P W 0 (fun _ => true) true n f.type ((cs.drop f.offset).take (P.cellsOf f.type)) = some y := by
  cases fuel with
  | zero => simp [DataW.trod] at h
  | succ n =>
    simp only [DataW.trod, ht] at h
    by_cases hl : cs.length = P.cellsOf t
    · rw [if_pos hl] at h
      refine ⟨hl, n, fun f hf => ?_⟩
      cases hm : fs.toList.mapM fun f => DataW.trod enc P W 0 (fun _ => true) true n f.type ((cs.drop f.offset).take (P.cellsOf f.type)) with
      | none => rw [hm] at h; simp at h
      | some ys => exact mapM_mem hm f hf
    · rw [if_neg hl] at h; cases h
theorem trod_items {m : Nat} {e : TypeId} (ht : P.underlying t = some (.array m e)) (h : DataW.trod enc P W 0 (fun _ => true) true fuel t cs = some d) :
    cs.length = P.cellsOf t ∧ ∃ n, ∀ i, i < m → ∃ y, DataW.trod enc P W 0 (fun _ => true) true n e ((cs.drop (i * P.cellsOf e)).take (P.cellsOf e)) = some y := by
  cases fuel with
  | zero => simp [DataW.trod] at h
  | succ n =>
    simp only [DataW.trod, ht] at h
    by_cases hl : cs.length = P.cellsOf t
    · rw [if_pos hl] at h
      refine ⟨hl, n, fun i hi => ?_⟩
      cases hm : (List.range m).mapM fun i => DataW.trod enc P W 0 (fun _ => true) true n e ((cs.drop (i * P.cellsOf e)).take (P.cellsOf e)) with
      | none => rw [hm] at h; simp at h
      | some ys => exact mapM_mem hm i (List.mem_range.2 hi)
    · rw [if_neg hl] at h; cases h
end
theorem wf_I64 {n : Int} (h : (Lit.int .i64 n).wf = true) : I64 n := by
  have e1 : IntKind.i64.min = -9223372036854775808 := by decide
  have e2 : IntKind.i64.max = 9223372036854775807 := by decide
  simp only [Lit.wf, e1, e2, Bool.and_eq_true, decide_eq_true_eq] at h
  exact h
theorem opens_slice {α : Type} {P : Program} {t e : TypeId} {T : Ty α} {ok : α → Prop} (ht : P.underlying t = some (.slice e)) (he : P.cellsOf e = T.size) (h : Opens P e T ok) : Opens P t (Ty.slice T) (fun xs => (∀ x ∈ xs, ok x) ∧ xs.length ≤ maxLen) := fun H enc W fuel cs d hd => by
  rcases Go.Deep.open_slice ht hd with ⟨rfl, _⟩ | ⟨a, len, cap, m, n, D, Pl, rfl, _, hl, hm, hmm, _, hx⟩
  · exact ⟨[], ⟨none, 0, rfl, SliceR.nil' T _⟩, ⟨(fun _ h => by cases h), by simp⟩⟩
  · simp only [if_true] at hmm
    have hall : ∀ i, i < len → ∃ x, (∃ c, T.rep (Zone.all W) c x ∧ ∀ j v, c[j]? = some v → (Zone.all W).cell? ((a.add (i * T.size)).add j) = some v) ∧ ok x := fun i hi => by
      obtain ⟨cs', h1, h2⟩ := hx i (by omega)
      obtain ⟨x, hr, ho⟩ := h H enc W n cs' _ h2
      refine ⟨x, ⟨cs', hr, fun j v hj => ?_⟩, ho⟩
      rw [he] at h1
      obtain ⟨_, hlen, hc⟩ := World.cells?_some h1
      have hlt : j < cs'.length := (List.getElem?_eq_some_iff.1 hj).1
      exact (hc j (by omega)).trans hj
    have key : ∀ k, k ≤ len → ∃ xs : List α, xs.length = k ∧ (∀ x ∈ xs, ok x) ∧ ∀ i x, xs[i]? = some x → ∃ c, T.rep (Zone.all W) c x ∧ ∀ j v, c[j]? = some v → (Zone.all W).cell? ((a.add (i * T.size)).add j) = some v := by
      intro k
      induction k with
      | zero => exact fun _ => ⟨[], rfl, (fun _ h => by cases h), (fun i x h => by simp at h)⟩
      | succ k ih =>
        intro hk
        obtain ⟨xs, h1, h2, h3⟩ := ih (by omega)
        obtain ⟨x, hx1, hx2⟩ := hall k (by omega)
        refine ⟨xs ++ [x], by simp [h1], fun y hy => ?_, fun i y hy => ?_⟩
        · rcases List.mem_append.1 hy with e | e
          · exact h2 y e
          · simp only [List.mem_singleton] at e; exact e ▸ hx2
        · rw [List.getElem?_append] at hy
          split at hy
          · exact h3 i y hy
          · rename_i hge
            have : i - xs.length = 0 := by
              have := (List.getElem?_eq_some_iff.1 hy).1
              simp at this; omega
            rw [this] at hy
            simp only [List.getElem?_cons_zero, Option.some.injEq] at hy
            subst hy
            have : i = k := by omega
            subst this
            exact hx1
    obtain ⟨xs, h1, h2, h3⟩ := key len (Nat.le_refl _)
    refine ⟨xs, ⟨some a, cap, by rw [h1], ⟨by omega, hm, (fun e => by cases e), fun b e i x hi => ?_⟩⟩, ⟨h2, by omega⟩⟩
    cases e
    exact h3 i x hi
section
variable {H : Type} {enc : TypeId × Value → H} {P : Program} {W : World} {base : Nat} {t : TypeId} {v : Value} {d : DataW H} {ps : List MemPlace}
theorem arg_agg {α : Type} {T : Ty α} {ok : α → Prop} (hs : (match P.underlying t with | some (.struct _) => true | some (.array _ _) => true | _ => false) = true) (hv : Value.okWide P W .any base t v) (h : DataW.Trod enc P W 0 (fun _ => true) true t v d ps) (ho : Opens P t T ok) :
    ∃ cs x, v = .agg cs.toArray ∧ T.rep (Zone.all W) cs x ∧ ok x := by
  obtain ⟨fuel, hf⟩ := h
  obtain ⟨x, hx, hok⟩ := ho H enc W fuel _ _ hf
  have : ∃ cs, v = .agg cs := by
    unfold Value.okWide at hv
    split at hs
    · rename_i fs ht; rw [ht] at hv; obtain ⟨cs, e, _⟩ := hv; exact ⟨cs, e⟩
    · rename_i m e ht; rw [ht] at hv; obtain ⟨cs, e, _⟩ := hv; exact ⟨cs, e⟩
    · cases hs
  obtain ⟨cs, rfl⟩ := this
  exact ⟨cs.toList, x, rfl, hx, hok⟩
theorem arg_int (ht : P.underlying t = some (.int .i64)) (hv : Value.okWide P W .any base t v) (h : DataW.Trod enc P W 0 (fun _ => true) true t v d ps) : ∃ n, v = .int .i64 n ∧ I64 n := by
  obtain ⟨n, rfl, _, _, hw⟩ := open_int ht hv h
  exact ⟨n, rfl, wf_I64 hw⟩
theorem trodAll_stays (hl : laidOutB P = true) {W' : World} (hb : Below W.heap.size W W') : ∀ {ts : List TypeId} {vs : List Value} {ds : List (DataW H)} {ps : List MemPlace}, (ts.all fun t => P.readableRec t && Nat.blt t P.types.size) = true →
    DataW.TrodAll enc P W 0 (fun _ => true) true ts vs ds ps → (∀ p ∈ ps, p.block < W.heap.size) → DataW.TrodAll enc P W' 0 (fun b => decide (b < W.heap.size)) true ts vs ds ps
  | [], [], [], _, _, h, _ => h
  | t :: ts, v :: vs, d :: ds, _, hr, ⟨p, q, h1, h2, e⟩, hlt => by
    simp only [List.all_cons, Bool.and_eq_true, Nat.blt_eq] at hr
    subst e
    exact ⟨p, q, Below.trod hl hr.1.1 hr.1.2 h1 hb (fun x hx => hlt x (List.mem_append_left _ hx)), trodAll_stays hl hb hr.2 h2 (fun x hx => hlt x (List.mem_append_right _ hx)), rfl⟩
  | [], _ :: _, _, _, _, h, _ => h.elim
  | [], [], _ :: _, _, _, h, _ => h.elim
  | _ :: _, [], _, _, _, h, _ => h.elim
  | _ :: _, _ :: _, [], _, _, h, _ => h.elim
theorem post_true {f : Func} {s : ChangeSpec} {args : Array Value} {ds : List (DataW H)} {before : List MemPlace} {apart : Bool} {W' : World} {tb : TypeId} (hl : laidOutB P = true) (hvars : s.vars = []) (hr : (f.params.toList.all fun t => P.readableRec t && Nat.blt t P.types.size) = true)
    (hres : f.resultTypes = #[tb]) (hu : P.underlying tb = some .bool) (hW : DataW.Whole enc P f.params.toList s.vars apart W args.toList ds [] before) (hb : Below W.heap.size W W') (hs : s.fn H (ds ++ []) = { results := [.lit (.bool true)], args := ds }) :
    s.post enc P f apart true false false W args (.bool true) W' := by
  have hlt := hW.lt
  have hW0 := hW
  obtain ⟨p, q, hA, hV, rfl, _, _⟩ := hW
  rw [hvars] at hV
  obtain ⟨_, rfl⟩ := trodVars_none hV
  refine ⟨ds, [], p ++ [], [], p, [], hW0, ?_, ?_, ?_, hb.frame _, fun h => by cases h⟩
  · rw [hs, hres]; exact trodAll_mk1 (shut_bool hu true)
  · rw [hs]; exact trodAll_stays hl hb hr hA (fun x hx => hlt x (by simpa using hx))
  · rw [hs, hvars]; rfl
end
end Go.Sx
namespace Go.Sx
structure A2 where
  a0 : Int
  a1 : Int
  deriving DecidableEq
structure A3 where
  a0 : Int
  a1 : Int
  a2 : Int
  deriving DecidableEq
end Go.Sx
set_option linter.unusedVariables false
namespace Go.Sx
open Go.Sl Go.RowKit Go.ChangeShapes Go.Proofs
variable {H : Type} {enc : TypeId × Value → H}
theorem env_of {P : Program} {W : World} {g : Nat} (h1 : Lib.TabIs P W "internal/strconv.uint64pow10" .u64 Lib.pow10Tab) (h2 : ∃ m, W.cell? ⟨g, 0, none⟩ = some (.int .i64 m)) : Sx.Env P g (Zone.all W) := by
  refine ⟨fun L w hS => ?_, ?_⟩
  · have hle := hS.whole
    unfold Lib.TabIs World.var? at h1 ⊢
    cases hg : P.globalNamed "internal/strconv.uint64pow10" with
    | none => rw [hg] at h1; cases h1
    | some b =>
      rw [hg] at h1
      simp only [Option.bind_some] at h1 ⊢
      cases hb : W.heap[b]? with
      | none => rw [hb] at h1; cases h1
      | some o =>
        have hb' : w.heap[b]? = some o := hle.blk b o hb
        rw [hb'] ; rw [hb] at h1; exact h1
  · obtain ⟨m, hm⟩ := h2
    exact ⟨m, hm⟩
end Go.Sx
set_option linter.unusedVariables false
namespace Go.K
open Go.Sl Go.Sx Go.RowKit Go.ChangeShapes Go.Proofs
def opF (P : Program) (rec : TypeId → TC → Bool) : List Field → Nat → TC → Bool
  | [f], off, u => Nat.beq f.offset off && (Nat.beq (P.cellsOf f.type) u.size && rec f.type u)
  | f :: g :: r, off, .pair a b => (Nat.beq f.offset off && (Nat.beq (P.cellsOf f.type) a.size && rec f.type a)) && opF P rec (g :: r) (off + a.size) b
  | _, _, _ => false
def opA (rec : TypeId → TC → Bool) (e : TypeId) (k : Nat) : Nat → TC → Bool
  | 1, u => Nat.beq k u.size && rec e u
  | n + 2, .pair a b => (Nat.beq k a.size && rec e a) && opA rec e k (n + 1) b
  | _, _ => false
def opB (P : Program) : Nat → TypeId → TC → Bool
  | 0, _, _ => false
  | n + 1, t, u => match P.underlying t with
    | some (.int .i64) => (match u with | .int .i64 => true | _ => false)
    | some .string => (match u with | .str => true | _ => false)
    | some (.slice e) => (match u with | .sl v => Nat.beq (P.cellsOf e) v.size && opB P n e v | _ => false)
    | some (.struct fs) => Nat.beq (P.cellsOf t) u.size && opF P (opB P n) fs.toList 0 u
    | some (.array m e) => Nat.beq (P.cellsOf t) u.size && opA (opB P n) e (P.cellsOf e) m u
    | _ => false
theorem opB_ok {P : Program} : ∀ (n : Nat) {t : TypeId} {u : TC}, opB P n t u = true → Opens P t u.ty (fun _ => True)
  | 0, _, _, h => by cases h
  | n + 1, t, u, h => by
    unfold opB at h
    split at h
    · rename_i ht
      split at h
      · intro H enc W fuel cs d hd
        obtain ⟨m, rfl, _, _⟩ := DataW.trod_int ht hd
        exact ⟨m, rfl, trivial⟩
      · cases h
    · rename_i ht
      split at h
      · intro H enc W fuel cs d hd
        obtain ⟨s, rfl, _, _⟩ := DataW.trod_string ht hd
        exact ⟨s, rfl, trivial⟩
      · cases h
    · rename_i e ht
      split at h
      · rename_i v
        simp only [Bool.and_eq_true, Nat.beq_eq] at h
        intro H enc W fuel cs d hd
        obtain ⟨x, hx, _⟩ := opens_slice ht (h.1.trans v.size_eq.symm) (opB_ok n h.2) H enc W fuel cs d hd
        exact ⟨x, hx, trivial⟩
      · cases h
    · rename_i fs ht
      simp only [Bool.and_eq_true, Nat.beq_eq] at h
      obtain ⟨h0, h1⟩ := h
      intro H enc W fuel cs d hd
      obtain ⟨hl, k, hx⟩ := trod_fields ht hd
      have key : ∀ (l : List Field) (off : Nat) (u : TC), (∀ f ∈ l, f ∈ fs.toList) → opF P (opB P n) l off u = true → cs.length = off + u.size → ∃ x, u.ty.rep (Zone.all W) (cs.drop off) x := by
        intro l
        induction l with
        | nil => intro off u _ hh _; simp [opF] at hh
        | cons f r ih =>
          intro off u hsub hh hlen
          cases r with
          | nil =>
            simp only [opF, Bool.and_eq_true, Nat.beq_eq] at hh
            obtain ⟨e1, e2, e3⟩ := hh
            obtain ⟨y, hy⟩ := hx f (hsub f (List.mem_cons_self ..))
            rw [e1, e2, List.take_of_length_le (by rw [List.length_drop]; omega)] at hy
            obtain ⟨x, hx', _⟩ := opB_ok n e3 H enc W k _ y hy
            exact ⟨x, hx'⟩
          | cons g r =>
            cases u with
            | pair a b =>
              simp only [opF, Bool.and_eq_true, Nat.beq_eq] at hh
              obtain ⟨⟨e1, e2, e3⟩, e4⟩ := hh
              simp only [TC.size] at hlen
              obtain ⟨y, hy⟩ := hx f (hsub f (List.mem_cons_self ..))
              rw [e1, e2] at hy
              obtain ⟨x1, r1, _⟩ := opB_ok n e3 H enc W k _ y hy
              obtain ⟨x2, r2⟩ := ih (off + a.size) b (fun q hq => hsub q (List.mem_cons_of_mem _ hq)) e4 (by omega)
              refine ⟨(x1, x2), (cs.drop off).take a.size, cs.drop (off + a.size), ?_, r1, r2⟩
              rw [← List.drop_drop, List.take_append_drop]
            | _ => simp [opF] at hh
      obtain ⟨x, hx'⟩ := key fs.toList 0 u (fun _ h => h) h1 (by omega)
      exact ⟨x, by simpa using hx', trivial⟩
    · rename_i m e ht
      simp only [Bool.and_eq_true, Nat.beq_eq] at h
      obtain ⟨h0, h1⟩ := h
      intro H enc W fuel cs d hd
      obtain ⟨hl, k, hx⟩ := trod_items ht hd
      have key : ∀ (q i : Nat) (u : TC), i + q = m → opA (opB P n) e (P.cellsOf e) q u = true → cs.length = i * P.cellsOf e + u.size → ∃ x, u.ty.rep (Zone.all W) (cs.drop (i * P.cellsOf e)) x := by
        intro q
        induction q with
        | zero => intro i u _ hh _; simp [opA] at hh
        | succ q ih =>
          intro i u hq hh hlen
          cases q with
          | zero =>
            simp only [opA, Bool.and_eq_true, Nat.beq_eq] at hh
            obtain ⟨y, hy⟩ := hx i (by omega)
            rw [List.take_of_length_le (by rw [List.length_drop]; omega)] at hy
            obtain ⟨x, hx', _⟩ := opB_ok n hh.2 H enc W k _ y hy
            exact ⟨x, hx'⟩
          | succ q =>
            cases u with
            | pair a b =>
              simp only [opA, Bool.and_eq_true, Nat.beq_eq] at hh
              obtain ⟨⟨e2, e3⟩, e4⟩ := hh
              simp only [TC.size] at hlen
              obtain ⟨y, hy⟩ := hx i (by omega)
              obtain ⟨x1, r1, _⟩ := opB_ok n e3 H enc W k _ y hy
              obtain ⟨x2, r2⟩ := ih (i + 1) b (by omega) e4 (by rw [Nat.add_mul]; omega)
              refine ⟨(x1, x2), (cs.drop (i * P.cellsOf e)).take (P.cellsOf e), cs.drop ((i + 1) * P.cellsOf e), ?_, r1, r2⟩
              rw [Nat.add_mul, Nat.one_mul, ← List.drop_drop, List.take_append_drop]
            | _ => simp [opA] at hh
      obtain ⟨x, hx'⟩ := key m 0 u (by omega) h1 (by omega)
      exact ⟨x, by simpa using hx', trivial⟩
    · cases h
section
variable {H : Type} {enc : TypeId × Value → H} {P : Program} {W : World} {base : Nat} {t : TypeId} {v : Value} {d : DataW H} {ps : List MemPlace}
theorem oA {u : TC} (hs : (match P.underlying t with | some (.struct _) => true | some (.array _ _) => true | _ => false) = true) (hb : opB P 12 t u = true) (hv : Value.okWide P W .any base t v) (h : DataW.Trod enc P W 0 (fun _ => true) true t v d ps) : ∃ x : u.den, repA (Zone.all W) (true, u) v x := by
  obtain ⟨cs, x, rfl, hr, _⟩ := arg_agg hs hv h (opB_ok 12 hb)
  exact ⟨x, .inl ⟨rfl, cs, rfl, hr⟩⟩
theorem oI (ht : P.underlying t = some (.int .i64)) (hv : Value.okWide P W .any base t v) (h : DataW.Trod enc P W 0 (fun _ => true) true t v d ps) : ∃ x : Int, repA (Zone.all W) (false, .i) v x ∧ I64 x := by
  obtain ⟨x, rfl, hl⟩ := arg_int ht hv h
  exact ⟨x, .inr ⟨rfl, rfl⟩, hl⟩
end
end Go.K
set_option linter.unusedVariables false
set_option linter.unusedSimpArgs false
namespace Go.K
open Go.Sl Go.Sx Go.RowKit Go.ChangeShapes Go.Proofs
def SzOk : (u : TC) → u.den → Prop
  | .sl v, xs => xs.length * bytN v ≤ 140737488355328 ∧ ∀ y ∈ xs, SzOk v y
  | .nsl v, xs => xs.length * bytN v ≤ 140737488355328 ∧ ∀ y ∈ xs, SzOk v y
  | .pair a b, x => SzOk a x.1 ∧ SzOk b x.2
  | .str, s => s.size ≤ 140737488355328
  | .int _, _ => True | .bool, _ => True | .unit, _ => True | .mpc _, _ => True
def szB (P : Program) : Nat → TypeId → TC → Bool
  | 0, _, _ => false
  | n + 1, t, u => match P.underlying t with
    | some (.int .i64) => (match u with | .int .i64 => true | _ => false)
    | some .string => (match u with | .str => true | _ => false)
    | some (.slice e) => (match u with | .sl v => Nat.beq (P.cellsOf e) v.size && (Nat.ble (bytN v) (P.bytesOf e) && szB P n e v) | _ => false)
    | some (.struct fs) => Nat.beq (P.cellsOf t) u.size && opF P (szB P n) fs.toList 0 u
    | some (.array m e) => Nat.beq (P.cellsOf t) u.size && opA (szB P n) e (P.cellsOf e) m u
    | _ => false
abbrev lowW {H : Type} (P : Program) (t : TypeId) (d : DataW H) : Prop := ∀ n ∈ d.weights P t, n ≤ reachBytes
theorem mapM_list {α β : Type} {f : α → Option β} : ∀ {l : List α} {ys : List β}, l.mapM f = some ys → l.length = ys.length ∧ ∀ (i : Nat) a, l[i]? = some a → ∃ y, ys[i]? = some y ∧ f a = some y
  | [], ys, h => by
    simp only [List.mapM_nil, Option.pure_def, Option.some.injEq] at h
    subst h
    exact ⟨rfl, fun i a h => by simp at h⟩
  | x :: l, ys, h => by
    rw [List.mapM_cons] at h
    cases hx : f x with
    | none => rw [hx] at h; simp at h
    | some y =>
      rw [hx] at h
      simp only [Option.pure_def, Option.bind_eq_bind, Option.bind_some] at h
      cases hl : l.mapM f with
      | none => rw [hl] at h; simp at h
      | some zs =>
        rw [hl] at h
        simp only [Option.bind_some, Option.some.injEq] at h
        subst h
        obtain ⟨h1, h2⟩ := mapM_list hl
        refine ⟨by simp [h1], fun i a hi => ?_⟩
        cases i with
        | zero => simp at hi; subst hi; exact ⟨y, rfl, hx⟩
        | succ i => simpa using h2 i a (by simpa using hi)
section
variable {H : Type} {enc : TypeId × Value → H} {P : Program} {W : World}
theorem weights_all {e : TypeId} : ∀ {ds : List (DataW H)} {i : Nat} {d : DataW H}, (∀ n ∈ DataW.weightsAll P e ds, n ≤ reachBytes) → ds[i]? = some d → lowW P e d
  | d0 :: ds, 0, d, h, hi => by
    simp only [List.getElem?_cons_zero, Option.some.injEq] at hi
    subst hi
    intro n hn
    refine h n ?_
    simp only [DataW.weightsAll]
    exact List.mem_append_left _ hn
  | d0 :: ds, i + 1, d, h, hi => weights_all (fun n hn => h n (by simp only [DataW.weightsAll]; exact List.mem_append_right _ hn)) (by simpa using hi)
  | [], i, d, h, hi => by simp at hi
theorem weights_each : ∀ {ts : List TypeId} {ds : List (DataW H)} {i : Nat} {t : TypeId} {d : DataW H}, (∀ n ∈ DataW.weightsEach P ts ds, n ≤ reachBytes) → ts[i]? = some t → ds[i]? = some d → lowW P t d
  | t0 :: ts, d0 :: ds, 0, t, d, h, ht, hi => by
    simp only [List.getElem?_cons_zero, Option.some.injEq] at hi ht
    subst hi ht
    intro n hn
    refine h n ?_
    simp only [DataW.weightsEach]
    exact List.mem_append_left _ hn
  | t0 :: ts, d0 :: ds, i + 1, t, d, h, ht, hi => weights_each (fun n hn => h n (by simp only [DataW.weightsEach]; exact List.mem_append_right _ hn)) (by simpa using ht) (by simpa using hi)
  | [], _, i, t, d, h, ht, hi => by simp at ht
  | _ :: _, [], i, t, d, h, ht, hi => by simp at hi
theorem sz_ok : ∀ (n : Nat) {t : TypeId} {u : TC}, szB P n t u = true → ∀ {fuel : Nat} {cs : List Value} {d : DataW H × List MemPlace} {x : u.den}, DataW.trod enc P W 0 (fun _ => true) true fuel t cs = some d → lowW P t d.1 → u.ty.rep (Zone.all W) cs x → SzOk u x
  | 0, _, _, h => by cases h
  | n + 1, t, u, h => by
    intro hd hw hr
    rename_i fuel cs d x
    unfold szB at h
    split at h
    · split at h
      · trivial
      · cases h
    · rename_i ht
      split at h
      · obtain ⟨s, rfl, hs, _⟩ := DataW.trod_string ht hd
        have hx : ([.string s] : List Value) = [.string x] := hr
        simp only [List.cons.injEq, Value.string.injEq, and_true] at hx
        subst hx
        obtain ⟨d1, d2⟩ := d
        simp only [Prod.mk.injEq] at hs
        obtain ⟨rfl, _⟩ := hs
        have := hw s.data.toList.length (by simp [DataW.weights])
        show s.size ≤ 140737488355328
        have e : s.data.toList.length = s.size := by simp
        rw [e] at this
        simp only [reachBytes] at this
        omega
      · cases h
    · rename_i e ht
      split at h
      · rename_i v
        simp only [Bool.and_eq_true, Nat.beq_eq, Nat.ble_eq] at h
        obtain ⟨hc, hb, hrec⟩ := h
        obtain ⟨o, cap, rfl, hs⟩ := hr
        cases fuel with
        | zero => simp [DataW.trod] at hd
        | succ fuel =>
        cases o with
        | none =>
          obtain ⟨rfl, rfl⟩ := hs.hnil rfl
          exact ⟨by simp, fun y hy => by cases hy⟩
        | some a =>
          simp only [DataW.trod, ht] at hd
          split at hd
          · rename_i hcond
            cases hm : (List.range x.length).mapM (fun i => (W.cells? 0 (a.add (i * P.cellsOf e)) (P.cellsOf e)).bind (DataW.trod enc P W 0 (fun _ => true) true fuel e)) with
            | none => rw [hm] at hd; simp at hd
            | some elems =>
              rw [hm] at hd
              simp only [Option.bind_some, if_true] at hd
              cases hm2 : (List.range (cap - x.length)).mapM (fun j => (W.cells? 0 (a.add ((x.length + j) * P.cellsOf e)) (P.cellsOf e)).bind (DataW.trod enc P W 0 (fun _ => true) true fuel e)) with
              | none => rw [hm2] at hd; simp at hd
              | some rest =>
                rw [hm2] at hd
                simp only [Option.map_some, Option.some.injEq] at hd
                subst hd
                obtain ⟨hl1, hl2⟩ := mapM_list hm
                rw [List.length_range] at hl1
                have hw0 : (elems.length + rest.length) * P.bytesOf e ≤ reachBytes := hw _ (by simp [DataW.weights, ht])
                have hwa : ∀ k ∈ DataW.weightsAll P e (elems.map (·.1)), k ≤ reachBytes := fun k hk => hw k (by simp only [DataW.weights, ht]; exact List.mem_cons_of_mem _ (List.mem_append_left _ hk))
                refine ⟨?_, fun y hy => ?_⟩
                · have h1 := Nat.mul_le_mul (show x.length ≤ elems.length + rest.length by omega) hb
                  simp only [reachBytes] at hw0
                  show x.length * bytN v ≤ 140737488355328
                  omega
                · obtain ⟨i, hi, rfl⟩ := List.mem_iff_getElem.1 hy
                  obtain ⟨y', hy1, hy2⟩ := hl2 i i (by simp [hi])
                  have hlow : lowW P e y'.1 := weights_all hwa (i := i) (by rw [List.getElem?_map, hy1]; rfl)
                  cases hcs : W.cells? 0 (a.add (i * P.cellsOf e)) (P.cellsOf e) with
                  | none => rw [hcs] at hy2; simp at hy2
                  | some cs' =>
                    rw [hcs] at hy2
                    simp only [Option.bind_some] at hy2
                    obtain ⟨c, hc1, hc2⟩ := hs.hat a rfl i x[i] (List.getElem?_eq_getElem hi)
                    obtain ⟨_, hlen, hcell⟩ := World.cells?_some hcs
                    have hcl : c.length = v.ty.size := v.ty.len hc1
                    have heq : cs' = c := by
                      apply List.ext_getElem?
                      intro j
                      by_cases hj : j < c.length
                      · have h1 := hc2 j c[j] (List.getElem?_eq_getElem hj)
                        rw [v.size_eq, ← hc] at h1
                        have h2 := hcell j (by rw [hc, ← v.size_eq]; omega)
                        have h3 : W.cell? ((a.add (i * P.cellsOf e)).add j) = some c[j] := h1
                        rw [← h2, h3, List.getElem?_eq_getElem hj]
                      · have hl3 : cs'.length = c.length := by rw [hlen, hc, ← v.size_eq, hcl]
                        rw [List.getElem?_eq_none (show cs'.length ≤ j by omega), List.getElem?_eq_none (show c.length ≤ j by omega)]
                    subst heq
                    exact sz_ok n hrec hy2 hlow hc1
          · cases hd
      · cases h
    · rename_i fs ht
      simp only [Bool.and_eq_true, Nat.beq_eq] at h
      obtain ⟨h0, h1⟩ := h
      obtain ⟨hl, _⟩ := trod_fields ht hd
      cases fuel with
      | zero => simp [DataW.trod] at hd
      | succ fuel =>
        simp only [DataW.trod, ht] at hd
        rw [if_pos hl] at hd
        cases hm : fs.toList.mapM fun f => DataW.trod enc P W 0 (fun _ => true) true fuel f.type ((cs.drop f.offset).take (P.cellsOf f.type)) with
        | none => rw [hm] at hd; simp at hd
        | some ys =>
          rw [hm] at hd
          simp only [Option.map_some, Option.some.injEq] at hd
          subst hd
          obtain ⟨hl1, hl2⟩ := mapM_list hm
          have hwe : ∀ k ∈ DataW.weightsEach P (fs.toList.map (·.type)) (ys.map (·.1)), k ≤ reachBytes := fun k hk => hw k (by simp only [DataW.weights, ht]; exact hk)
          have hf : ∀ f ∈ fs.toList, ∃ y, DataW.trod enc P W 0 (fun _ => true) true fuel f.type ((cs.drop f.offset).take (P.cellsOf f.type)) = some y ∧ lowW P f.type y.1 := fun f hfm => by
            obtain ⟨i, hi, rfl⟩ := List.mem_iff_getElem.1 hfm
            obtain ⟨y, hy1, hy2⟩ := hl2 i _ (List.getElem?_eq_getElem hi)
            exact ⟨y, hy2, weights_each hwe (i := i) (by rw [List.getElem?_map, List.getElem?_eq_getElem hi]; rfl) (by rw [List.getElem?_map, hy1]; rfl)⟩
          have key : ∀ (l : List Field) (off : Nat) (u : TC) (x : u.den), (∀ f ∈ l, f ∈ fs.toList) → opF P (szB P n) l off u = true → cs.length = off + u.size → u.ty.rep (Zone.all W) (cs.drop off) x → SzOk u x := by
            intro l
            induction l with
            | nil => intro off u x _ hh _ _; simp [opF] at hh
            | cons f r ih =>
              intro off u x hsub hh hlen hr
              cases r with
              | nil =>
                simp only [opF, Bool.and_eq_true, Nat.beq_eq] at hh
                obtain ⟨e1, e2, e3⟩ := hh
                obtain ⟨y, hy, hlow⟩ := hf f (hsub f (List.mem_cons_self ..))
                rw [e1, e2, List.take_of_length_le (by rw [List.length_drop]; omega)] at hy
                exact sz_ok n e3 hy hlow hr
              | cons g r =>
                cases u with
                | pair a b =>
                  simp only [opF, Bool.and_eq_true, Nat.beq_eq] at hh
                  obtain ⟨⟨e1, e2, e3⟩, e4⟩ := hh
                  simp only [TC.size] at hlen
                  obtain ⟨y, hy, hlow⟩ := hf f (hsub f (List.mem_cons_self ..))
                  obtain ⟨c, d, ecd, hc, hd'⟩ := hr
                  have hcl : c.length = a.size := by rw [a.ty.len hc, a.size_eq]
                  have hc' : (cs.drop off).take a.size = c := by rw [ecd, List.take_left' hcl]
                  have hd2 : cs.drop (off + a.size) = d := by rw [← List.drop_drop, ecd, List.drop_left' hcl]
                  rw [e1, e2, hc'] at hy
                  exact ⟨sz_ok n e3 hy hlow hc, ih (off + a.size) b x.2 (fun q hq => hsub q (List.mem_cons_of_mem _ hq)) e4 (by omega) (by rw [hd2]; exact hd')⟩
                | _ => simp [opF] at hh
          exact key fs.toList 0 u x (fun _ h => h) h1 (by omega) (by simpa using hr)
    · rename_i m e ht
      simp only [Bool.and_eq_true, Nat.beq_eq] at h
      obtain ⟨h0, h1⟩ := h
      obtain ⟨hl, _⟩ := trod_items ht hd
      cases fuel with
      | zero => simp [DataW.trod] at hd
      | succ fuel =>
        simp only [DataW.trod, ht] at hd
        rw [if_pos hl] at hd
        cases hm : (List.range m).mapM fun i => DataW.trod enc P W 0 (fun _ => true) true fuel e ((cs.drop (i * P.cellsOf e)).take (P.cellsOf e)) with
        | none => rw [hm] at hd; simp at hd
        | some ys =>
          rw [hm] at hd
          simp only [Option.map_some, Option.some.injEq] at hd
          subst hd
          obtain ⟨hl1, hl2⟩ := mapM_list hm
          have hwa : ∀ k ∈ DataW.weightsAll P e (ys.map (·.1)), k ≤ reachBytes := fun k hk => hw k (by simp only [DataW.weights, ht]; exact hk)
          have hf : ∀ i, i < m → ∃ y, DataW.trod enc P W 0 (fun _ => true) true fuel e ((cs.drop (i * P.cellsOf e)).take (P.cellsOf e)) = some y ∧ lowW P e y.1 := fun i hi => by
            obtain ⟨y, hy1, hy2⟩ := hl2 i i (by simp [hi])
            exact ⟨y, hy2, weights_all hwa (i := i) (by rw [List.getElem?_map, hy1]; rfl)⟩
          have key : ∀ (q i : Nat) (u : TC) (x : u.den), i + q = m → opA (szB P n) e (P.cellsOf e) q u = true → cs.length = i * P.cellsOf e + u.size → u.ty.rep (Zone.all W) (cs.drop (i * P.cellsOf e)) x → SzOk u x := by
            intro q
            induction q with
            | zero => intro i u x _ hh _ _; simp [opA] at hh
            | succ q ih =>
              intro i u x hq hh hlen hr
              cases q with
              | zero =>
                simp only [opA, Bool.and_eq_true, Nat.beq_eq] at hh
                obtain ⟨y, hy, hlow⟩ := hf i (by omega)
                rw [List.take_of_length_le (by rw [List.length_drop]; omega)] at hy
                exact sz_ok n hh.2 hy hlow hr
              | succ q =>
                cases u with
                | pair a b =>
                  simp only [opA, Bool.and_eq_true, Nat.beq_eq] at hh
                  obtain ⟨⟨e2, e3⟩, e4⟩ := hh
                  simp only [TC.size] at hlen
                  obtain ⟨y, hy, hlow⟩ := hf i (by omega)
                  obtain ⟨c, d, ecd, hc, hd'⟩ := hr
                  have hcl : c.length = a.size := by rw [a.ty.len hc, a.size_eq]
                  have hc' : (cs.drop (i * P.cellsOf e)).take a.size = c := by rw [ecd, List.take_left' hcl]
                  have hd2 : cs.drop ((i + 1) * P.cellsOf e) = d := by
                    have h9 : (cs.drop (i * P.cellsOf e)).drop a.size = d := by rw [ecd, List.drop_left' hcl]
                    rw [Nat.add_mul, Nat.one_mul, ← List.drop_drop, ← h9, e2]
                  have hc3 : (cs.drop (i * P.cellsOf e)).take (P.cellsOf e) = c := by rw [← hc']; congr 1
                  rw [hc3] at hy
                  exact ⟨sz_ok n e3 hy hlow hc, ih (i + 1) b x.2 (by omega) e4 (by rw [Nat.add_mul]; omega) (by rw [hd2]; exact hd')⟩
                | _ => simp [opA] at hh
          exact key m 0 u x (by omega) h1 (by omega) (by simpa using hr)
    · cases h
theorem oAz {base : Nat} {t : TypeId} {v : Value} {d : DataW H} {ps : List MemPlace} {u : TC} (hs : (match P.underlying t with | some (.struct _) => true | some (.array _ _) => true | _ => false) = true) (hb : opB P 12 t u = true) (hz : szB P 12 t u = true)
    (hv : Value.okWide P W .any base t v) (h : DataW.Trod enc P W 0 (fun _ => true) true t v d ps) (hw : lowW P t d) : ∃ x : u.den, repA (Zone.all W) (true, u) v x ∧ SzOk u x := by
  obtain ⟨cs, x, rfl, hr, _⟩ := arg_agg hs hv h (opB_ok 12 hb)
  obtain ⟨fuel, hf⟩ := h
  exact ⟨x, .inl ⟨rfl, cs, rfl, hr⟩, sz_ok 12 hz (by simpa [Value.cells] using hf) hw hr⟩
end
end Go.K
namespace Go.Sx
open Go.Sl Go.RowKit Go.ChangeShapes Go.Proofs
variable {H : Type} {enc : TypeId × Value → H}
theorem returns_and_sized {a : Assume} {C : Checked} {os : Os} {f : FuncId} {fn : Func} {s : ChangeSpec} {conds : List PathCond} {apart fresh handsOn again : Bool} {X : World → Array Value → Prop}
    (hX : ∀ (w w' : World) (args : Array Value), w.heap = w'.heap → X w args → X w' args)
    (own : ownKnob C.prog.godebug = none) (started : os.Started) (noInit : C.prog.inits.idxOf? f = none) (hfn : C.prog.funcs[f]? = some fn)
    (witness : ∃ (w : World) (tape : Tape) (i : Input), w.os = os ∧ (w.forCall tape i).Shaped C.prog ∧ i.vars = [] ∧ Input.okWide C.prog (w.forCall tape i) .any w.heap.size f i ∧
      ((s.pre enc C.prog fn conds apart (w.forCall tape i).memory i.args ∧ X (w.forCall tape i).memory i.args) ∧ sizedMet enc C.prog fn (OpenSpec.ofChange s) apart (w.forCall tape i).memory i.args) ∧ a.holds C.prog (lone (Frame.enter C.prog f i.args .normal) [] (w.forCall tape i)))
    (contract : ∀ (W : World) (base : Nat) (args : Array Value) (ds gs : List (DataW H)) (before : List MemPlace),
      (∀ (j : Nat) t v, fn.params[j]? = some t → args[j]? = some v → Value.okWide C.prog W .any base t v) →
      DataW.Whole enc C.prog fn.params.toList s.vars apart W args.toList ds gs before → X W args → W.ShapedOpen C.prog →
      (∀ n ∈ DataW.weightsEach C.prog (fn.params.toList ++ s.plain.varTypes C.prog) (ds ++ gs), n ≤ reachBytes) →
      Calls C.prog f args W fun e W' => ∃ v, e = .returned v ∧ s.post enc C.prog fn apart fresh handsOn again W args v W') :
    ReturnsInHanded a C os f .any (fun w args => (s.pre enc C.prog fn conds apart w args ∧ X w args) ∧ sizedMet enc C.prog fn (OpenSpec.ofChange s) apart w args) (s.post enc C.prog fn apart fresh handsOn again) := by
  refine returnsInHanded_of_calls own started noInit witness ?_
  intro w tape i _ hsh _ hok hpre hholds
  obtain ⟨_, _, _, fn', hfn', _, _, _, _, hval⟩ := hok
  have e : fn' = fn := Option.some.inj (hfn'.symm.trans hfn)
  subst e
  obtain ⟨⟨⟨ds, gs, before, hw, hc⟩, hx⟩, hz⟩ := hpre
  have hw' := DataW.Whole.of_heap (w' := w.forCall tape i) (by rfl) hw
  have hzz := hz.weights hw
  refine (contract (w.forCall tape i) w.heap.size i.args ds gs before hval hw' (hX _ _ _ (by rfl) hx) hsh (fun n hn => by simpa using List.all_eq_true.1 hzz n hn)).mono fun e W' ⟨v, he, hp⟩ => ?_
  subst he
  exact ChangeSpec.post_blind hp
end Go.Sx
