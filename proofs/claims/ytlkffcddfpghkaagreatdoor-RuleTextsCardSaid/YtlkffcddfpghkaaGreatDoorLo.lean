/-
 A part of the walk and of the plain law of one given statement. No condition.
-/
import Derived.Test.YtlkffcddfpghkaaGreatDoorWB1
import Derived.Test.YtlkffcddfpghkaaGreatDoorProg
import Derived.Test.YtlkffcddfpghkaaGreatDoorRE
import Derived.Test.YtlkffcddfpghkaaGreatDoorG4
import Derived.Shelf.Strings.OnBuilder
import Derived.Lib.Join
import Derived.WalkKit
import Derived.Test.YtlkffcddfpghkaaGreatDoorSh
import Derived.Shelf.RegionOpenPlain
import Derived.Lib.Slices
import Derived.Lib.Walk
import Derived.Laws.Externs
import Derived.Test.YtlkffcddfpghkaaGreatDoorK8
import Derived.ProofKit
import Derived.OpenShut
import Derived.Stop.Joined
import Derived.Deep.Slices
import Derived.SizedLaws
import Derived.Shelf.Vars
import Derived.Lay
import Derived.LaidMore
set_option linter.unusedVariables false
set_option linter.unusedSimpArgs false
set_option maxRecDepth 100000
namespace Go.K
open Go.Sl Go.Sx Go.Proofs
abbrev zC : Cd := ((bts []), (([] : List (ByteArray × (Int × Int))), ([] : List (ByteArray × (Int × (Int × (Yt × (Yt × (List ByteArray)))))))))
def lineL (b : Bool) (c : Cd) (w : List ByteArray) : Option Cd :=
 if b = false then (match w with
  | [k, a] => if k = wCode ∧ nmB a = true then some (a, c.2) else none
  | _ => none)
 else if wAt w 0 = wFact then (factL w).map (fun f => (c.1, (c.2.1 ++ [f], c.2.2)))
 else if wAt w 0 = wRule then (ruleL w).map (fun r => (c.1, (c.2.1, c.2.2 ++ [r])))
 else none
theorem lineL_2 (c : Cd) (k a : ByteArray) : lineL false c [k, a] = if k = wCode ∧ nmB a = true then some (a, c.2) else none := rfl
def stepL (s : ByteArray) (i : Nat) (a : Bool × Cd) : (Bool × Cd) ⊕ (Cd × (Int × Int)) :=
 if wordsB s = [] ∨ s.data.toList.head? = some 35 then .inl a else match lineL a.1 a.2 (wordsB s) with
  | some c => .inl (true, c)
  | none => .inr (zC, (((i + 1 : Nat) : Int), 46))
def finL (n : Nat) (a : Bool × Cd) : Cd × (Int × Int) := if a.1 = false then (zC, (((n + 1 : Nat) : Int), 46)) else if codeE a.2 = 0 then (a.2, (0, 0)) else (zC, (0, codeE a.2))
def parseL (s : ByteArray) : Cd × (Int × Int) := if 8000 < s.size then (zC, (0, 2)) else match foldS stepL (linesB s) 0 (false, zC) with
 | .inr e => e
 | .inl a => finL (linesB s).length a
theorem lineL_len {b : Bool} {c c' : Cd} {w : List ByteArray} (h : lineL b c w = some c') : c'.2.1.length ≤ c.2.1.length + 1 ∧ c'.2.2.length ≤ c.2.2.length + 1 := by
 unfold lineL at h
 split at h
 ·split at h
  ·split at h
   ·cases h
    exact ⟨Nat.le_succ _, Nat.le_succ _⟩
   ·cases h
  ·cases h
 ·split at h
  ·cases hf : factL w with
   | none => rw [hf] at h; cases h
   | some f => rw [hf] at h; cases h; refine ⟨by simp, by simp⟩
  ·split at h
   ·cases hf : ruleL w with
    | none => rw [hf] at h; cases h
    | some f => rw [hf] at h; cases h; refine ⟨by simp, by simp⟩
   ·cases h
theorem stepL_len {s : ByteArray} {i : Nat} {a a' : Bool × Cd} (h : stepL s i a = .inl a') (hg : a.2.2.1.length ≤ i ∧ a.2.2.2.length ≤ i) : a'.2.2.1.length ≤ i + 1 ∧ a'.2.2.2.length ≤ i + 1 := by
 unfold stepL at h
 split at h
 ·cases h; omega
 ·split at h
  ·rename_i c hc
   cases h
   have := lineL_len hc
   show c.2.1.length ≤ i + 1 ∧ c.2.2.length ≤ i + 1
   omega
  ·cases h
theorem words_nil {s : ByteArray} (h : s.data.toList = []) : wordsB s = [] := by
 unfold wordsB; rw [h]; rfl
theorem byte0 {s : ByteArray} (h : ¬ wordsB s = []) : ∃ b, byteAt s (0 : Int) = some ((b.toNat : Nat) : Int) ∧ s.data.toList.head? = some b := by
 cases hl : s.data.toList with
 | nil => exact absurd (words_nil hl) h
 | cons b r =>
  refine ⟨b, ?_, rfl⟩
  have e : s = ofL (b :: r) := ofL_eq hl
  rw [e]
  exact byteAt_ofL (i := 0) rfl
theorem line_not2 {c : Cd} {w : List ByteArray} (h : ¬ w.length = 2) : lineL false c w = none := by
 match w, h with
 | [], _ => rfl
 | [_], _ => rfl
 | [_, _], h => exact absurd rfl h
 | _ :: _ :: _ :: _, _ => rfl
theorem G50_parse (s : ByteArray) : G50 LF s = some (parseL s) := by
 unfold G50 parseL
 by_cases h8 : 8000 < s.size
 ·simp only [ze (show (s.size : Int) > 8000 by omega), zt, if_pos h8]
 rw [if_neg h8]
 have hln := linesB_len s
 simp only [zd (show ¬ (s.size : Int) > 8000 by omega), zf, G136_lines (show s.size ≤ 8000 by omega), zb]
 refine (iter_go (fun i (a : Bool × Cd) => (a.1, (i, (a.2.1, (a.2.2.1, a.2.2.2))))) stepL (fun i a => a.2.2.1.length ≤ i ∧ a.2.2.2.length ≤ i) (linesB s) (fun a => some (finL (linesB s).length a)) (false, zC) ?_ ?_ ?_ (by show (linesB s).length < 9223372036854775808; omega) ⟨Nat.le_refl _, Nat.le_refl _⟩).trans ?_
 ·intro i x a hx hg
  have hi := (List.getElem?_eq_some_iff.1 hx).1
  have hxs := linesB_size (List.mem_of_getElem? hx)
  have hwl := words_len x
  obtain ⟨g1, g2⟩ := hg
  simp only [dlt hi, zt, getI_nat hx, zb, G90_words x (by omega), succ_W (show i + 1 < 9223372036854775808 by omega)]
  by_cases hw : wordsB x = []
  ·have st : stepL x i a = .inl a := if_pos (Or.inl hw)
   have hz : decide (((([] : List ByteArray).length : Nat) : Int) = 0) = true := rfl
   rw [st, hw]
   simp only [hz, zt]
  obtain ⟨b, hb, hh⟩ := byte0 hw
  have hl0 : 0 < (wordsB x).length := List.length_pos_iff.2 hw
  have b35 : (((b.toNat : Nat) : Int) = (35 : Int)) ↔ b = 35 := nat_eq (n := 35) (by omega)
  simp only [zd (show ¬ ((wordsB x).length : Int) = 0 by omega), zf, hb, zb, b35]
  by_cases h35 : b = 35
  ·have st : stepL x i a = .inl a := if_pos (Or.inr (by rw [hh, h35]))
   rw [st, ze h35]; rfl
  have st : stepL x i a = match lineL a.1 a.2 (wordsB x) with
   | some c => .inl (true, c)
   | none => .inr (zC, (((i + 1 : Nat) : Int), 46)) := if_neg (fun h => by
    rcases h with h | h
    ·exact hw h
    ·rw [hh] at h; exact h35 (by injection h))
  rw [st]
  clear st hb hh hx
  generalize wordsB x = w at *
  obtain ⟨bg, c1, fs, rs⟩ := a
  simp only [zd h35, zf]
  cases bg with
  | false =>
   simp only [Bool.not_false, zt]
   by_cases h2 : w.length = 2
   ·obtain ⟨k, v, rfl⟩ : ∃ k v, w = [k, v] := by
     match w, h2 with
     | [k, v], _ => exact ⟨k, v, rfl⟩
    have hL : lineL false (c1, (fs, rs)) [k, v] = if k = wCode ∧ nmB v = true then some (v, (fs, rs)) else none := rfl
    have g0 : getI [k, v] (0 : Int) = some k := getI_w (i := 0) (by simp)
    have gv : getI [k, v] (1 : Int) = some v := getI_w (i := 1) (by simp)
    have ew : w64 ((([k, v].length : Nat) : Int) - 1) = 1 := rfl
    have e2 : decide ((([k, v].length : Nat) : Int) = 2) = true := rfl
    simp only [hL, e2, ew, zt, g0, gv, zb, qCode, G99_nm]
    by_cases hk : k = wCode
    ·cases hv : nmB v with
     | true => simp only [ze hk, zt, jl, Bool.not_true, zf, if_pos (show k = wCode ∧ True from ⟨hk, trivial⟩)]
     | false => simp only [ze hk, zt, jl, Bool.not_false, Bool.false_eq_true, and_false, if_false]
    ·simp only [zd hk, zf, jl, Bool.not_false, zt, if_neg (show ¬ (k = wCode ∧ nmB v = true) from fun h => hk h.1)]
   ·have gl : getI w (w64 ((w.length : Int) - 1)) = some (wAt w (w.length - 1)) := by
     rw [w64_in (by omega), show (w.length : Int) - 1 = ((w.length - 1 : Nat) : Int) by omega]
     exact getI_w (by omega)
    simp only [line_not2 h2, zd (show ¬ (w.length : Int) = 2 by omega), zf, jl, gl, zb, Bool.not_false, zt]
  | true =>
   have g0 : getI w (0 : Int) = some (wAt w 0) := getI_w (i := 0) (by omega)
   have g1 : fs.length ≤ i := g1
   have g2 : rs.length ≤ i := g2
   simp only [Bool.not_true, zf, g0, zb, qFact, qRule]
   by_cases hf : wAt w 0 = wFact
   ·have hL : lineL true (c1, (fs, rs)) w = (factL w).map (fun f => (c1, (fs ++ [f], rs))) := by
     unfold lineL
     rw [if_neg (by decide), if_pos hf]
    rw [hL, factW_L]
    simp only [ze hf, zt, G137_fact, zb, appC_of (show fs.length + [((factW w).1.1, ((factW w).1.2.1, (factW w).1.2.2))].length ≤ 1099511627776 by rw [List.length_singleton]; omega)]
    cases (factW w).2 <;> rfl
   ·by_cases hr : wAt w 0 = wRule
    ·have hL : lineL true (c1, (fs, rs)) w = (ruleL w).map (fun r => (c1, (fs, rs ++ [r]))) := by
      unfold lineL
      rw [if_neg (by decide), if_neg hf, if_pos hr]
     obtain ⟨r, q, e1, e2⟩ := G138_rule (w := w) (by omega)
     rw [hL, e2]
     simp only [zd hf, ze hr, zf, zt, e1, zb, appC_of (show rs.length + [(r.1, (r.2.1, (r.2.2.1, (r.2.2.2.1, (r.2.2.2.2.1, r.2.2.2.2.2)))))].length ≤ 1099511627776 by rw [List.length_singleton]; omega)]
     cases q <;> rfl
    ·have hL : lineL true (c1, (fs, rs)) w = none := by
      unfold lineL
      rw [if_neg (by decide), if_neg hf, if_neg hr]
     rw [hL]
     simp only [zd hf, zd hr, zf, jl, Bool.not_false, zt]
 ·intro i x a a' hx hg hs
  exact stepL_len hs hg
 ·intro a hg
  simp only [dnlt, zf, succ_W (show (linesB s).length + 1 < 9223372036854775808 by omega)]
  congr 1
  unfold finL
  cases a.1 with
  | false => rfl
  | true =>
   simp only [Bool.not_true, zf, show G32 LF (a.2.1, (a.2.2.1, a.2.2.2)) = some (codeE a.2) from G32_code a.2, zb]
   rw [if_neg (by decide)]
   by_cases h0 : codeE a.2 = 0
   ·simp only [ze h0, Bool.not_true, zf, if_pos h0]
   ·simp only [zd h0, Bool.not_false, zt, if_neg h0]
 ·cases foldS stepL (linesB s) 0 (false, zC) <;> rfl
end Go.K
namespace Go.K
open Go.Sl Go.Sx Go.Proofs
inductive Ex where
 | tr : Ex
 | cp : Int → ByteArray → Int → Ex
 | nt : Ex → Ex
 | an : Ex → Ex → Ex
 | or : Ex → Ex → Ex
def sz : Ex → Nat
 | .tr => 1
 | .cp _ _ _ => 1
 | .nt e => sz e + 1
 | .an a b => sz a + sz b + 1
 | .or a b => sz a + sz b + 1
def flat : Ex → Nat → Cnd
 | .tr, _ => [tmK 0 0 0]
 | .cp k w n, _ => [(k, (0, (0, (w, n))))]
 | .nt e, b => flat e b ++ [tmK 4 ((b + sz e - 1 : Nat) : Int) 0]
 | .an x y, b => flat x b ++ flat y (b + sz x) ++ [tmK 5 ((b + sz x - 1 : Nat) : Int) ((b + sz x + sz y - 1 : Nat) : Int)]
 | .or x y, b => flat x b ++ flat y (b + sz x) ++ [tmK 6 ((b + sz x - 1 : Nat) : Int) ((b + sz x + sz y - 1 : Nat) : Int)]
def j1 : Ex → Nat
 | .or _ _ => 1
 | .an _ _ => 1
 | _ => 0
def OkE : Ex → Prop
 | .tr => True
 | .cp k w n => (1 ≤ k ∧ k ≤ 3) ∧ nmB w = true ∧ -1000000000000 ≤ n ∧ n ≤ 1000000000000
 | .nt e => OkE e
 | .an a b => OkE a ∧ OkE b
 | .or a b => OkE a ∧ OkE b
def IsT (P : Ex → Prop) (ts : Cnd) (t : PS) : Prop := ∃ e, OkE e ∧ P e ∧ t.2.1 = ts ++ flat e (List.length ts) ∧ t.2.2 = ((List.length ts + sz e - 1 : Nat) : Int)
theorem IsT.mono {P Q : Ex → Prop} {ts : Cnd} {t : PS} (h : IsT P ts t) (hpq : ∀ e, P e → Q e) : IsT Q ts t := by
 obtain ⟨e, h1, h2, h3⟩ := h; exact ⟨e, h1, hpq e h2, h3⟩
end Go.K
namespace Go.K
open Go.Sl Go.Sx Go.Proofs
def Occ (ws : List ByteArray) (i : Nat) (l : List ByteArray) : Prop := ∃ pre post, ws = pre ++ (l ++ post) ∧ pre.length = i
theorem Occ.hd {ws : List ByteArray} {i : Nat} {w : ByteArray} {l : List ByteArray} (h : Occ ws i (w :: l)) : wAt ws i = w := by
 obtain ⟨pre, post, h, hl⟩ := h
 subst hl h
 unfold wAt
 rw [List.getD_eq_getElem?_getD, List.getElem?_append_right (Nat.le_refl _), Nat.sub_self]; rfl
theorem Occ.tl {ws : List ByteArray} {i : Nat} {w : ByteArray} {l : List ByteArray} (h : Occ ws i (w :: l)) : Occ ws (i + 1) l := by
 obtain ⟨pre, post, h, hl⟩ := h
 exact ⟨pre ++ [w], post, by rw [h]; simp only [List.append_assoc, List.cons_append, List.nil_append], by rw [List.length_append, hl]; rfl⟩
theorem Occ.l {ws : List ByteArray} {i : Nat} {l m : List ByteArray} (h : Occ ws i (l ++ m)) : Occ ws i l := by
 obtain ⟨pre, post, h, hl⟩ := h
 exact ⟨pre, m ++ post, by rw [h, List.append_assoc], hl⟩
theorem Occ.r {ws : List ByteArray} {i : Nat} {l m : List ByteArray} (h : Occ ws i (l ++ m)) : Occ ws (i + l.length) m := by
 obtain ⟨pre, post, h, hl⟩ := h
 exact ⟨pre ++ l, post, by rw [h]; simp only [List.append_assoc], by rw [List.length_append, hl]⟩
theorem Occ.le {ws : List ByteArray} {i : Nat} {l : List ByteArray} (h : Occ ws i l) : i + l.length ≤ ws.length := by
 obtain ⟨pre, post, h, hl⟩ := h
 rw [h, List.length_append, List.length_append]; omega
end Go.K
namespace Go.K
open Go.Sl Go.Sx Go.Proofs
theorem wd_app : ∀ (l cur m : List UInt8), wd cur (l ++ 32 :: m) = wd cur l ++ wd [] m
 | [], cur, m => by
  simp only [List.nil_append, wd, if_true]
  by_cases h : cur = []
  ·simp only [h, if_true, List.nil_append]
  ·simp only [h, if_false, List.cons_append, List.nil_append]
 | b :: r, cur, m => by
  simp only [List.cons_append, wd]
  by_cases hb : b = 32
  ·by_cases h : cur = []
   ·simp only [hb, h, if_true, wd_app r [] m]
   ·simp only [hb, h, if_true, if_false, wd_app r [] m, List.cons_append]
  ·simp only [hb, if_false, wd_app r (cur ++ [b]) m]
theorem words_sp (a b : ByteArray) : wordsB (a ++ bts [32] ++ b) = wordsB a ++ wordsB b := by
 unfold wordsB
 have e : (a ++ bts [32] ++ b).data.toList = a.data.toList ++ 32 :: b.data.toList := by
  rw [app_data, app_data, List.append_assoc]; rfl
 rw [e, wd_app, List.map_append]
theorem words_one {s : ByteArray} (h1 : s.data.toList ≠ []) (h2 : ∀ b ∈ s.data.toList, b ≠ 32) : wordsB s = [s] := by
 unfold wordsB
 rw [wd_one _ h1 h2]
 simp only [List.map_cons, List.map_nil, ofL_back]
end Go.K
namespace Go.K
open Go.Sl Go.Sx Go.Proofs
theorem sm_l {α β ρ : Type} (a : α) (f : α → Option ρ) (g : β → Option ρ) : sm (.inl a) f g = f a := rfl
theorem sm_r {α β ρ : Type} (b : β) (f : α → Option ρ) (g : β → Option ρ) : sm (.inr b) f g = g b := rfl
def GoodW (l : List ByteArray) : Prop := ∀ x ∈ l, x.data.toList ≠ [] ∧ ∀ b ∈ x.data.toList, b ≠ 32
def sumW : List ByteArray → Nat
 | [] => 0
 | x :: r => x.size + 1 + sumW r
theorem sumW_c (x : ByteArray) (r : List ByteArray) : sumW (x :: r) = x.size + 1 + sumW r := rfl
theorem GoodW.tl {x : ByteArray} {l : List ByteArray} (h : GoodW (x :: l)) : GoodW l := fun y hy => h y (List.mem_cons_of_mem _ hy)
theorem GoodW.take {l : List ByteArray} (h : GoodW l) (n : Nat) : GoodW (l.take n) := fun y hy => h y (List.mem_of_mem_take hy)
theorem GoodW.drop {l : List ByteArray} (h : GoodW l) (n : Nat) : GoodW (l.drop n) := fun y hy => h y (List.mem_of_mem_drop hy)
theorem sumW_app (l m : List ByteArray) : sumW (l ++ m) = sumW l + sumW m := by
 induction l with
 | nil => simp [sumW]
 | cons x l ih => rw [List.cons_append, sumW_c, sumW_c, ih]; omega
theorem sumW_take (l : List ByteArray) (n : Nat) : sumW (l.take n) + sumW (l.drop n) = sumW l := by
 rw [← sumW_app, List.take_append_drop]
theorem sumW_len (l : List ByteArray) : l.length ≤ sumW l := by
 induction l with
 | nil => exact Nat.zero_le _
 | cons x l ih => rw [sumW_c, zc]; omega
theorem sumW_mem {l : List ByteArray} {x : ByteArray} (h : x ∈ l) : x.size + 1 ≤ sumW l := by
 induction l with
 | nil => cases h
 | cons y l ih =>
  rw [sumW_c]
  rcases List.mem_cons.1 h with e | e
  ·subst e; omega
  ·have := ih e; omega
theorem wd_good : ∀ (r cur : List UInt8), (∀ b ∈ cur, b ≠ 32) → ∀ u ∈ wd cur r, u ≠ [] ∧ ∀ b ∈ u, b ≠ 32
 | [], cur, hc, u, h => by
  unfold wd at h
  split at h
  ·cases h
  ·rename_i hn
   rcases List.mem_singleton.1 h with rfl
   exact ⟨hn, hc⟩
 | b :: r, cur, hc, u, h => by
  unfold wd at h
  split at h
  ·split at h
   ·exact wd_good r [] (by simp) u h
   ·rename_i hn
    rcases List.mem_cons.1 h with rfl | h
    ·exact ⟨hn, hc⟩
    ·exact wd_good r [] (by simp) u h
  ·rename_i hb
   exact wd_good r (cur ++ [b]) (fun c h => by
    rcases List.mem_append.1 h with h | h
    ·exact hc c h
    ·rcases List.mem_singleton.1 h with rfl; exact hb) u h
theorem words_good (s : ByteArray) : GoodW (wordsB s) := by
 intro x hx
 unfold wordsB at hx
 obtain ⟨l, hl, rfl⟩ := List.mem_map.1 hx
 rw [ofL_data2]
 exact wd_good _ [] (by simp) l hl
theorem wd_sum : ∀ (r cur : List UInt8), sumW ((wd cur r).map ofL) ≤ cur.length + r.length + 1
 | [], cur => by
  unfold wd
  split
  ·exact Nat.zero_le _
  ·show (ofL cur).size + 1 + 0 ≤ _
   rw [ofL_size]; simp
 | b :: r, cur => by
  have h1 := wd_sum r []
  have h2 := wd_sum r (cur ++ [b])
  unfold wd
  rw [zc]
  rw [zl] at h1
  rw [List.length_append, List.length_singleton] at h2
  split
  ·split
   ·omega
   ·show (ofL cur).size + 1 + sumW ((wd [] r).map ofL) ≤ _
    rw [ofL_size]; omega
  ·omega
theorem words_sum (s : ByteArray) : sumW (wordsB s) ≤ s.size + 1 := by
 have := wd_sum s.data.toList []
 rw [size_len]
 unfold wordsB
 simpa using this
theorem joT_go : ∀ (l : List ByteArray) (a : ByteArray), (l.foldl (fun r y => r ++ bts [32] ++ y) a).size = a.size + sumW l
 | [], a => rfl
 | y :: l, a => by
  rw [List.foldl_cons, joT_go l, sumW_c, size_app, size_app, bts_size]
  simp only [zc, zl]; omega
theorem joT_sum (l : List ByteArray) : (joT (bts [32]) l).size ≤ sumW l - 1 := by
 unfold joT
 cases l with
 | nil => exact Nat.zero_le _
 | cons x l =>
  simp only
  rw [joT_go, sumW_c]; omega
theorem words_fold : ∀ (l : List ByteArray) (a : ByteArray), GoodW l → wordsB (l.foldl (fun r y => r ++ bts [32] ++ y) a) = wordsB a ++ l
 | [], a, _ => by rw [List.append_nil]; rfl
 | y :: l, a, h => by
  rw [List.foldl_cons, words_fold l _ h.tl, words_sp, words_one (h y (List.mem_cons_self ..)).1 (h y (List.mem_cons_self ..)).2, List.append_assoc]; rfl
theorem words_jo {l : List ByteArray} (h : GoodW l) : wordsB (joT (bts [32]) l) = l := by
 unfold joT
 cases l with
 | nil => rfl
 | cons x l =>
  simp only
  rw [words_fold l x h.tl, words_one (h x (List.mem_cons_self ..)).1 (h x (List.mem_cons_self ..)).2]; rfl
theorem G199_t : G199 LF true = some (.inl ()) := rfl
theorem G199_f : G199 LF false = some (.inr 0) := rfl
theorem G198_nil : G198 LF ((([] : List ByteArray), ()), ()) = some (.inr 0) := rfl
theorem G198_cons (x : ByteArray) (r : List ByteArray) : G198 LF ((x :: r, ()), ()) = some (.inl ((r, ()), x)) := by
 unfold G198
 have e : decide (((x :: r).length : Int) > 0) = true := ze (by rw [zc]; omega)
 have g : getI (x :: r) (0 : Int) = some x := getI_nat (i := 0) rfl
 have s : subI (x :: r) (1 : Int) (((x :: r).length : Nat) : Int) = some r := (subI_dr (xs := x :: r) (a := 1) (by rw [zc]; omega)).trans rfl
 simp only [e, G199_t, zb, sm_l, g, s]
theorem G200_nil : G200 LF ((([] : List ByteArray), ()), ()) = some (.inr 0) := by
 unfold G200
 simp only [G198_nil, zb, sm_r]
theorem G200_cons (x : ByteArray) (r : List ByteArray) : G200 LF ((x :: r, ()), ()) = some (if nmB x = true then .inl ((r, ()), x) else .inr 0) := by
 unfold G200
 simp only [G198_cons, zb, sm_l, G94_nm]
 cases nmB x with
 | true => simp only [G199_t, zb, sm_l, if_true]
 | false => simp only [G199_f, zb, sm_r, Bool.false_eq_true, if_false]
theorem nu_ofL (w : ByteArray) (sg : Bool) (hl : w.size ≤ 8000) : G244 LF (w, sg) = some (nuW w sg) := by
 have := G244_num w.data.toList sg (by rw [← size_len]; omega)
 rwa [ofL_back] at this
theorem G239_nil (sg : Bool) : G239 LF ((([] : List ByteArray), ()), sg) = some (.inr 0) := by
 unfold G239
 simp only [G198_nil, zb, sm_r]
theorem G239_cons (x : ByteArray) (r : List ByteArray) (sg : Bool) (hl : x.size ≤ 8000) : G239 LF ((x :: r, ()), sg) = some (if (nuW x sg).2 = true then .inl ((r, ()), (nuW x sg).1) else .inr 0) := by
 unfold G239
 simp only [G198_cons, zb, sm_l, nu_ofL x sg hl]
 cases (nuW x sg).2 with
 | true => simp only [G199_t, zb, sm_l, if_true]
 | false => simp only [G199_f, zb, sm_r, Bool.false_eq_true, if_false]
theorem G266_has (e x : ByteArray) : G266 LF ([e], x) = some (decide (e = x)) := by
 unfold G266
 refine (iter_scan (fun (y : ByteArray) _ => if y = x then some true else none) [e] (some false) (fun i y hy _ => ?_) (fun _ => ?_) (by show 1 < 9223372036854775808; omega)).trans ?_
 ·have hi := (List.getElem?_eq_some_iff.1 hy).1
  simp only [List.length_singleton] at hi
  simp only [dlt (show i < [e].length from hi), zt, getI_nat hy, zb, eqD, succ_W (show i + 1 < 9223372036854775808 by omega)]
  by_cases h : y = x
  ·rw [ze h, if_pos h]; rfl
  ·rw [zd h, if_neg h]; rfl
 ·simp only [dnlt, zf]; rfl
 ·simp only [scan]
  by_cases h : e = x
  ·rw [if_pos h, ze h]
  ·rw [if_neg h, zd h]
theorem ix_loop {ρ : Type} {f : Int → Option (Int ⊕ ρ)} (F : Int → ρ) (e : ByteArray) (l : List ByteArray) (h1 : ∀ i : Nat, i < l.length → f (i : Int) = some (if wAt l i = e then .inr (F (i : Int)) else .inl ((i + 1 : Nat) : Int))) (h2 : f (l.length : Int) = some (.inr (F (l.length : Int)))) :
  ∀ (k lf i : Nat), l.length = i + k → k < lf → iter lf f (i : Int) = some (F ((i + ixW e (l.drop i) : Nat) : Int))
 | 0, lf + 1, i, hk, _ => by
  have hi : i = l.length := by omega
  subst hi
  simp only [iter, h2, List.drop_length]; rfl
 | k + 1, lf + 1, i, hk, hf => by
  have hi : i < l.length := by omega
  rw [drop_wAt hi]
  simp only [iter, h1 i hi]
  unfold ixW
  by_cases h : wAt l i = e
  ·rw [if_pos h, if_pos h]; rfl
  ·rw [if_neg h, if_neg h]
   have := ix_loop F e l h1 h2 k lf (i + 1) (by omega) (by omega)
   simp only
   rw [this, show i + 1 + ixW e (l.drop (i + 1)) = i + (ixW e (l.drop (i + 1)) + 1) by omega]
 | _, 0, _, _, h => by omega
theorem G240_upto {ws : List ByteArray} (hg : GoodW ws) (hs : sumW ws ≤ 8001) (e : ByteArray) : G240 LF ((ws, ()), [e]) = some (if (parseW (ws.take (ixW e ws))).2.2 = 0 then .inl ((ws.drop (ixW e ws), ()), (parseW (ws.take (ixW e ws))).1) else .inr 0) := by
 have hl := sumW_len ws
 have hn := ixW_le e ws
 unfold G240
 have hloop := ix_loop (ρ := (Int ⊕ ((((List ByteArray) × Unit) × Yt) ⊕ Int))) (f := fun y13 : Int => cond (decide (y13 < (ws.length : Int))) (((getI ws y13)).bind fun r14 => ((G266 LF ([e], r14))).bind fun r15 => cond (!r15) (some (.inl (w64 (y13 + (1 : Int))))) (some (.inr (.inl y13)))) (some (.inr (.inl y13)))) (fun i => .inl i) e ws
  (fun i hi => by
   simp only [dlt hi, zt, getI_w hi, zb, G266_has, succ_W (show i + 1 < 9223372036854775808 by omega)]
   by_cases h : wAt ws i = e
   ·rw [if_pos h, ze h.symm]; rfl
   ·rw [if_neg h, zd (fun k => h k.symm)]; rfl)
  (by simp only [dnlt, zf]) ws.length LF 0 (by omega) (by show ws.length < 9223372036854775808; omega)
 rw [Nat.zero_add, List.drop_zero] at hloop
 have hst := sumW_take ws (ixW e ws)
 have hjs := joT_sum (ws.take (ixW e ws))
 have hjo : joinC (bts [32]) (ws.take (ixW e ws)) = some (joT (bts [32]) (ws.take (ixW e ws))) := joinC_T (by
  have := sum_le ((bts [32]).size + 1) 8001 (ws.take (ixW e ws)) (fun x hx => by have := sumW_mem hx; omega) 0
  have h2 : (ws.take (ixW e ws)).length ≤ 8001 := by rw [List.length_take]; omega
  have h3 : (bts [32]).size = 1 := rfl
  have h4 : (ws.take (ixW e ws)).length * (8001 + ((bts [32]).size + 1)) ≤ 8001 * (8001 + ((bts [32]).size + 1)) := Nat.mul_le_mul_right _ h2
  rw [h3] at h4 this ⊢
  omega)
 have hp : parseB (joT (bts [32]) (ws.take (ixW e ws))) = parseW (ws.take (ixW e ws)) := by
  unfold parseB
  rw [if_neg (by omega), words_jo (hg.take _)]
 have e0 : (0 : Int) = ((0 : Nat) : Int) := rfl
 refine (congrArg (fun z => jn z _) hloop).trans ?_
 rw [jl]
 simp only [subI_tk hn, zb, hjo, G17_parse, hp]
 by_cases h0 : (parseW (ws.take (ixW e ws))).2.2 = 0
 ·simp only [ze h0, G199_t, zb, sm_l, subI_dr hn, if_pos h0]
 ·simp only [zd h0, G199_f, zb, sm_r, if_neg h0]
theorem G201_fact {ws : List ByteArray} (hs : sumW ws ≤ 8001) : (∃ q, G201 LF ((ws, ()), ()) = some (.inr q) ∧ ∀ z, factL (z :: ws) = none) ∨
  (∃ r f, G201 LF ((ws, ()), ()) = some (.inl ((r, ()), f)) ∧ ∀ z, factL (z :: ws) = if r = [] then some f else none) := by
 have hz : ∀ x ∈ ws, x.size ≤ 8000 := fun x hx => by have := sumW_mem hx; omega
 unfold G201
 match ws, hz with
 | [], _ => exact .inl ⟨0, by simp only [G200_nil, zb, sm_r], fun _ => rfl⟩
 | [a], _ =>
  refine .inl ⟨0, ?_, fun _ => rfl⟩
  simp only [G200_cons, zb]
  by_cases ha : nmB a = true
  ·simp only [if_pos ha, sm_l, G239_nil, zb, sm_r]
  ·simp only [if_neg ha, sm_r]
 | [a, b], hz =>
  refine .inl ⟨0, ?_, fun _ => rfl⟩
  simp only [G200_cons, zb]
  by_cases ha : nmB a = true
  ·simp only [if_pos ha, sm_l, G239_cons b [] true (hz b (by simp)), zb]
   by_cases hb : (nuW b true).2 = true
   ·simp only [if_pos hb, sm_l, G239_nil, zb, sm_r]
   ·simp only [if_neg hb, sm_r]
  ·simp only [if_neg ha, sm_r]
 | a :: b :: c :: r, hz =>
  simp only [G200_cons, zb]
  have hF : ∀ z, ¬ (nmB a = true ∧ (nuW b true).2 = true ∧ (nuW c true).2 = true) → factL (z :: a :: b :: c :: r) = none := by
   intro z h
   cases r with
   | nil => exact if_neg h
   | cons _ _ => rfl
  by_cases ha : nmB a = true
  rotate_left
  ·refine .inl ⟨0, by simp only [if_neg ha, sm_r], fun z => hF z fun h => ha h.1⟩
  simp only [if_pos ha, sm_l, G239_cons b (c :: r) true (hz b (by simp)), zb]
  by_cases hb : (nuW b true).2 = true
  rotate_left
  ·refine .inl ⟨0, by simp only [if_neg hb, sm_r], fun z => hF z fun h => hb h.2.1⟩
  simp only [if_pos hb, sm_l, G239_cons c r true (hz c (by simp)), zb]
  by_cases hc : (nuW c true).2 = true
  rotate_left
  ·refine .inl ⟨0, by simp only [if_neg hc, sm_r], fun z => hF z fun h => hc h.2.2⟩
  refine .inr ⟨r, (a, ((nuW b true).1, (nuW c true).1)), by simp only [if_pos hc, sm_l], fun z => ?_⟩
  cases r with
  | nil => exact if_pos ⟨ha, hb, hc⟩
  | cons _ _ => rfl
end Go.K
namespace Go.K
open Go.Sl Go.Sx Go.Proofs
theorem un_loop {ρ : Type} (E : Int → ρ) (A : List ByteArray → List ByteArray → ρ) : ∀ (us acc : List ByteArray) (lf : Nat), us.length < lf → acc.length + us.length ≤ 10000 →
  iter lf (fun y98 : ((List ByteArray) × (List ByteArray)) => cond (decide ((y98.2.length : Int) > (0 : Int))) (((G200 LF ((y98.2, ()), ()))).bind fun r99 => sm r99 (fun r100 : (((List ByteArray) × PUnit) × ByteArray) => ((appC y98.1 [r100.2])).bind fun r101 => some (.inl (r101, r100.1.1))) (fun r102 : Int => some (.inr (E r102)))) (some (.inr (A y98.1 y98.2)))) (acc, us) = some (if us.all nmB = true then A (acc ++ us) [] else E 0)
 | [], acc, lf + 1, _, _ => by
  have e : decide ((([] : List ByteArray).length : Int) > 0) = false := rfl
  simp only [iter, e, zf, List.append_nil]; rfl
 | u :: us, acc, lf + 1, h1, h2 => by
  rw [zc] at h1 h2
  have e : decide (((u :: us).length : Int) > 0) = true := ze (by rw [zc]; omega)
  simp only [iter, e, zt, G200_cons, zb]
  rw [List.all_cons]
  by_cases hu : nmB u = true
  ·simp only [if_pos hu, sm_l, appC_of (show acc.length + [u].length ≤ 1099511627776 by rw [List.length_singleton]; omega), zb]
   rw [un_loop E A us (acc ++ [u]) lf (by omega) (by rw [List.length_append, List.length_singleton]; omega), hu, Bool.true_and, List.append_assoc]; rfl
  ·simp only [if_neg hu, sm_r]
   rw [Bool.not_eq_true] at hu
   rw [hu, Bool.false_and, if_neg (by decide)]
 | _, _, 0, h, _ => by omega
theorem G202_rule {ws : List ByteArray} (hg : GoodW ws) (hs : sumW ws ≤ 8001) : (∃ q, G202 LF ((ws, ()), ()) = some (.inr q) ∧ ∀ z, ruleL (z :: ws) = none) ∨
  (∃ r, G202 LF ((ws, ()), ()) = some (.inl (([], ()), r)) ∧ ∀ z, ruleL (z :: ws) = some r) := by
 have hz : ∀ x ∈ ws, x.size ≤ 8000 := fun x hx => by have := sumW_mem hx; omega
 unfold G202
 match ws, hz, hg, hs with
 | [], _, _, _ => exact .inl ⟨0, by simp only [G200_nil, zb, sm_r], fun _ => rfl⟩
 | [a], _, _, _ =>
  refine .inl ⟨0, ?_, fun _ => rfl⟩
  simp only [G200_cons, zb]
  by_cases ha : nmB a = true
  ·simp only [if_pos ha, sm_l, G239_nil, zb, sm_r]
  ·simp only [if_neg ha, sm_r]
 | [a, b], hz, _, _ =>
  refine .inl ⟨0, ?_, fun _ => rfl⟩
  simp only [G200_cons, zb]
  by_cases ha : nmB a = true
  ·simp only [if_pos ha, sm_l, G239_cons b [] false (hz b (by simp)), zb]
   by_cases hb : (nuW b false).2 = true
   ·simp only [if_pos hb, sm_l, G239_nil, zb, sm_r]
   ·simp only [if_neg hb, sm_r]
  ·simp only [if_neg ha, sm_r]
 | [a, b, c], hz, _, _ =>
  refine .inl ⟨0, ?_, fun _ => rfl⟩
  simp only [G200_cons, zb]
  by_cases ha : nmB a = true
  ·simp only [if_pos ha, sm_l, G239_cons b [c] false (hz b (by simp)), zb]
   by_cases hb : (nuW b false).2 = true
   ·simp only [if_pos hb, sm_l, G239_cons c [] false (hz c (by simp)), zb]
    by_cases hc : (nuW c false).2 = true
    ·simp only [if_pos hc, sm_l, G198_nil, zb, sm_r]
    ·simp only [if_neg hc, sm_r]
   ·simp only [if_neg hb, sm_r]
  ·simp only [if_neg ha, sm_r]
 | a :: b :: c :: d :: rest, hz, hg, hs =>
  have hr : GoodW rest := hg.tl.tl.tl.tl
  have hsr : sumW rest ≤ 8001 := by
   have : sumW (a :: b :: c :: d :: rest) = a.size + 1 + (b.size + 1 + (c.size + 1 + (d.size + 1 + sumW rest))) := rfl
   omega
  have hF : ∀ z, ¬ (nmB a = true ∧ (nuW b false).2 = true ∧ (nuW c false).2 = true ∧ d = wWhen ∧ (parseW (rest.take (ixW wMust rest))).2.2 = 0) → ruleL (z :: a :: b :: c :: d :: rest) = none := by
   intro z h
   unfold ruleL
   simp only
   split
   ·rfl
   ·exact if_neg fun k => h ⟨k.1, k.2.1, k.2.2.1, k.2.2.2.1, k.2.2.2.2.1⟩
  simp only [G200_cons, zb]
  by_cases ha : nmB a = true
  rotate_left
  ·refine .inl ⟨0, by simp only [if_neg ha, sm_r], fun z => hF z fun h => ha h.1⟩
  simp only [if_pos ha, sm_l, G239_cons b (c :: d :: rest) false (hz b (by simp)), zb]
  by_cases hb : (nuW b false).2 = true
  rotate_left
  ·refine .inl ⟨0, by simp only [if_neg hb, sm_r], fun z => hF z fun h => hb h.2.1⟩
  simp only [if_pos hb, sm_l, G239_cons c (d :: rest) false (hz c (by simp)), zb]
  by_cases hc : (nuW c false).2 = true
  rotate_left
  ·refine .inl ⟨0, by simp only [if_neg hc, sm_r], fun z => hF z fun h => hc h.2.2.1⟩
  simp only [if_pos hc, sm_l, G198_cons, zb, qWhen]
  by_cases hd : d = wWhen
  rotate_left
  ·refine .inl ⟨0, by simp only [zd hd, G199_f, zb, sm_r], fun z => hF z fun h => hd h.2.2.2.1⟩
  simp only [ze hd, G199_t, zb, sm_l, G240_upto hr hsr wMust]
  by_cases hp : (parseW (rest.take (ixW wMust rest))).2.2 = 0
  rotate_left
  ·refine .inl ⟨0, by simp only [if_neg hp, sm_r], fun z => hF z fun h => hp h.2.2.2.2⟩
  simp only [if_pos hp, sm_l]
  rcases ixW_drop wMust rest with hd1 | ⟨r2, hd1⟩
  ·refine .inl ⟨0, by simp only [hd1, G198_nil, zb, sm_r], fun z => ?_⟩
   unfold ruleL
   simp only [hd1]
  have qm : (wMust.data.toList == [UInt8.ofNat 109, UInt8.ofNat 117, UInt8.ofNat 115, UInt8.ofNat 116]) = true := by rw [qMust]; exact ze rfl
  have hr2 : GoodW r2 := by
   have := hr.drop (ixW wMust rest)
   rw [hd1] at this
   exact this.tl
  have hs2 : sumW r2 ≤ 8001 := by
   have := sumW_take rest (ixW wMust rest)
   rw [hd1] at this
   have e : sumW (wMust :: r2) = wMust.size + 1 + sumW r2 := rfl
   omega
  have hl2 := sumW_len r2
  have hk := ixW_le wUnl r2
  have rl : ∀ z, ruleL (z :: a :: b :: c :: d :: rest) = if (parseW (r2.take (ixW wUnl r2))).2.2 = 0 ∧ ixW wUnl r2 + 1 ≠ r2.length ∧ (r2.drop (ixW wUnl r2 + 1)).all nmB = true
   then some (a, ((nuW b false).1, ((nuW c false).1, ((parseW (rest.take (ixW wMust rest))).1, ((parseW (r2.take (ixW wUnl r2))).1, r2.drop (ixW wUnl r2 + 1)))))) else none := by
   intro z
   unfold ruleL
   simp only [hd1]
   by_cases hq : (parseW (r2.take (ixW wUnl r2))).2.2 = 0 ∧ ixW wUnl r2 + 1 ≠ r2.length ∧ (r2.drop (ixW wUnl r2 + 1)).all nmB = true
   ·rw [if_pos hq, if_pos ⟨ha, hb, hc, hd, hp, hq⟩]
   ·rw [if_neg hq, if_neg fun h => hq h.2.2.2.2.2]
  simp only [hd1, G198_cons, zb, sm_l, qm, G199_t, G240_upto hr2 hs2 wUnl]
  by_cases hp2 : (parseW (r2.take (ixW wUnl r2))).2.2 = 0
  rotate_left
  ·refine .inl ⟨0, by simp only [if_neg hp2, sm_r], fun z => by rw [rl z, if_neg fun h => hp2 h.1]⟩
  simp only [if_pos hp2, sm_l]
  rcases ixW_drop wUnl r2 with hd2 | ⟨us, hd2⟩
  ·have hkl : ixW wUnl r2 = r2.length := by
    have := congrArg List.length hd2
    rw [List.length_drop, zl] at this; omega
   have e0 : decide ((([] : List ByteArray).length : Int) > 0) = false := rfl
   have ed : r2.drop (ixW wUnl r2 + 1) = [] := List.drop_eq_nil_of_le (by omega)
   refine .inr ⟨(a, ((nuW b false).1, ((nuW c false).1, ((parseW (rest.take (ixW wMust rest))).1, ((parseW (r2.take (ixW wUnl r2))).1, ([] : List ByteArray)))))), by simp only [hd2, e0, zf], fun z => ?_⟩
   rw [rl z, if_pos ⟨hp2, by omega, by rw [ed]; rfl⟩, ed]
  have hkl : ixW wUnl r2 + 1 + us.length = r2.length := by
   have := congrArg List.length hd2
   rw [List.length_drop, zc] at this; omega
  have ed : r2.drop (ixW wUnl r2 + 1) = us := by rw [← List.drop_drop, hd2]; rfl
  have e1 : decide (((wUnl :: us).length : Int) > 0) = true := ze (by rw [zc]; omega)
  simp only [hd2, e1, zt, G198_cons, zb, sm_l]
  cases us with
  | nil =>
   refine .inl ⟨0, by simp only [G200_nil, zb, sm_r, jr], fun z => ?_⟩
   rw [rl z, if_neg fun h => h.2.1 (by simpa using hkl)]
  | cons u us =>
   rw [zc] at hkl
   simp only [G200_cons, zb]
   by_cases hu : nmB u = true
   rotate_left
   ·refine .inl ⟨0, by simp only [if_neg hu, sm_r, jr], fun z => ?_⟩
    rw [rl z, if_neg fun h => hu (by
     have := h.2.2
     rw [ed, List.all_cons, za] at this
     exact this.1)]
   have eap : appC ([] : List ByteArray) [u] = some [u] := (appC_of (by simp)).trans rfl
   simp only [if_pos hu, sm_l, eap, zb, jl]
   have lp := un_loop (ρ := (((List ByteArray) × Unit) × Rl) ⊕ Int) (fun q => .inr q) (fun ac l => .inl ((l, ()), (a, ((nuW b false).1, ((nuW c false).1, ((parseW (rest.take (ixW wMust rest))).1, ((parseW (r2.take (ixW wUnl r2))).1, ac))))))) us [u] LF (by show us.length < 9223372036854775808; omega) (by rw [List.length_singleton]; omega)
   by_cases hal : us.all nmB = true
   ·rw [if_pos hal] at lp
    refine .inr ⟨_, lp, fun z => ?_⟩
    rw [rl z, if_pos ⟨hp2, by omega, by rw [ed, List.all_cons, hu, hal]; rfl⟩, ed]; rfl
   ·rw [if_neg hal] at lp
    refine .inl ⟨0, lp, fun z => ?_⟩
    rw [rl z, if_neg fun h => hal (by
     have := h.2.2
     rw [ed, List.all_cons, za] at this
     exact this.2)]
end Go.K
namespace Go.K
open Go.Sl Go.Sx Go.Proofs
theorem G49_parse (s : ByteArray) : G49 LF s = some (parseL s) := by
 unfold G49 parseL
 by_cases h8 : 8000 < s.size
 ·simp only [ze (show (s.size : Int) > 8000 by omega), zt, if_pos h8]
 rw [if_neg h8]
 have hln := linesB_len s
 simp only [zd (show ¬ (s.size : Int) > 8000 by omega), zf]
 refine (split_lines (show s.size ≤ 8000 by omega) _).trans ?_
 refine (iter_go (fun i (a : Bool × Cd) => (a.1, (i, (a.2.1, (a.2.2.1, a.2.2.2))))) stepL (fun i a => a.2.2.1.length ≤ i ∧ a.2.2.2.length ≤ i) (linesB s) (fun a => some (finL (linesB s).length a)) (false, zC) ?_ ?_ ?_ (by show (linesB s).length < 9223372036854775808; omega) ⟨Nat.le_refl _, Nat.le_refl _⟩).trans ?_
 ·intro i x a hx hg
  have hi := (List.getElem?_eq_some_iff.1 hx).1
  have hxs := linesB_size (List.mem_of_getElem? hx)
  have hwl := words_len x
  have hgw := words_good x
  have hsw := words_sum x
  obtain ⟨g1, g2⟩ := hg
  simp only [dlt hi, zt, getI_nat hx, zb, G86_words x (by omega), succ_W (show i + 1 < 9223372036854775808 by omega)]
  by_cases hw : wordsB x = []
  ·have st : stepL x i a = .inl a := if_pos (Or.inl hw)
   have hz : decide (((([] : List ByteArray).length : Nat) : Int) = 0) = true := rfl
   rw [st, hw]
   simp only [hz, zt]
  obtain ⟨b, hb, hh⟩ := byte0 hw
  have hl0 : 0 < (wordsB x).length := List.length_pos_iff.2 hw
  have b35 : (((b.toNat : Nat) : Int) = (35 : Int)) ↔ b = 35 := nat_eq (n := 35) (by omega)
  simp only [zd (show ¬ ((wordsB x).length : Int) = 0 by omega), zf, hb, zb, b35]
  by_cases h35 : b = 35
  ·have st : stepL x i a = .inl a := if_pos (Or.inr (by rw [hh, h35]))
   rw [st, ze h35]; rfl
  have st : stepL x i a = match lineL a.1 a.2 (wordsB x) with
   | some c => .inl (true, c)
   | none => .inr (zC, (((i + 1 : Nat) : Int), 46)) := if_neg (fun h => by
    rcases h with h | h
    ·exact hw h
    ·rw [hh] at h; exact h35 (by injection h))
  rw [st]
  clear st hb hh hx
  generalize wordsB x = w at *
  obtain ⟨bg, c1, fs, rs⟩ := a
  have g1 : fs.length ≤ i := g1
  have g2 : rs.length ≤ i := g2
  obtain ⟨x0, ws, rfl⟩ : ∃ x0 ws, w = x0 :: ws := by
   cases w with
   | nil => exact absurd rfl hw
   | cons x0 ws => exact ⟨x0, ws, rfl⟩
  have hgs : GoodW ws := hgw.tl
  have hss : sumW ws ≤ 8001 := by
   have : sumW (x0 :: ws) = x0.size + 1 + sumW ws := rfl
   omega
  have w0 : wAt (x0 :: ws) 0 = x0 := rfl
  simp only [zd h35, zf, G198_cons, zb, sm_l, qCode, qFact, qRule]
  cases bg with
  | false =>
   by_cases hk : x0 = wCode
   ·simp only [ze hk, Bool.not_true, decide_true, G199_t, zb, sm_l, zt]
    cases ws with
    | nil => simp only [G200_nil, zb, sm_r, jr, jl, zt]; rfl
    | cons v r =>
     simp only [G200_cons, zb]
     by_cases hv : nmB v = true
     ·simp only [if_pos hv, sm_l, jl]
      cases r with
      | nil =>
       have hL : lineL false (c1, (fs, rs)) [x0, v] = some (v, (fs, rs)) := (lineL_2 _ _ _).trans (if_pos ⟨hk, hv⟩)
       rw [hL]
       rfl
      | cons y r =>
       have hL : lineL false (c1, (fs, rs)) (x0 :: v :: y :: r) = none := rfl
       rw [hL]
       have e0 : decide (((y :: r).length : Int) = 0) = false := zd (by rw [zc]; omega)
       simp only [e0, G199_f, zb, sm_r, jl, zt]
     ·have hL : lineL false (c1, (fs, rs)) (x0 :: v :: r) = none := by
       cases r with
       | nil => exact (lineL_2 _ _ _).trans (if_neg fun h => hv h.2)
       | cons _ _ => rfl
      rw [hL]
      simp only [if_neg hv, sm_r, jr, jl, zt]
   ·have hL : lineL false (c1, (fs, rs)) (x0 :: ws) = none := by
     match ws with
     | [] => rfl
     | [v] => exact (lineL_2 _ _ _).trans (if_neg fun h => hk h.1)
     | _ :: _ :: _ => rfl
    rw [hL]
    have e : decide (false = (!(decide (x0 = wCode)))) = false := by rw [zd hk]; rfl
    simp only [e, G199_f, zb, sm_r, jl, zt]
  | true =>
   by_cases hk : x0 = wCode
   ·have hL : lineL true (c1, (fs, rs)) (x0 :: ws) = none := by
     unfold lineL
     rw [if_neg (by decide), w0, hk, if_neg (by decide), if_neg (by decide)]
    rw [hL]
    have e : decide (true = (!(decide (x0 = wCode)))) = false := by rw [ze hk]; rfl
    simp only [e, G199_f, zb, sm_r, jl, zt]
   have e : decide (true = (!(decide (x0 = wCode)))) = true := by rw [zd hk]; rfl
   simp only [e, G199_t, zb, sm_l, zd hk, zf]
   by_cases hf : x0 = wFact
   ·have hL : lineL true (c1, (fs, rs)) (x0 :: ws) = (factL (x0 :: ws)).map (fun f => (c1, (fs ++ [f], rs))) := by
     unfold lineL
     rw [if_neg (by decide), w0, if_pos hf]
    rw [hL]
    simp only [ze hf, zt]
    rcases G201_fact hss with ⟨q, e1, e2⟩ | ⟨r, f, e1, e2⟩
    ·rw [e2]
     simp only [e1, zb, sm_r, jr, jl, zt]; rfl
    ·rw [e2]
     simp only [e1, zb, sm_l, appC_of (show fs.length + [(f.1, (f.2.1, f.2.2))].length ≤ 1099511627776 by rw [List.length_singleton]; omega), jl]
     cases r with
     | nil => rfl
     | cons y r =>
      have e0 : decide (((y :: r).length : Int) = 0) = false := zd (by rw [zc]; omega)
      simp only [e0, G199_f, zb, sm_r, jl, zt]
      rfl
   ·by_cases hr : x0 = wRule
    ·have hL : lineL true (c1, (fs, rs)) (x0 :: ws) = (ruleL (x0 :: ws)).map (fun r => (c1, (fs, rs ++ [r]))) := by
      unfold lineL
      rw [if_neg (by decide), w0, if_neg hf, if_pos hr]
     rw [hL]
     simp only [zd hf, ze hr, zf, zt]
     rcases G202_rule hgs hss with ⟨q, e1, e2⟩ | ⟨r, e1, e2⟩
     ·rw [e2]
      simp only [e1, zb, sm_r, jr, jl, zt]; rfl
     ·rw [e2]
      simp only [e1, zb, sm_l, appC_of (show rs.length + [(r.1, (r.2.1, (r.2.2.1, (r.2.2.2.1, (r.2.2.2.2.1, r.2.2.2.2.2)))))].length ≤ 1099511627776 by rw [List.length_singleton]; omega), jl]
      rfl
    ·have hL : lineL true (c1, (fs, rs)) (x0 :: ws) = none := by
      unfold lineL
      rw [if_neg (by decide), w0, if_neg hf, if_neg hr]
     rw [hL]
     simp only [zd hf, zd hr, zf, G199_f, zb, sm_r, jr, jl, zt]
     rfl
 ·intro i x a a' hx hg hs
  exact stepL_len hs hg
 ·intro a hg
  simp only [dnlt, zf, succ_W (show (linesB s).length + 1 < 9223372036854775808 by omega)]
  congr 1
  unfold finL
  cases a.1 with
  | false => rfl
  | true =>
   simp only [Bool.not_true, zf, show G31 LF (a.2.1, (a.2.2.1, a.2.2.2)) = some (codeE a.2) from G31_code a.2, zb]
   rw [if_neg (by decide)]
   by_cases h0 : codeE a.2 = 0
   ·simp only [ze h0, Bool.not_true, zf, if_pos h0]
   ·simp only [zd h0, Bool.not_false, zt, if_neg h0]
 ·cases foldS stepL (linesB s) 0 (false, zC) <;> rfl
end Go.K
namespace Go.K
open Go.Sl Go.Sx Go.Proofs
theorem plF_get {f : List Fct} {s : ByteArray} (h : f.any (fun x => decide (x.1 = s)) = true) : ∃ n : Nat, plF f s = (n : Int) ∧ n < f.length ∧ ∃ x, f[n]? = some x ∧ x.1 = s := by
 rw [← idx_any] at h
 cases hi : idx (fun x : Fct => decide (x.1 = s)) f 0 with
 | none => rw [hi] at h; cases h
 | some n =>
  obtain ⟨x, e1, e2, _⟩ := idx_some hi
  exact ⟨n, by unfold plF idxI; rw [hi], idx_lt hi, x, e1, by simpa using e2⟩
theorem term_ok {f : List Fct} {t : Tm} {i : Nat} (h : condS f t i = none) : shp t i = true ∧ (cmpK t.1 = true → f.any (fun x => decide (x.1 = t.2.2.2.1)) = true) := by
 unfold condS at h
 cases h1 : shp t i with
 | false => rw [h1] at h; cases h
 | true =>
  rw [h1] at h
  simp only [Bool.not_true, zf] at h
  refine ⟨rfl, fun hc => ?_⟩
  rw [hc] at h
  cases h2 : f.any (fun x => decide (x.1 = t.2.2.2.1)) with
  | true => rfl
  | false => rw [h2] at h; cases h
inductive Kdt (f : List Fct) (i : Nat) : Tm → Prop
 | tru {a b s n} : Kdt f i (0, (a, (b, (s, n))))
 | cmp {k a b s n} : (k = 1 ∨ k = 2 ∨ k = 3) → f.any (fun x => decide (x.1 = s)) = true → Kdt f i (k, (a, (b, (s, n))))
 | neg {a : Nat} {b s n} : a < i → Kdt f i (4, ((a : Int), (b, (s, n))))
 | bin {k} {a b : Nat} {s n} : (k = 5 ∨ k = 6) → a < i → b < i → Kdt f i (k, ((a : Int), ((b : Int), (s, n))))
theorem term_kd {f : List Fct} {t : Tm} {i : Nat} (h : condS f t i = none) : Kdt f i t := by
 obtain ⟨h1, h2⟩ := term_ok h
 obtain ⟨k, a, b, s, n⟩ := t
 unfold shp at h1
 simp only at h1 h2
 by_cases k0 : k = 0
 ·subst k0; exact .tru
 ·rw [if_neg k0] at h1
  by_cases k1 : 1 ≤ k ∧ k ≤ 3
  ·exact .cmp (by omega) (h2 (ze k1))
  ·rw [if_neg k1] at h1
   by_cases k4 : k = 4
   ·subst k4
    simp only [if_true, decide_eq_true_eq] at h1
    obtain ⟨m, rfl⟩ := Int.eq_ofNat_of_zero_le h1.2.2.1
    exact .neg (by omega)
   ·rw [if_neg k4] at h1
    by_cases k5 : k = 5 ∨ k = 6
    ·rw [if_pos k5, decide_eq_true_eq] at h1
     obtain ⟨m, rfl⟩ := Int.eq_ofNat_of_zero_le h1.2.2.1
     obtain ⟨q, rfl⟩ := Int.eq_ofNat_of_zero_le h1.2.2.2.2.1
     exact .bin k5 (by omega) (by omega)
    ·rw [if_neg k5] at h1; cases h1
end Go.K
namespace Go.K
open Go.Sl Go.Sx Go.Proofs
structure VC (c : Cd) : Prop where
 fn : c.2.1 ≠ []
 fl : c.2.1.length ≤ 6
 ll : c.2.2.length ≤ 12
 fs : scan (factS c.2.1) c.2.1 0 = none
 rs : scan (ruleS c.2.1 c.2.2) c.2.2 0 = none
 mn : manyL (startsL c.2.1 (condsL c.2.2)) ≤ 4000
theorem VC.of {c : Cd} (h : codeE c = 0) : VC c := by
 unfold codeE at h
 cases h0 : nmB c.1 with
 | false => rw [h0] at h; cases h
 | true =>
  rw [h0] at h
  simp only [Bool.not_true, zf] at h
  split at h
  ·cases h
  ·rename_i h1
   split at h
   ·cases h
   ·rename_i h2
    have key : ∀ (e : Int) (l : List Fct) (i : Nat), scan (factS c.2.1) l i = some e → e ≠ 0 := by
     intro e l
     induction l with
     | nil => intro i hh; cases hh
     | cons x l ih =>
      intro i hh
      simp only [scan] at hh
      cases hf : factS c.2.1 x i with
      | none => rw [hf] at hh; exact ih _ hh
      | some e' =>
       rw [hf] at hh
       cases hh
       unfold factS at hf
       intro he
       subst he
       revert hf
       cases (!nmB x.1 || (c.2.1.take i).any fun y => decide (y.1 = x.1)) with
       | true => simp
       | false => cases spanB x <;> simp
    have key2 : ∀ (e : Int) (l : List Rl) (i : Nat), scan (ruleS c.2.1 c.2.2) l i = some e → e ≠ 0 := by
     intro e l
     induction l with
     | nil => intro i hh; cases hh
     | cons x l ih =>
      intro i hh
      simp only [scan] at hh
      cases hf : ruleS c.2.1 c.2.2 x i with
      | none => rw [hf] at hh; exact ih _ hh
      | some e' =>
       rw [hf] at hh
       cases hh
       unfold ruleS at hf
       split at hf
       ·rename_i hz; cases hf; exact hz
       ·cases hf
    split at h
    ·rename_i e he; exact absurd h (key _ _ _ he)
    ·rename_i he
     split at h
     ·rename_i e he2; exact absurd h (key2 _ _ _ he2)
     ·rename_i he2
      split at h
      ·cases h
      ·rename_i hm
       exact ⟨h1, by omega, by omega, he, he2, by omega⟩
theorem VC.rule {c : Cd} (h : VC c) {i : Nat} {r : Rl} (hr : c.2.2[i]? = some r) : nmB r.1 = true ∧ hasR (c.2.2.take i) r.1 = false ∧ (0 ≤ r.2.1 ∧ r.2.1 ≤ r.2.2.1 ∧ r.2.2.1 ≤ 100000) ∧ condE c.2.1 r.2.2.2.1 = 0 ∧ condE c.2.1 r.2.2.2.2.1 = 0 ∧ r.2.2.2.2.2.length ≤ 6 ∧ (scan (unlS (c.2.2.take i) r.2.2.2.2.2) r.2.2.2.2.2 0).getD 0 = 0 := rule_ok (rules_ok h.rs hr)
theorem VC.fl' {c : Cd} (h : VC c) : c.2.1.length < LF := by show c.2.1.length < 9223372036854775808; have := h.fl; omega
theorem VC.ll' {c : Cd} (h : VC c) : c.2.2.length < LF := by show c.2.2.length < 9223372036854775808; have := h.ll; omega
end Go.K
namespace Go.K
open Go.Sl Go.Sx Go.Proofs
def prodL (l : List (List Int)) : Nat := l.foldr (fun x n => x.length * n) 1
theorem choL_len : ∀ l : List (List Int), (choL l).length = prodL l
 | [] => rfl
 | x :: l => by
  have ih := choL_len l
  show (x.flatMap fun n => (choL l).map (n :: ·)).length = x.length * prodL l
  rw [← ih]
  induction x with
  | nil => simp
  | cons a x ihx => rw [List.flatMap_cons, List.length_append, ihx, List.length_map, zc, Nat.add_mul]; omega
theorem prod_pos : ∀ {l : List (List Int)}, (∀ x ∈ l, x ≠ []) → 1 ≤ prodL l
 | [], _ => Nat.le_refl _
 | x :: l, h => Nat.mul_pos (List.length_pos_iff.2 (h x (List.mem_cons_self ..))) (prod_pos fun y hy => h y (List.mem_cons_of_mem _ hy))
theorem many_prod : ∀ (l : List (List Int)) (n : Nat), (∀ x ∈ l, x ≠ [] ∧ x.length ≤ 1000000) → 1 ≤ n → n ≤ 4001 →
  l.foldl (fun (n : Int) x => if (4001 : Int) < w64 (n * (x.length : Int)) then 4001 else w64 (n * (x.length : Int))) (n : Int) ≤ 4000 → n * prodL l ≤ 4000
 | [], n, _, _, h2, h => by
  simp only [List.foldl_nil] at h
  simp [prodL]; omega
 | x :: l, n, hl, h1, h2, h => by
  obtain ⟨hx0, hx1⟩ := hl x (List.mem_cons_self ..)
  have hxp := List.length_pos_iff.2 hx0
  have hb : n * x.length ≤ 4001 * 1000000 := Nat.mul_le_mul h2 hx1
  have hp : n ≤ n * x.length := Nat.le_mul_of_pos_right _ hxp
  have he : w64 ((n : Int) * (x.length : Int)) = ((n * x.length : Nat) : Int) := by
   rw [← Int.natCast_mul, w64_in (by omega)]
  rw [List.foldl_cons, he] at h
  have hprod := prod_pos (l := l) fun y hy => (hl y (List.mem_cons_of_mem _ hy)).1
  by_cases hc : 4001 < n * x.length
  ·rw [if_pos (by omega)] at h
   have := many_prod l 4001 (fun y hy => hl y (List.mem_cons_of_mem _ hy)) (by omega) (by omega) h
   have : 4001 * 1 ≤ 4001 * prodL l := Nat.mul_le_mul (Nat.le_refl _) hprod
   omega
  ·rw [if_neg (by omega)] at h
   have := many_prod l (n * x.length) (fun y hy => hl y (List.mem_cons_of_mem _ hy)) (by omega) (by omega) h
   show n * (x.length * prodL l) ≤ 4000
   rw [← Nat.mul_assoc]; exact this
theorem rise_le : ∀ {l m : List Int}, Rise l → Rise m → (∀ x ∈ l, x ∈ m) → l.length ≤ m.length
 | [], _, _, _, _ => by simp
 | a :: l, [], _, _, h => absurd (h a (List.mem_cons_self ..)) (by simp)
 | a :: l, b :: m, hl, hm, h => by
  obtain ⟨l1, l2⟩ := List.pairwise_cons.1 hl
  obtain ⟨m1, m2⟩ := List.pairwise_cons.1 hm
  by_cases e : a = b
  ·subst e
   have := rise_le l2 m2 fun x hx => by
    rcases List.mem_cons.1 (h x (List.mem_cons_of_mem _ hx)) with e | e
    ·subst e; exact absurd (l1 x hx) (Int.lt_irrefl _)
    ·exact e
   simp only [zc]; omega
  ·have ha : a ∈ m := by
    rcases List.mem_cons.1 (h a (List.mem_cons_self ..)) with e' | e'
    ·exact absurd e' e
    ·exact e'
   have hb := m1 a ha
   have := rise_le hl m2 fun x hx => by
    rcases List.mem_cons.1 (h x hx) with e' | e'
    ·rcases List.mem_cons.1 hx with e2 | e2
     ·subst e2; exact ha
     ·have := l1 x e2; omega
    ·exact e'
   simp only [zc] at this ⊢; omega
theorem cuts_mem (cs : List Cnd) (x : Fct) : Rise (cutsOf cs x) ∧ ∀ n, n ∈ cutsOf cs x ↔ n = x.2.1 ∨ n ∈ cutN x cs := by
 obtain ⟨h1, h2⟩ := sc_rise (x.2.1 :: cutN x cs)
 exact ⟨h1, fun n => by rw [show cutsOf cs x = compL (sortL (x.2.1 :: cutN x cs)) from rfl, h2, List.mem_cons]⟩
theorem cuts_ne (cs : List Cnd) (x : Fct) : cutsOf cs x ≠ [] := fun e => by
 have := (cuts_mem cs x).2 x.2.1
 rw [e] at this
 simp at this
theorem cutN_mem {x : Fct} {cs : List Cnd} {n : Int} : n ∈ cutN x cs ↔ (∃ c ∈ cs, ∃ t ∈ c, t.2.2.2.1 = x.1 ∧ n ∈ partsL t) ∧ x.2.1 < n ∧ n ≤ x.2.2 := by
 unfold cutN cutT
 simp only [List.mem_flatMap]
 constructor
 ·rintro ⟨c, hc, t, ht, hn⟩
  cases hd : decide (t.2.2.2.1 = x.1) with
  | false => rw [hd] at hn; simp at hn
  | true =>
   rw [hd] at hn
   simp only [zt, List.mem_filter] at hn
   obtain ⟨h1, h2⟩ := hn
   unfold inS at h2
   simp only [za, decide_eq_true_eq] at h2
   exact ⟨⟨c, hc, t, ht, of_decide_eq_true hd, h1⟩, h2.1, h2.2⟩
 ·rintro ⟨⟨c, hc, t, ht, e, h1⟩, h2, h3⟩
  refine ⟨c, hc, t, ht, ?_⟩
  rw [ze e]
  simp only [zt, List.mem_filter]
  exact ⟨h1, by unfold inS; simp [h2, h3]⟩
theorem cutN_len (x : Fct) (cs : List Cnd) (hc : cs.length ≤ 100) (ht : ∀ c ∈ cs, List.length c ≤ 1000) : (cutN x cs).length ≤ 200000 := by
 have := flat_len (fun c : Cnd => c.flatMap (cutT x)) 2000 cs (fun c hc => by
  have h1 := flat_len (cutT x) 2 c (fun t _ => cutT_len x t)
  have h2 := ht c hc
  omega)
 unfold cutN; omega
theorem compact_le (xs : List Int) : (compL xs).length ≤ xs.length := by
 unfold compL Lib.compact Lib.compactUpTo
 rw [List.length_map]
 exact Nat.le_trans (List.length_filter_le _ _) (by simp)
theorem cuts_len (x : Fct) (cs : List Cnd) (hc : cs.length ≤ 100) (ht : ∀ c ∈ cs, List.length c ≤ 1000) : (cutsOf cs x).length ≤ 200001 := by
 have h1 := compact_le (sortL (x.2.1 :: cutN x cs))
 have h2 := sortL_len (x.2.1 :: cutN x cs)
 have h3 := cutN_len x cs hc ht
 unfold cutsOf
 simp only [zc] at h2
 omega
theorem cuts_le {cs : List Cnd} {x y : Fct} (h : fitB x y = true) : (cutsOf cs y).length ≤ (cutsOf cs x).length := by
 unfold fitB at h
 simp only [za, decide_eq_true_eq] at h
 obtain ⟨e, h1, h2, h3⟩ := h
 obtain ⟨r1, m1⟩ := cuts_mem cs y
 obtain ⟨r2, m2⟩ := cuts_mem cs x
 -- without the least one
 have tl : ∀ {z : Fct}, ∃ t, cutsOf cs z = z.2.1 :: t ∧ ∀ n, n ∈ t ↔ n ∈ cutN z cs := by
  intro z
  obtain ⟨r, m⟩ := cuts_mem cs z
  cases hz : cutsOf cs z with
  | nil => exact absurd hz (cuts_ne cs z)
  | cons a t =>
   rw [hz] at r m
   obtain ⟨p1, p2⟩ := List.pairwise_cons.1 r
   have hlo : ∀ n, n ∈ cutN z cs → z.2.1 < n := fun n hn => (cutN_mem.1 hn).2.1
   have ha : a = z.2.1 := by
    rcases (m a).1 (List.mem_cons_self ..) with e | e
    ·exact e
    ·have h1 := hlo a e
     rcases List.mem_cons.1 ((m z.2.1).2 (.inl rfl)) with e' | e'
     ·exact e'.symm
     ·have := p1 _ e'; omega
   subst ha
   refine ⟨t, rfl, fun n => ⟨fun hn => ?_, fun hn => ?_⟩⟩
   ·rcases (m n).1 (List.mem_cons_of_mem _ hn) with e | e
    ·subst e; exact absurd (p1 _ hn) (Int.lt_irrefl _)
    ·exact e
   ·rcases List.mem_cons.1 ((m n).2 (.inr hn)) with e | e
    ·subst e; exact absurd (hlo _ hn) (Int.lt_irrefl _)
    ·exact e
 obtain ⟨t1, e1, n1⟩ := tl (z := y)
 obtain ⟨t2, e2, n2⟩ := tl (z := x)
 rw [e1] at r1
 rw [e2] at r2
 rw [e1, e2]
 have := rise_le (List.pairwise_cons.1 r1).2 (List.pairwise_cons.1 r2).2 fun n hn => by
  rw [n2, cutN_mem]
  obtain ⟨⟨c, hc, t, ht, e', hp⟩, h4, h5⟩ := cutN_mem.1 ((n1 n).1 hn)
  exact ⟨⟨c, hc, t, ht, by rw [e', e], hp⟩, by omega, by omega⟩
 simp only [zc]; omega
theorem fit_iff {f g : List Fct} (h : fitS f g = true) : f.length = g.length ∧ ∀ (i : Nat) (x y : Fct), f[i]? = some x → g[i]? = some y → fitB x y = true := by
 unfold fitS at h
 simp only [za, decide_eq_true_eq, List.all_eq_true] at h
 refine ⟨h.1, fun i x y hx hy => h.2 (x, y) (List.mem_of_getElem? (i := i) ?_)⟩
 rw [List.getElem?_zip_eq_some]
 exact ⟨hx, hy⟩
theorem prod_le : ∀ {l m : List (List Int)}, l.length = m.length → (∀ (i : Nat) (x y : List Int), l[i]? = some x → m[i]? = some y → x.length ≤ y.length) → prodL l ≤ prodL m
 | [], [], _, _ => Nat.le_refl _
 | x :: l, y :: m, h, hh => Nat.mul_le_mul (hh 0 x y rfl rfl) (prod_le (by simpa using h) fun i a b ha hb => hh (i + 1) a b (by simpa using ha) (by simpa using hb))
 | [], _ :: _, h, _ => by simp at h
 | _ :: _, [], h, _ => by simp at h
theorem VC.cl {c : Cd} (h : VC c) : (condsL c.2.2).length ≤ 100 := by rw [conds_len]; have := h.ll; omega
theorem VC.cs {c : Cd} (h : VC c) : ∀ x ∈ condsL c.2.2, List.length x ≤ 1000 := conds_short h.rs
theorem starts_ne (f : List Fct) (cs : List Cnd) : ∀ x ∈ startsL f cs, x ≠ [] := by
 intro x hx
 unfold startsL at hx
 obtain ⟨y, _, rfl⟩ := List.mem_map.1 hx
 exact cuts_ne cs y
theorem starts_get {f : List Fct} {cs : List Cnd} {i : Nat} {x : List Int} (h : (startsL f cs)[i]? = some x) : ∃ y, f[i]? = some y ∧ x = cutsOf cs y := by
 unfold startsL at h
 rw [List.getElem?_map] at h
 cases hf : f[i]? with
 | none => rw [hf] at h; cases h
 | some y => rw [hf] at h; cases h; exact ⟨y, rfl, rfl⟩
theorem VC.prod {c : Cd} (h : VC c) : prodL (startsL c.2.1 (condsL c.2.2)) ≤ 4000 := by
 have := many_prod (startsL c.2.1 (condsL c.2.2)) 1 (fun x hx => ⟨starts_ne _ _ x hx, by
  unfold startsL at hx
  obtain ⟨y, _, rfl⟩ := List.mem_map.1 hx
  have := cuts_len y (condsL c.2.2) h.cl h.cs
  omega⟩) (by omega) (by omega) h.mn
 omega
structure VF (c : Cd) (f : List Fct) : Prop where
 ln : f.length = c.2.1.length
 cs : (choL (startsL f (condsL c.2.2))).length ≤ 4000
 fit : ∀ (i : Nat) (x y : Fct), c.2.1[i]? = some x → f[i]? = some y → fitB x y = true
theorem VF.of {c : Cd} (h : VC c) {f : List Fct} (hf : fitS c.2.1 f = true) : VF c f := by
 obtain ⟨h1, h2⟩ := fit_iff hf
 refine ⟨h1.symm, ?_, h2⟩
 rw [choL_len]
 refine Nat.le_trans (prod_le (m := startsL c.2.1 (condsL c.2.2)) (by simp [startsL, h1]) fun i x y hx hy => ?_) h.prod
 obtain ⟨u, hu, rfl⟩ := starts_get hx
 obtain ⟨w, hw, rfl⟩ := starts_get hy
 exact cuts_le (h2 i w u hw hu)
theorem VC.fact {c : Cd} (h : VC c) {i : Nat} {x : Fct} (hx : c.2.1[i]? = some x) : nmB x.1 = true ∧ (c.2.1.take i).any (fun y => decide (y.1 = x.1)) = false ∧ -1000000000000 ≤ x.2.1 ∧ x.2.1 ≤ x.2.2 ∧ x.2.2 ≤ 1000000000000 := by
 have := scan_none h.fs i x hx
 rw [Nat.zero_add] at this
 unfold factS at this
 cases h1 : !nmB x.1 || (c.2.1.take i).any fun y => decide (y.1 = x.1) with
 | true => rw [h1] at this; cases this
 | false =>
  rw [h1] at this
  simp only [Bool.or_eq_false_iff, Bool.not_eq_false'] at h1
  cases h2 : spanB x with
  | false => rw [h2] at this; cases this
  | true => unfold spanB at h2; exact ⟨h1.1, h1.2, of_decide_eq_true h2⟩
end Go.K
namespace Go.K
open Go.Sl Go.Sx Go.Proofs
theorem VF.prod {c : Cd} {f : List Fct} (h : VF c f) : prodL (startsL f (condsL c.2.2)) ≤ 4000 := by rw [← choL_len]; exact h.cs
end Go.K
namespace Go.K
theorem sane_true : G22 LF () = some true := by kernel_rfl
end Go.K
namespace Go.K
open Go.Sl Go.Sx Go.Proofs
theorem VF.le {c : Cd} {f : List Fct} (h : VF c f) {i : Nat} {x : Fct} (hx : f[i]? = some x) : x.2.1 ≤ x.2.2 := by
 have hi := lt_of_get hx
 have hl := h.ln
 have := h.fit i _ x (List.getElem?_eq_getElem (show i < c.2.1.length by omega)) hx
 unfold fitB at this
 simp only [za, decide_eq_true_eq] at this
 exact this.2.2.1
end Go.K
namespace Go.K
open Go.Sl Go.Sx Go.Proofs
def near1 (l : List Int) (n m : Int) : Prop := m ∈ l ∧ m ≤ n ∧ ∀ k ∈ l, k ≤ n → k ≤ m
def Near (c : Cd) (f : List Fct) (v w : List Int) : Prop := w.length = v.length ∧ ∀ (i : Nat) (x : Fct) (n m : Int), f[i]? = some x → v[i]? = some n → w[i]? = some m → near1 (cutsOf (condsL c.2.2) x) n m
def In (f : List Fct) (v : List Int) : Prop := v.length = f.length ∧ ∀ (i : Nat) (x : Fct) (n : Int), f[i]? = some x → v[i]? = some n → x.2.1 ≤ n ∧ n ≤ x.2.2
theorem cut_side {cs : List Cnd} {x : Fct} {n m : Int} (hx : x.2.1 ≤ n ∧ n ≤ x.2.2) (h : near1 (cutsOf cs x) n m) {cd : Cnd} {t : Tm} (hc : cd ∈ cs) (ht : t ∈ cd) (hn : t.2.2.2.1 = x.1) {k : Int} (hk : k ∈ partsL t) : n < k ↔ m < k := by
 obtain ⟨h1, h2, h3⟩ := h
 have hlo : x.2.1 ≤ m := h3 _ (((cuts_mem cs x).2 _).2 (.inl rfl)) hx.1
 by_cases hk1 : x.2.1 < k
 ·by_cases hk2 : k ≤ x.2.2
  ·have hmem : k ∈ cutsOf cs x := ((cuts_mem cs x).2 k).2 (.inr (cutN_mem.2 ⟨⟨cd, hc, t, ht, hn, hk⟩, hk1, hk2⟩))
   constructor
   ·intro h; omega
   ·intro h
    by_cases hkn : k ≤ n
    ·have := h3 k hmem hkn; omega
    ·omega
  ·omega
 ·omega
theorem Near.term {c : Cd} (h : VC c) {f : List Fct} (hf : VF c f) {v w : List Int} (hv : In f v) (hw : Near c f v w) {cd : Cnd} (hc : cd ∈ condsL c.2.2) (hcd : condE c.2.1 cd = 0) {i : Nat} {t : Tm} (ht : cd[i]? = some t) (l : List Bool) : tmSo c.2.1 v t l = tmSo c.2.1 w t l := by
 obtain ⟨c1, c2, c3⟩ := cond_short hcd
 have hs := c3 i t ht
 have hkd := term_kd hs
 obtain ⟨hshp, hsh2⟩ := term_ok hs
 have htm := List.mem_of_getElem? ht
 cases hkd with
 | tru => rfl
 | neg _ => rfl
 | bin h0 _ _ => rcases h0 with rfl | rfl <;> rfl
 | cmp h1 h2 =>
  rename_i k a b s n
  obtain ⟨p, hp, hpl, x, hx, hxs⟩ := plF_get h2
  have hfl := hf.ln
  have hvl := hv.1
  have hwl := hw.1
  have hfp : f[p]? = some f[p] := List.getElem?_eq_getElem (by omega)
  have hname : x.1 = f[p].1 := by
   have := hf.fit p x f[p] hx hfp
   unfold fitB at this
   simp only [za, decide_eq_true_eq] at this
   exact this.1
  have hvp : v[p]? = some v[p] := List.getElem?_eq_getElem (by omega)
  have hwp : w[p]? = some w[p] := List.getElem?_eq_getElem (by omega)
  have hin := hv.2 p _ _ hfp hvp
  have hne := hw.2 p _ _ _ hfp hvp hwp
  have hside : ∀ q, q ∈ partsL (k, (a, (b, (s, n)))) → (v[p] < q ↔ w[p] < q) := fun q hq => cut_side hin hne hc htm (by show s = f[p].1; rw [← hname, hxs]) hq
  have gv : v.getD (plF c.2.1 s).toNat 0 = v[p] := by rw [hp, Int.toNat_natCast, List.getD_eq_getElem?_getD, hvp]; rfl
  have gw : w.getD (plF c.2.1 s).toNat 0 = w[p] := by rw [hp, Int.toNat_natCast, List.getD_eq_getElem?_getD, hwp]; rfl
  have hnb : -1000000000000 ≤ n ∧ n ≤ 1000000000000 := by
   unfold shp at hshp
   simp only at hshp
   rw [if_neg (by omega), if_pos (by omega), decide_eq_true_eq] at hshp
   exact hshp.2.2
  have hw1 : w64 (n + 1) = n + 1 := w64_in (by omega)
  unfold tmSo
  simp only [gv, gw]
  rcases h1 with rfl | rfl | rfl
  ·have := hside n (by simp [partsL])
   rw [if_neg (by decide), if_pos rfl, if_neg (by decide), if_pos rfl]
   exact decide_eq_decide.2 this
  ·have := hside (n + 1) (by simp [partsL, hw1])
   rw [if_neg (by decide), if_neg (by decide), if_pos rfl, if_neg (by decide), if_neg (by decide), if_pos rfl]
   exact decide_eq_decide.2 (by omega)
  ·have e1 := hside n (by simp [partsL])
   have e2 := hside (n + 1) (by simp [partsL, hw1])
   rw [if_neg (by decide), if_neg (by decide), if_neg (by decide), if_pos rfl, if_neg (by decide), if_neg (by decide), if_neg (by decide), if_pos rfl]
   exact decide_eq_decide.2 (by omega)
theorem Near.so {c : Cd} (h : VC c) {f : List Fct} (hf : VF c f) {v w : List Int} (hv : In f v) (hw : Near c f v w) {cd : Cnd} (hc : cd ∈ condsL c.2.2) (hcd : condE c.2.1 cd = 0) : soB c.2.1 v cd = soB c.2.1 w cd := by
 unfold soB soL
 congr 1
 have key : ∀ (m : Cnd), (∀ t ∈ m, t ∈ cd) → ∀ l, m.foldl (fun l t => l ++ [tmSo c.2.1 v t l]) l = m.foldl (fun l t => l ++ [tmSo c.2.1 w t l]) l := by
  intro m
  induction m with
  | nil => intro _ l; rfl
  | cons t m ih =>
   intro hs l
   obtain ⟨i, hi⟩ := List.mem_iff_getElem?.1 (hs t (List.mem_cons_self ..))
   rw [List.foldl_cons, List.foldl_cons, hw.term h hf hv hc hcd hi, ih (fun q hq => hs q (List.mem_cons_of_mem _ hq))]
 exact key cd (fun _ h => h) []
theorem conds_mem {l : List Rl} {r : Rl} (h : r ∈ l) : r.2.2.2.1 ∈ condsL l ∧ r.2.2.2.2.1 ∈ condsL l := by
 unfold condsL
 exact ⟨List.mem_flatMap.2 ⟨r, h, List.mem_cons_self ..⟩, List.mem_flatMap.2 ⟨r, h, List.mem_cons_of_mem _ (List.mem_cons_self ..)⟩⟩
theorem VC.conds {c : Cd} (h : VC c) {r : Rl} (hr : r ∈ c.2.2) : condE c.2.1 r.2.2.2.1 = 0 ∧ condE c.2.1 r.2.2.2.2.1 = 0 := by
 obtain ⟨i, hi⟩ := List.mem_iff_getElem?.1 hr
 obtain ⟨_, _, _, h1, h2, _⟩ := h.rule hi
 exact ⟨h1, h2⟩
theorem Near.binds {c : Cd} (h : VC c) {f : List Fct} (hf : VF c f) {v w : List Int} (hv : In f v) (hw : Near c f v w) (d : Int) : bindsL c d v = bindsL c d w := by
 unfold bindsL
 have key : ∀ (m : List Rl), (∀ r ∈ m, r ∈ c.2.2) → ∀ out, nbL c.2.1 c.2.2 d v m out = nbL c.2.1 c.2.2 d w m out := by
  intro m
  induction m with
  | nil => intro _ out; rfl
  | cons r m ih =>
   intro hs out
   have hr := hs r (List.mem_cons_self ..)
   have e : bindB c.2.1 c.2.2 d v r out = bindB c.2.1 c.2.2 d w r out := by
    unfold bindB
    rw [hw.so h hf hv (conds_mem hr).1 (h.conds hr).1]
   simp only [nbL, e]
   rw [ih (fun q hq => hs q (List.mem_cons_of_mem _ hq))]
 exact key c.2.2 (fun _ h => h) []
theorem Near.kept {c : Cd} (h : VC c) {f : List Fct} (hf : VF c f) {v w : List Int} (hv : In f v) (hw : Near c f v w) (d : Int) : keptL c d v = keptL c d w := by
 unfold keptL
 rw [hw.binds h hf hv d]
 have key : ∀ (m : List Rl), (∀ r ∈ m, r ∈ c.2.2) → ∀ bs : List Bool, List.zipWith (fun b (r : Rl) => !b || soB c.2.1 v r.2.2.2.2.1) bs m = List.zipWith (fun b (r : Rl) => !b || soB c.2.1 w r.2.2.2.2.1) bs m := by
  intro m
  induction m with
  | nil => intro _ bs; simp
  | cons r m ih =>
   intro hs bs
   have hr := hs r (List.mem_cons_self ..)
   cases bs with
   | nil => rfl
   | cons b bs =>
    simp only [List.zipWith_cons_cons]
    rw [hw.so h hf hv (conds_mem hr).2 (h.conds hr).2, ih (fun q hq => hs q (List.mem_cons_of_mem _ hq))]
 exact key c.2.2 (fun _ h => h) _
end Go.K
namespace Go.K
open Go.Sl Go.Sx Go.Proofs
theorem same_loop {σ : Type} {f : Int → Option (Int ⊕ Bool)} (l : List σ) (h1 : ∀ (i : Nat) x, l[i]? = some x → f (i : Int) = some (.inl ((i + 1 : Nat) : Int))) (h2 : f (l.length : Int) = some (.inr true)) (hl : l.length < LF) : iter LF f 0 = some true := by
 refine (iter_scan (fun (_ : σ) _ => (none : Option Bool)) l (some true) (fun i x hx _ => h1 i x hx) (fun _ => h2) hl).trans ?_
 have : ∀ (l : List σ) (i : Nat), scan (fun (_ : σ) _ => (none : Option Bool)) l i = none := by
  intro l
  induction l with
  | nil => intro i; rfl
  | cons x l ih => intro i; simp only [scan]; exact ih _
 rw [this]
theorem G33_same (l : List ByteArray) (hl : l.length < LF) : G33 LF (l, l) = some true := by
 unfold G33
 simp only [decide_true, Bool.not_true, zf]
 refine same_loop l (fun i x hx => ?_) ?_ hl
 ·have hi := lt_of_get hx
  simp only [dlt hi, zt, getI_nat hx, zb, eqD, decide_true, Bool.not_true, zf, succ_W (Nat.lt_of_le_of_lt hi hl)]
 ·simp only [dnlt, zf]
end Go.K
namespace Go.K
open Go.Sl Go.Sx Go.Proofs
abbrev Cl := Int × (Int × (Int × List Int))
end Go.K
namespace Go.K
open Go.Sl Go.Sx Go.Proofs
theorem cond_len {f : List Fct} {c : Cnd} (h : condE f c = 0) : List.length c ≤ 30 := by
 unfold condE at h
 split at h
 ·cases h
 ·omega
theorem VC.lens {c : Cd} (h : VC c) {i : Nat} {r : Rl} (hr : c.2.2[i]? = some r) : List.length r.2.2.2.1 ≤ 30 ∧ List.length r.2.2.2.2.1 ≤ 30 ∧ r.2.2.2.2.2.length ≤ 6 := by
 obtain ⟨h1, h2⟩ := h.conds (List.mem_of_getElem? hr)
 exact ⟨cond_len h1, cond_len h2, (h.rule hr).2.2.2.2.2.1⟩
theorem G54_same (l : List Fct) (hl : l.length < LF) : G54 LF (l, l) = some true := by
 unfold G54
 simp only [decide_true, Bool.not_true, zf]
 refine same_loop l (fun i x hx => ?_) ?_ hl
 ·have hi := lt_of_get hx
  simp only [dlt hi, zt, getI_nat hx, zb, eqD, decide_true, Bool.and_self, Bool.and_true, Bool.not_true, zf, succ_W (Nat.lt_of_le_of_lt hi hl)]
 ·simp only [dnlt, zf]
theorem G21_same (l : Cnd) (hl : List.length l < LF) : G21 LF (l, l) = some true := by
 unfold G21
 simp only [decide_true, Bool.not_true, zf]
 refine same_loop l (fun i x hx => ?_) ?_ hl
 ·have hi := lt_of_get hx
  simp only [dlt hi, zt, getI_nat hx, zb, eqD, decide_true, Bool.and_self, Bool.and_true, Bool.not_true, zf, succ_W (Nat.lt_of_le_of_lt hi hl)]
 ·simp only [dnlt, zf]
theorem G53_same (c : Cd) (h1 : c.2.1.length < LF) (h2 : c.2.2.length < LF) (h3 : ∀ r ∈ c.2.2, List.length r.2.2.2.1 < LF ∧ List.length r.2.2.2.2.1 < LF ∧ r.2.2.2.2.2.length < LF) : G53 LF (c, c) = some true := by
 unfold G53
 simp only [eqD, decide_true, Bool.not_true, zf, G54_same _ h1, zb, jl]
 refine same_loop c.2.2 (fun i x hx => ?_) ?_ h2
 ·have hi := lt_of_get hx
  obtain ⟨l1, l2, l3⟩ := h3 x (List.mem_of_getElem? hx)
  simp only [dlt hi, zt, getI_nat hx, zb, eqD, decide_true, Bool.not_true, zf, G21_same _ l1, G21_same _ l2, G33_same _ l3, jl, succ_W (Nat.lt_of_le_of_lt hi h2)]
 ·simp only [dnlt, zf]
end Go.K
namespace Go.K
open Go.Sl Go.Sx Go.Proofs
theorem zC_same : G53 LF (zC, zC) = some true := G53_same _ (by show 0 < 9223372036854775808; decide) (by show 0 < 9223372036854775808; decide) (by simp)
theorem code_same {c : Cd} (h : codeE c = 0) : G53 LF (c, c) = some true := by
 have hv := VC.of h
 refine G53_same _ hv.fl' hv.ll' fun q hq => ?_
 obtain ⟨i, hi⟩ := List.getElem?_of_mem hq
 obtain ⟨l1, l2, l3⟩ := hv.lens hi
 show List.length q.2.2.2.1 < 9223372036854775808 ∧ List.length q.2.2.2.2.1 < 9223372036854775808 ∧ q.2.2.2.2.2.length < 9223372036854775808
 omega
theorem parseL_ok (s : ByteArray) : (parseL s).1 = zC ∨ codeE (parseL s).1 = 0 := by
 unfold parseL
 by_cases h8 : 8000 < s.size
 ·rw [if_pos h8]; exact .inl rfl
 rw [if_neg h8]
 have key : ∀ (l : List ByteArray) (i : Nat) (a : Bool × Cd) (e : Cd × (Int × Int)), foldS stepL l i a = .inr e → e.1 = zC := by
  intro l
  induction l with
  | nil => intro i a e h; cases h
  | cons x l ih =>
   intro i a e h
   unfold foldS at h
   cases hs : stepL x i a with
   | inl a' => rw [hs] at h; exact ih _ _ _ h
   | inr e' =>
    rw [hs] at h
    cases h
    unfold stepL at hs
    split at hs
    ·cases hs
    ·split at hs
     ·cases hs
     ·cases hs; rfl
 cases hf : foldS stepL (linesB s) 0 (false, zC) with
 | inr e => exact .inl (key _ _ _ _ hf)
 | inl a =>
  simp only
  unfold finL
  split
  ·exact .inl rfl
  ·split
   ·rename_i h; exact .inr h
   ·exact .inl rfl
theorem parseL_same (s : ByteArray) : G53 LF ((parseL s).1, (parseL s).1) = some true := by
 rcases parseL_ok s with h | h
 ·rw [h]; exact zC_same
 ·exact code_same h
theorem G10_true (x : ByteArray × Cd) : G10 LF x = some true := by
 obtain ⟨s, c⟩ := x
 unfold G10
 have hcut : cutC s (0 : Int) (if (4000 : Int) < (s.size : Int) then (4000 : Int) else (s.size : Int)) = some () := cutC_of (by
  split
  ·refine ⟨by omega, by omega, by omega⟩
  ·refine ⟨by omega, by omega, by omega⟩)
 simp only [hcut, zb]
 generalize ByteArray.extract s 0 (Int.toNat (if (4000 : Int) < (s.size : Int) then (4000 : Int) else (s.size : Int))) = p
 have hb : ∀ l : List UInt8, (l == l) = true := fun l => by simp
 have e1 : G51 LF (c.1, (c.2.1, c.2.2)) = some (printC c) := G51_print c
 have e2 : G52 LF (c.1, (c.2.1, c.2.2)) = some (printC c) := G52_print c
 have e3 : G53 LF (((parseL p).1.1, ((parseL p).1.2.1, (parseL p).1.2.2)), ((parseL p).1.1, ((parseL p).1.2.1, (parseL p).1.2.2))) = some true := parseL_same p
 simp only [G49_parse, G50_parse, e1, e2, e3, zb, zt, decide_true, hb, sane_true]
end Go.K
set_option maxHeartbeats 0
namespace Go.K
noncomputable section
open Go.Sl Go.Sx Go.Proofs
def S21x : FuncId → Sp := fun g => match g with
 | 21 => { loops := [(4, [(.slot 16, .dat .i)])] }
 | 128 => { nz := [(11, [12])] }
 | _ => {}
def F21x (P : Program) (lf : Nat) (x : tt [(true, (.sl Yp)), (true, (.sl Yp))]) : Option (tt [(false, .bool)]) := fnF P (C33 P lf) S21x 21 [(true, (.sl Yp)), (true, (.sl Yp))] [(false, .bool)] lf x
def C21x (P : Program) (lf : Nat) : FuncId → Option Con := extC (C33 P lf) 21 (dataCon [(true, (.sl Yp)), (true, (.sl Yp))] [(false, .bool)] (F21x P lf))
def S54x : FuncId → Sp := fun g => match g with
 | 54 => { loops := [(4, [(.slot 13, .dat .i)])] }
 | 128 => { nz := [(11, [12])] }
 | _ => {}
def F54x (P : Program) (lf : Nat) (x : tt [(false, (.sl (.pair .str (.pair .i .i)))), (false, (.sl (.pair .str (.pair .i .i))))]) : Option (tt [(false, .bool)]) := fnF P (C21x P lf) S54x 54 [(false, (.sl (.pair .str (.pair .i .i)))), (false, (.sl (.pair .str (.pair .i .i))))] [(false, .bool)] lf x
def C54x (P : Program) (lf : Nat) : FuncId → Option Con := extC (C21x P lf) 54 (dataCon [(false, (.sl (.pair .str (.pair .i .i)))), (false, (.sl (.pair .str (.pair .i .i))))] [(false, .bool)] (F54x P lf))
def S53x : FuncId → Sp := fun g => match g with
 | 53 => { joins := [(9, [(.slot 88, .dat .bool)]), (2, [(.slot 29, .dat .bool)])], loops := [(4, [(.slot 33, .dat .i)])] }
 | 128 => { nz := [(11, [12])] }
 | _ => {}
def F53x (P : Program) (lf : Nat) (x : tt [(true, (.pair .str (.pair (.sl (.pair .str (.pair .i .i))) (.sl Yq)))), (true, (.pair .str (.pair (.sl (.pair .str (.pair .i .i))) (.sl Yq))))]) : Option (tt [(false, .bool)]) := fnF P (C54x P lf) S53x 53 [(true, (.pair .str (.pair (.sl (.pair .str (.pair .i .i))) (.sl Yq)))), (true, (.pair .str (.pair (.sl (.pair .str (.pair .i .i))) (.sl Yq))))] [(false, .bool)] lf x
def C53x (P : Program) (lf : Nat) : FuncId → Option Con := extC (C54x P lf) 53 (dataCon [(true, (.pair .str (.pair (.sl (.pair .str (.pair .i .i))) (.sl Yq)))), (true, (.pair .str (.pair (.sl (.pair .str (.pair .i .i))) (.sl Yq))))] [(false, .bool)] (F53x P lf))
def S90x : FuncId → Sp := fun g => match g with
 | 90 => { joins := [(7, [(.slot 21, .dat .bool)])], loops := [(4, [(.slot 4, .dat .str), (.slot 3, .own .str 9), (.slot 5, .dat .i)])] }
 | 128 => { nz := [(11, [12])] }
 | _ => {}
def F90x (P : Program) (lf : Nat) (x : tt [(false, .str)]) : Option (tt [(false, (.sl .str))]) := fnF P (C53x P lf) S90x 90 [(false, .str)] [(false, (.sl .str))] lf x
def C90x (P : Program) (lf : Nat) : FuncId → Option Con := extC (C53x P lf) 90 (dataCon [(false, .str)] [(false, (.sl .str))] (F90x P lf))
def S276x : FuncId → Sp := fun g => match g with
 | 128 => { nz := [(11, [12])] }
 | _ => {}
def F276x (P : Program) (lf : Nat) (x : tt [(false, .str)]) : Option (tt [(false, .i), (false, .bool), (false, .bool)]) := fnF P (C90x P lf) S276x 276 [(false, .str)] [(false, .i), (false, .bool), (false, .bool)] lf x
def C276x (P : Program) (lf : Nat) : FuncId → Option Con := extC (C90x P lf) 276 (dataCon [(false, .str)] [(false, .i), (false, .bool), (false, .bool)] (F276x P lf))
def S203x : FuncId → Sp := fun g => match g with
 | 203 => { joins := [(12, [(.slot 63, .dat .bool)]), (6, [(.slot 47, .dat .bool)]), (5, [(.slot 8, .dat .i), (.slot 0, .dat .str)]), (3, [(.slot 26, .dat .bool)])], loops := [(9, [(.slot 9, .dat .i), (.slot 10, .dat .i)])] }
 | 128 => { nz := [(11, [12])] }
 | _ => {}
def F203x (P : Program) (lf : Nat) (x : tt [(false, .str), (false, .i), (false, .bool)]) : Option (tt [(false, .i), (false, .bool)]) := fnF P (C276x P lf) S203x 203 [(false, .str), (false, .i), (false, .bool)] [(false, .i), (false, .bool)] lf x
def C203x (P : Program) (lf : Nat) : FuncId → Option Con := extC (C276x P lf) 203 (dataCon [(false, .str), (false, .i), (false, .bool)] [(false, .i), (false, .bool)] (F203x P lf))
abbrev CK245x : List CK := [.d (.sl .str), .d .i, .d .i, .o Yp 131]
abbrev U245x : AT := (true, .i)
def S245x : FuncId → Sp := fun g => match g with
 | 245 => { joins := [(29, [(.slot 128, .dat .bool)]), (28, [(.slot 12, .dat .i), (.slot 13, .dat .bool)]), (23, [(.slot 8, .dat .str)]), (13, [(.slot 62, .dat .bool)]), (12, [(.slot 7, .dat .i), (.cell 0 3, .own Yp 131), (.cell 0 0, .dat (.sl .str)), (.cell 0 1, .dat .i), (.cell 0 2, .dat .i)]), (3, [(.slot 22, .dat .bool)]), (2, [(.slot 5, .dat .str)])] }
 | 163 => { joins := [(5, [(.slot 6, .dat .i), (.cell 0 3, .own Yp 131), (.cell 0 0, .dat (.sl .str)), (.cell 0 1, .dat .i), (.cell 0 2, .dat .i)]), (2, [(.slot 5, .dat .i), (.cell 0 3, .own Yp 131), (.cell 0 0, .dat (.sl .str)), (.cell 0 1, .dat .i), (.cell 0 2, .dat .i)])], loops := [(2, [(.slot 5, .dat .i), (.cell 0 3, .own Yp 131), (.cell 0 0, .dat (.sl .str)), (.cell 0 1, .dat .i), (.cell 0 2, .dat .i)])] }
 | 217 => { loops := [(2, [(.slot 5, .dat .i), (.cell 0 3, .own Yp 131), (.cell 0 0, .dat (.sl .str)), (.cell 0 1, .dat .i), (.cell 0 2, .dat .i)])] }
 | 128 => { nz := [(11, [12])] }
 | _ => {}
def F245x (P : Program) (lf : Nat) : Nat → ckT CK245x × tt [(false, .i)] → Option ((ckT CK245x × tt [(false, .i)]) ⊕ U245x.2.den)
 | 0, _ => none
 | n + 1, x => fnR P (extC (C203x P lf) 245 (refCon 209 CK245x [(false, .i)] [(false, .i)] 122 U245x (F245x P lf n))) S245x 245 209 CK245x [(false, .i)] [(false, .i)] 122 U245x lf x
def C245x (P : Program) (lf : Nat) : FuncId → Option Con := extC (C203x P lf) 245 (refCon 209 CK245x [(false, .i)] [(false, .i)] 122 U245x (F245x P lf lf))
theorem F245x_eq (lf n : Nat) (a0 : (List ByteArray)) (a1 : Int) (a2 : Int) (a3 : Yt) (a4 : Int) : F245x Tryz.prog lf (n + 1) ((a0, (a1, (a2, (a3, ())))), a4) =
 jn (cond (decide (a1 < (a0.length : Int))) (((getI a0 a1)).bind fun r103 => some (.inl r103)) (some (.inl (bts [])))) (fun y104 : ByteArray => jn (cond ((ByteArray.toList y104) == [(UInt8.ofNat 110), (UInt8.ofNat 111), (UInt8.ofNat 116)]) (some (.inl true)) (some (.inl ((ByteArray.toList y104) == [(UInt8.ofNat 40)])))) (fun y105 : Bool => cond y105 (cond (decide (a4 = (8 : Int))) (cond (decide (a2 = (0 : Int))) (some (.inl ((a0, (a1, ((w64 (a1 + (1 : Int))), (a3, ())))), (0 : Int)))) (some (.inl ((a0, (a1, (a2, (a3, ())))), (0 : Int))))) (cond ((ByteArray.toList y104) == [(UInt8.ofNat 110), (UInt8.ofNat 111), (UInt8.ofNat 116)]) (((F245x Tryz.prog lf n ((a0, ((w64 (a1 + (1 : Int))), (a2, (a3, ())))), (w64 (a4 + (1 : Int)))))).bind fun r106 => sm r106 (fun r107 : (((List ByteArray) × (Int × (Int × (Yt × PUnit)))) × Int) => cond (!(decide (r107.1.2.2.1 = (0 : Int)))) (some (.inl ((r107.1.1, (r107.1.2.1, (r107.1.2.2.1, (r107.1.2.2.2.1, ())))), (0 : Int)))) (((appC r107.1.2.2.2.1 [((4 : Int), (r107.2, ((0 : Int), ((bts []), (0 : Int)))))])).bind fun r108 => some (.inl ((r107.1.1, (r107.1.2.1, (r107.1.2.2.1, (r108, ())))), (w64 ((r108.length : Int) - (1 : Int))))))) (fun r109 : Int => some (.inr r109))) (jn (jn (((F245x Tryz.prog lf n ((a0, ((w64 (a1 + (1 : Int))), (a2, (a3, ())))), (w64 (a4 + (1 : Int)))))).bind fun r110 => sm r110 (fun r111 : (((List ByteArray) × (Int × (Int × (Yt × PUnit)))) × Int) => iter lf (fun y112 : (Int × (Yt × ((List ByteArray) × (Int × Int)))) => cond (decide (y112.2.2.2.2 = (0 : Int))) (cond (decide (y112.2.2.2.1 < (y112.2.2.1.length : Int))) (((getI y112.2.2.1 y112.2.2.2.1)).bind fun r113 => cond ((ByteArray.toList r113) == [(UInt8.ofNat 97), (UInt8.ofNat 110), (UInt8.ofNat 100)]) (((F245x Tryz.prog lf n ((y112.2.2.1, ((w64 (y112.2.2.2.1 + (1 : Int))), (y112.2.2.2.2, (y112.2.1, ())))), (w64 (a4 + (1 : Int)))))).bind fun r114 => sm r114 (fun r115 : (((List ByteArray) × (Int × (Int × (Yt × PUnit)))) × Int) => cond (decide (r115.1.2.2.1 = (0 : Int))) (((appC r115.1.2.2.2.1 [((5 : Int), (y112.1, (r115.2, ((bts []), (0 : Int)))))])).bind fun r116 => some (.inl ((w64 ((r116.length : Int) - (1 : Int))), (r116, (r115.1.1, (r115.1.2.1, r115.1.2.2.1)))))) (some (.inl (y112.1, (r115.1.2.2.2.1, (r115.1.1, (r115.1.2.1, r115.1.2.2.1))))))) (fun r117 : Int => some (.inr (.inr (.inr (.inr r117)))))) (some (.inr (.inl (y112.1, (y112.2.1, (y112.2.2.1, (y112.2.2.2.1, y112.2.2.2.2)))))))) (some (.inr (.inl (y112.1, (y112.2.1, (y112.2.2.1, (y112.2.2.2.1, y112.2.2.2.2)))))))) (some (.inr (.inl (y112.1, (y112.2.1, (y112.2.2.1, (y112.2.2.2.1, y112.2.2.2.2)))))))) (r111.2, (r111.1.2.2.2.1, (r111.1.1, (r111.1.2.1, r111.1.2.2.1))))) (fun r118 : Int => some (.inr (.inr (.inr r118))))) (fun y119 : (Int × (Yt × ((List ByteArray) × (Int × Int)))) => iter lf (fun y120 : (Int × (Yt × ((List ByteArray) × (Int × Int)))) => cond (decide (y120.2.2.2.2 = (0 : Int))) (cond (decide (y120.2.2.2.1 < (y120.2.2.1.length : Int))) (((getI y120.2.2.1 y120.2.2.2.1)).bind fun r121 => cond ((ByteArray.toList r121) == [(UInt8.ofNat 111), (UInt8.ofNat 114)]) (jn (((F245x Tryz.prog lf n ((y120.2.2.1, ((w64 (y120.2.2.2.1 + (1 : Int))), (y120.2.2.2.2, (y120.2.1, ())))), (w64 (a4 + (1 : Int)))))).bind fun r122 => sm r122 (fun r123 : (((List ByteArray) × (Int × (Int × (Yt × PUnit)))) × Int) => iter lf (fun y124 : (Int × (Yt × ((List ByteArray) × (Int × Int)))) => cond (decide (y124.2.2.2.2 = (0 : Int))) (cond (decide (y124.2.2.2.1 < (y124.2.2.1.length : Int))) (((getI y124.2.2.1 y124.2.2.2.1)).bind fun r125 => cond ((ByteArray.toList r125) == [(UInt8.ofNat 97), (UInt8.ofNat 110), (UInt8.ofNat 100)]) (((F245x Tryz.prog lf n ((y124.2.2.1, ((w64 (y124.2.2.2.1 + (1 : Int))), (y124.2.2.2.2, (y124.2.1, ())))), (w64 (a4 + (1 : Int)))))).bind fun r126 => sm r126 (fun r127 : (((List ByteArray) × (Int × (Int × (Yt × PUnit)))) × Int) => cond (decide (r127.1.2.2.1 = (0 : Int))) (((appC r127.1.2.2.2.1 [((5 : Int), (y124.1, (r127.2, ((bts []), (0 : Int)))))])).bind fun r128 => some (.inl ((w64 ((r128.length : Int) - (1 : Int))), (r128, (r127.1.1, (r127.1.2.1, r127.1.2.2.1)))))) (some (.inl (y124.1, (r127.1.2.2.2.1, (r127.1.1, (r127.1.2.1, r127.1.2.2.1))))))) (fun r129 : Int => some (.inr (.inr (.inr (.inr (.inr r129))))))) (some (.inr (.inl (y124.1, (y124.2.1, (y124.2.2.1, (y124.2.2.2.1, y124.2.2.2.2)))))))) (some (.inr (.inl (y124.1, (y124.2.1, (y124.2.2.1, (y124.2.2.2.1, y124.2.2.2.2)))))))) (some (.inr (.inl (y124.1, (y124.2.1, (y124.2.2.1, (y124.2.2.2.1, y124.2.2.2.2)))))))) (r123.2, (r123.1.2.2.2.1, (r123.1.1, (r123.1.2.1, r123.1.2.2.1))))) (fun r130 : Int => some (.inr (.inr (.inr (.inr r130)))))) (fun y131 : (Int × (Yt × ((List ByteArray) × (Int × Int)))) => cond (decide (y131.2.2.2.2 = (0 : Int))) (((appC y131.2.1 [((6 : Int), (y120.1, (y131.1, ((bts []), (0 : Int)))))])).bind fun r132 => some (.inl ((w64 ((r132.length : Int) - (1 : Int))), (r132, (y131.2.2.1, (y131.2.2.2.1, y131.2.2.2.2)))))) (some (.inl (y120.1, (y131.2.1, (y131.2.2.1, (y131.2.2.2.1, y131.2.2.2.2)))))))) (some (.inr (.inl (y120.1, (y120.2.1, (y120.2.2.1, (y120.2.2.2.1, y120.2.2.2.2)))))))) (some (.inr (.inl (y120.1, (y120.2.1, (y120.2.2.1, (y120.2.2.2.1, y120.2.2.2.2)))))))) (some (.inr (.inl (y120.1, (y120.2.1, (y120.2.2.1, (y120.2.2.2.1, y120.2.2.2.2)))))))) (y119.1, (y119.2.1, (y119.2.2.1, (y119.2.2.2.1, y119.2.2.2.2)))))) (fun y133 : (Int × (Yt × ((List ByteArray) × (Int × Int)))) => jn (cond (decide (y133.2.2.2.2 = (0 : Int))) (cond (decide (y133.2.2.2.1 < (y133.2.2.1.length : Int))) (((getI y133.2.2.1 y133.2.2.2.1)).bind fun r134 => some (.inl (!((ByteArray.toList r134) == [(UInt8.ofNat 41)])))) (some (.inl true))) (some (.inl false))) (fun y135 : Bool => cond y135 (cond (decide (y133.2.2.2.2 = (0 : Int))) (some (.inl ((y133.2.2.1, (y133.2.2.2.1, ((w64 (y133.2.2.2.1 + (1 : Int))), (y133.2.1, ())))), (0 : Int)))) (some (.inl ((y133.2.2.1, (y133.2.2.2.1, (y133.2.2.2.2, (y133.2.1, ())))), (0 : Int))))) (some (.inl ((y133.2.2.1, ((w64 (y133.2.2.2.1 + (1 : Int))), (y133.2.2.2.2, (y133.2.1, ())))), y133.1)))))))) (cond ((ByteArray.toList y104) == [(UInt8.ofNat 116), (UInt8.ofNat 114), (UInt8.ofNat 117), (UInt8.ofNat 101)]) (((appC a3 [((0 : Int), ((0 : Int), ((0 : Int), ((bts []), (0 : Int)))))])).bind fun r136 => some (.inl ((a0, ((w64 (a1 + (1 : Int))), (a2, (r136, ())))), (w64 ((r136.length : Int) - (1 : Int)))))) (((F99 Tryz.prog lf y104)).bind fun r137 => cond (!r137) (cond (decide (a2 = (0 : Int))) (some (.inl ((a0, (a1, ((w64 (a1 + (1 : Int))), (a3, ())))), (0 : Int)))) (some (.inl ((a0, (a1, (a2, (a3, ())))), (0 : Int))))) (jn (cond (decide ((w64 (a1 + (1 : Int))) < (a0.length : Int))) (((getI a0 (w64 (a1 + (1 : Int))))).bind fun r138 => some (.inl r138)) (some (.inl (bts [])))) (fun y139 : ByteArray => ((F276x Tryz.prog lf y139)).bind fun r140 => cond (!r140.2.2) (cond (decide (a2 = (0 : Int))) (some (.inl ((a0, ((w64 (a1 + (1 : Int))), ((w64 ((w64 (a1 + (1 : Int))) + (1 : Int))), (a3, ())))), (0 : Int)))) (some (.inl ((a0, ((w64 (a1 + (1 : Int))), (a2, (a3, ())))), (0 : Int))))) (jn (cond (decide ((w64 ((w64 (a1 + (1 : Int))) + (1 : Int))) < (a0.length : Int))) (((getI a0 (w64 ((w64 (a1 + (1 : Int))) + (1 : Int))))).bind fun r141 => ((F203x Tryz.prog lf (r141, ((13 : Int), true)))).bind fun r142 => some (.inl (r142.1, r142.2))) (((F203x Tryz.prog lf ((bts []), ((13 : Int), true)))).bind fun r143 => some (.inl (r143.1, r143.2)))) (fun y144 : (Int × Bool) => jn (cond (!y144.2) (some (.inl true)) (((F126 Tryz.prog lf (y144.1, ((-1000000000000 : Int), (1000000000000 : Int))))).bind fun r145 => some (.inl (!r145)))) (fun y146 : Bool => cond y146 (cond (decide (a2 = (0 : Int))) (some (.inl ((a0, ((w64 ((w64 (a1 + (1 : Int))) + (1 : Int))), ((w64 ((w64 ((w64 (a1 + (1 : Int))) + (1 : Int))) + (1 : Int))), (a3, ())))), (0 : Int)))) (some (.inl ((a0, ((w64 ((w64 (a1 + (1 : Int))) + (1 : Int))), (a2, (a3, ())))), (0 : Int))))) (((appC a3 [(r140.1, ((0 : Int), ((0 : Int), (y104, y144.1))))])).bind fun r147 => cond r140.2.1 (((appC r147 [((4 : Int), ((w64 ((r147.length : Int) - (1 : Int))), ((0 : Int), ((bts []), (0 : Int)))))])).bind fun r148 => some (.inl ((a0, ((w64 ((w64 ((w64 (a1 + (1 : Int))) + (1 : Int))) + (1 : Int))), (a2, (r148, ())))), (w64 ((r148.length : Int) - (1 : Int)))))) (some (.inl ((a0, ((w64 ((w64 ((w64 (a1 + (1 : Int))) + (1 : Int))) + (1 : Int))), (a2, (r147, ())))), (w64 ((r147.length : Int) - (1 : Int)))))))))))))))) := by kernel_rfl
abbrev CK163x : List CK := [.d (.sl .str), .d .i, .d .i, .o Yp 131]
abbrev U163x : AT := (true, .i)
def S163x : FuncId → Sp := fun g => match g with
 | 163 => { joins := [(5, [(.slot 6, .dat .i), (.cell 0 3, .own Yp 131), (.cell 0 0, .dat (.sl .str)), (.cell 0 1, .dat .i), (.cell 0 2, .dat .i)]), (2, [(.slot 5, .dat .i), (.cell 0 3, .own Yp 131), (.cell 0 0, .dat (.sl .str)), (.cell 0 1, .dat .i), (.cell 0 2, .dat .i)])], loops := [(2, [(.slot 5, .dat .i), (.cell 0 3, .own Yp 131), (.cell 0 0, .dat (.sl .str)), (.cell 0 1, .dat .i), (.cell 0 2, .dat .i)])] }
 | 217 => { loops := [(2, [(.slot 5, .dat .i), (.cell 0 3, .own Yp 131), (.cell 0 0, .dat (.sl .str)), (.cell 0 1, .dat .i), (.cell 0 2, .dat .i)])] }
 | 128 => { nz := [(11, [12])] }
 | _ => {}
def F163x (P : Program) (lf : Nat) (x : ckT CK163x × tt [(false, .i)]) : Option ((ckT CK163x × tt [(false, .i)]) ⊕ U163x.2.den) := fnR P (C245x P lf) S163x 163 209 CK163x [(false, .i)] [(false, .i)] 122 U163x lf x
def C163x (P : Program) (lf : Nat) : FuncId → Option Con := extC (C245x P lf) 163 (refCon 209 CK163x [(false, .i)] [(false, .i)] 122 U163x (F163x P lf))
def S89x : FuncId → Sp := fun g => match g with
 | 89 => { joins := [(5, [(.cell 5 2, .dat .i)]), (4, [(.slot 18, .dat .bool)])] }
 | 128 => { nz := [(11, [12])] }
 | _ => {}
def F89x (P : Program) (lf : Nat) (x : tt [(false, (.sl .str))]) : Option (tt [(true, (.sl Yp)), (false, .i), (false, .i)]) := fnF P (C163x P lf) S89x 89 [(false, (.sl .str))] [(true, (.sl Yp)), (false, .i), (false, .i)] lf x
def C89x (P : Program) (lf : Nat) : FuncId → Option Con := extC (C163x P lf) 89 (dataCon [(false, (.sl .str))] [(true, (.sl Yp)), (false, .i), (false, .i)] (F89x P lf))
theorem F89x_eq (lf : Nat) (a0 : (List ByteArray)) : F89x Tryz.prog lf a0 =
 ((F163x Tryz.prog lf ((a0, ((0 : Int), ((0 : Int), (([] : List (Int × (Int × (Int × (ByteArray × Int))))), ())))), (0 : Int)))).bind fun r6 => sm r6 (fun r7 : (((List ByteArray) × (Int × (Int × (Yt × PUnit)))) × Int) => jn (jn (cond (decide (r7.1.2.2.1 = (0 : Int))) (some (.inl (decide (r7.1.2.1 < (a0.length : Int))))) (some (.inl false))) (fun y8 : Bool => cond y8 (cond (decide (r7.1.2.2.1 = (0 : Int))) (some (.inl (w64 (r7.1.2.1 + (1 : Int))))) (some (.inl r7.1.2.2.1))) (some (.inl r7.1.2.2.1)))) (fun y9 : Int => cond (!(decide (y9 = (0 : Int)))) (agree (some (([] : List (Int × (Int × (Int × (ByteArray × Int))))), (y9, (46 : Int)))) (some (([] : List (Int × (Int × (Int × (ByteArray × Int))))), (y9, (46 : Int))))) (cond (decide ((r7.1.2.2.2.1.length : Int) > (30 : Int))) (some (([] : List (Int × (Int × (Int × (ByteArray × Int))))), ((0 : Int), (2 : Int)))) (some (r7.1.2.2.2.1, ((0 : Int), (0 : Int))))))) (fun r10 : Int => none) := by kernel_rfl
def S18x : FuncId → Sp := fun g => match g with
 | 128 => { nz := [(11, [12])] }
 | _ => {}
def F18x (P : Program) (lf : Nat) (x : tt [(false, .str)]) : Option (tt [(true, (.sl Yp)), (false, .i), (false, .i)]) := fnF P (C89x P lf) S18x 18 [(false, .str)] [(true, (.sl Yp)), (false, .i), (false, .i)] lf x
def C18x (P : Program) (lf : Nat) : FuncId → Option Con := extC (C89x P lf) 18 (dataCon [(false, .str)] [(true, (.sl Yp)), (false, .i), (false, .i)] (F18x P lf))
def S141x : FuncId → Sp := fun g => match g with
 | 128 => { nz := [(11, [12])] }
 | _ => {}
def F141x (P : Program) (lf : Nat) : Nat → tt [(false, .i)] → Option (tt [(false, .str)])
 | 0, _ => none
 | n + 1, x => fnF P (extC (C18x P lf) 141 (dataCon [(false, .i)] [(false, .str)] (F141x P lf n))) S141x 141 [(false, .i)] [(false, .str)] lf x
def C141x (P : Program) (lf : Nat) : FuncId → Option Con := extC (C18x P lf) 141 (dataCon [(false, .i)] [(false, .str)] (F141x P lf lf))
theorem F141x_eq (lf n : Nat) (a0 : Int) : F141x Tryz.prog lf (n + 1) a0 =
 cond (decide (a0 < (-9 : Int))) (agree (((F141x Tryz.prog lf n (w64 (Int.tdiv a0 (10 : Int))))).bind fun r11 => ((catC r11 (strI [(Go.IntKind.wrap .u8 (w64 ((48 : Int) - (Int.tmod a0 (10 : Int)))))]))).bind fun r12 => some (r11 ++ (strI [(Go.IntKind.wrap .u8 (w64 ((48 : Int) - (Int.tmod a0 (10 : Int)))))]))) (((F141x Tryz.prog lf n (w64 (Int.tdiv a0 (10 : Int))))).bind fun r13 => ((catC r13 (strI [(Go.IntKind.wrap .u8 (w64 ((48 : Int) - (Int.tmod a0 (10 : Int)))))]))).bind fun r14 => some (r13 ++ (strI [(Go.IntKind.wrap .u8 (w64 ((48 : Int) - (Int.tmod a0 (10 : Int)))))])))) (cond (decide (a0 < (0 : Int))) (((F141x Tryz.prog lf n (w64 ((0 : Int) - a0)))).bind fun r15 => ((catC (bts [45]) r15)).bind fun r16 => some ((bts [45]) ++ r15)) (cond (decide (a0 < (10 : Int))) (some (strI [(Go.IntKind.wrap .u8 (w64 ((48 : Int) + a0)))])) (agree (((F141x Tryz.prog lf n (w64 (Int.tdiv a0 (10 : Int))))).bind fun r17 => ((catC r17 (strI [(Go.IntKind.wrap .u8 (w64 ((48 : Int) + (Int.tmod a0 (10 : Int)))))]))).bind fun r18 => some (r17 ++ (strI [(Go.IntKind.wrap .u8 (w64 ((48 : Int) + (Int.tmod a0 (10 : Int)))))]))) (((F141x Tryz.prog lf n (w64 (Int.tdiv a0 (10 : Int))))).bind fun r19 => ((catC r19 (strI [(Go.IntKind.wrap .u8 (w64 ((48 : Int) + (Int.tmod a0 (10 : Int)))))]))).bind fun r20 => some (r19 ++ (strI [(Go.IntKind.wrap .u8 (w64 ((48 : Int) + (Int.tmod a0 (10 : Int)))))])))))) := by kernel_rfl
def S169x : FuncId → Sp := fun g => match g with
 | 128 => { nz := [(11, [12])] }
 | _ => {}
def F169x (P : Program) (lf : Nat) (x : tt [(true, Yp), (false, .bool)]) : Option (tt [(false, .str)]) := fnF P (C141x P lf) S169x 169 [(true, Yp), (false, .bool)] [(false, .str)] lf x
def C169x (P : Program) (lf : Nat) : FuncId → Option Con := extC (C141x P lf) 169 (dataCon [(true, Yp), (false, .bool)] [(false, .str)] (F169x P lf))
def S171x : FuncId → Sp := fun g => match g with
 | 128 => { nz := [(11, [12])] }
 | _ => {}
def F171x (P : Program) (lf : Nat) (x : tt [(true, Yp)]) : Option (tt [(false, .bool)]) := fnF P (C169x P lf) S171x 171 [(true, Yp)] [(false, .bool)] lf x
def C171x (P : Program) (lf : Nat) : FuncId → Option Con := extC (C169x P lf) 171 (dataCon [(true, Yp)] [(false, .bool)] (F171x P lf))
def S170x : FuncId → Sp := fun g => match g with
 | 128 => { nz := [(11, [12])] }
 | _ => {}
def F170x (P : Program) (lf : Nat) (x : tt [(true, (.pair .i (.pair .i .i))), (false, .bool)]) : Option (tt [(true, (.pair .i (.pair .i .i)))]) := fnF P (C171x P lf) S170x 170 [(true, (.pair .i (.pair .i .i))), (false, .bool)] [(true, (.pair .i (.pair .i .i)))] lf x
def C170x (P : Program) (lf : Nat) : FuncId → Option Con := extC (C171x P lf) 170 (dataCon [(true, (.pair .i (.pair .i .i))), (false, .bool)] [(true, (.pair .i (.pair .i .i)))] (F170x P lf))
def S100x : FuncId → Sp := fun g => match g with
 | 100 => { joins := [(27, [(.cell 6 0, .dat .i), (.cell 6 1, .dat .i), (.cell 6 2, .dat .i)]), (26, [(.slot 13, .dat .i)]), (19, [(.slot 65, .dat .bool)]), (10, [(.slot 24, .dat .bool)])], loops := [(3, [(.slot 3, .own (.pair .i (.pair .i .i)) 141), (.slot 17, .dat .i)])] }
 | 128 => { nz := [(11, [12])] }
 | _ => {}
def F100x (P : Program) (lf : Nat) (x : tt [(true, (.sl Yp))]) : Option (tt [(false, (.sl (.pair .i (.pair .i .i))))]) := fnF P (C170x P lf) S100x 100 [(true, (.sl Yp))] [(false, (.sl (.pair .i (.pair .i .i))))] lf x
def C100x (P : Program) (lf : Nat) : FuncId → Option Con := extC (C170x P lf) 100 (dataCon [(true, (.sl Yp))] [(false, (.sl (.pair .i (.pair .i .i))))] (F100x P lf))
theorem F100x_eq (lf : Nat) (a0 : Yt) : F100x Tryz.prog lf a0 =
 iter lf (fun y117 : ((List (Int × (Int × Int))) × Int) => cond (decide (y117.2 < (a0.length : Int))) (((getI a0 y117.2)).bind fun r118 => jn (jn (cond (decide (r118.1 = (1 : Int))) (some (.inl (decide (r118.1 = (1 : Int))))) (cond (decide (r118.1 = (2 : Int))) (some (.inl (decide (r118.1 = (2 : Int))))) (some (.inl (decide (r118.1 = (3 : Int))))))) (fun y119 : Bool => cond y119 (((F169x Tryz.prog lf ((r118.1, (r118.2.1, (r118.2.2.1, (r118.2.2.2.1, r118.2.2.2.2)))), false))).bind fun r120 => some (.inl ((r120.size : Int), ((0 : Int), (1 : Int))))) (cond (decide (r118.1 = (4 : Int))) (((getI a0 r118.2.1)).bind fun r121 => ((F98 Tryz.prog lf r121.1)).bind fun r122 => cond r122 (((F169x Tryz.prog lf ((r121.1, (r121.2.1, (r121.2.2.1, (r121.2.2.2.1, r121.2.2.2.2)))), true))).bind fun r123 => some (.inl ((r123.size : Int), ((0 : Int), (2 : Int))))) (((getI y117.1 r118.2.1)).bind fun r124 => ((getI y117.1 r118.2.1)).bind fun r125 => agree (((F171x Tryz.prog lf (r121.1, (r121.2.1, (r121.2.2.1, (r121.2.2.2.1, r121.2.2.2.2)))))).bind fun r126 => agree (((F170x Tryz.prog lf ((r125.1, (r125.2.1, r125.2.2)), r126))).bind fun r127 => some (.inl ((w64 (r127.1 + (4 : Int))), ((w64 (r127.2.1 + (1 : Int))), (w64 (r127.2.2 + (1 : Int))))))) (((F170x Tryz.prog lf ((r125.1, (r125.2.1, r125.2.2)), r126))).bind fun r128 => some (.inl ((w64 (r128.1 + (4 : Int))), ((w64 (r128.2.1 + (1 : Int))), (w64 (r128.2.2 + (1 : Int)))))))) (((F171x Tryz.prog lf (r121.1, (r121.2.1, (r121.2.2.1, (r121.2.2.2.1, r121.2.2.2.2)))))).bind fun r129 => ((F170x Tryz.prog lf ((r125.1, (r125.2.1, r125.2.2)), r129))).bind fun r130 => some (.inl ((w64 (r130.1 + (4 : Int))), ((w64 (r130.2.1 + (1 : Int))), (w64 (r130.2.2 + (1 : Int))))))))) (jn (cond (decide (r118.1 = (5 : Int))) (some (.inl (decide (r118.1 = (5 : Int))))) (some (.inl (decide (r118.1 = (6 : Int)))))) (fun y131 : Bool => cond y131 (((getI a0 r118.2.1)).bind fun r132 => ((getI a0 r118.2.2.1)).bind fun r133 => ((getI y117.1 r118.2.1)).bind fun r134 => ((getI y117.1 r118.2.1)).bind fun r135 => cond (decide (r118.1 = (5 : Int))) (agree (((F170x Tryz.prog lf ((r135.1, (r135.2.1, r135.2.2)), (decide (r132.1 = (6 : Int)))))).bind fun r136 => ((getI y117.1 r118.2.2.1)).bind fun r137 => ((getI y117.1 r118.2.2.1)).bind fun r138 => cond (decide (r118.1 = (5 : Int))) (agree (((F171x Tryz.prog lf (r133.1, (r133.2.1, (r133.2.2.1, (r133.2.2.2.1, r133.2.2.2.2)))))).bind fun r139 => cond r139 (agree (((F170x Tryz.prog lf ((r138.1, (r138.2.1, r138.2.2)), true))).bind fun r140 => jn (cond (decide (r118.1 = (6 : Int))) (some (.inl (4 : Int))) (some (.inl (5 : Int)))) (fun y141 : Int => some (.inl ((w64 ((w64 (r136.1 + y141)) + r140.1)), ((if r140.2.1 > r136.2.1 then r140.2.1 else r136.2.1), (w64 ((w64 (r136.2.2 + r140.2.2)) + (1 : Int)))))))) (((F170x Tryz.prog lf ((r138.1, (r138.2.1, r138.2.2)), true))).bind fun r142 => jn (cond (decide (r118.1 = (6 : Int))) (some (.inl (4 : Int))) (some (.inl (5 : Int)))) (fun y143 : Int => some (.inl ((w64 ((w64 (r136.1 + y143)) + r142.1)), ((if r142.2.1 > r136.2.1 then r142.2.1 else r136.2.1), (w64 ((w64 (r136.2.2 + r142.2.2)) + (1 : Int))))))))) (agree (((F170x Tryz.prog lf ((r138.1, (r138.2.1, r138.2.2)), (decide (r133.1 = (6 : Int)))))).bind fun r144 => jn (cond (decide (r118.1 = (6 : Int))) (some (.inl (4 : Int))) (some (.inl (5 : Int)))) (fun y145 : Int => some (.inl ((w64 ((w64 (r136.1 + y145)) + r144.1)), ((if r144.2.1 > r136.2.1 then r144.2.1 else r136.2.1), (w64 ((w64 (r136.2.2 + r144.2.2)) + (1 : Int)))))))) (((F170x Tryz.prog lf ((r138.1, (r138.2.1, r138.2.2)), (decide (r133.1 = (6 : Int)))))).bind fun r146 => jn (cond (decide (r118.1 = (6 : Int))) (some (.inl (4 : Int))) (some (.inl (5 : Int)))) (fun y147 : Int => some (.inl ((w64 ((w64 (r136.1 + y147)) + r146.1)), ((if r146.2.1 > r136.2.1 then r146.2.1 else r136.2.1), (w64 ((w64 (r136.2.2 + r146.2.2)) + (1 : Int)))))))))) (((F171x Tryz.prog lf (r133.1, (r133.2.1, (r133.2.2.1, (r133.2.2.2.1, r133.2.2.2.2)))))).bind fun r148 => cond r148 (((F170x Tryz.prog lf ((r138.1, (r138.2.1, r138.2.2)), true))).bind fun r149 => jn (cond (decide (r118.1 = (6 : Int))) (some (.inl (4 : Int))) (some (.inl (5 : Int)))) (fun y150 : Int => some (.inl ((w64 ((w64 (r136.1 + y150)) + r149.1)), ((if r149.2.1 > r136.2.1 then r149.2.1 else r136.2.1), (w64 ((w64 (r136.2.2 + r149.2.2)) + (1 : Int)))))))) (((F170x Tryz.prog lf ((r138.1, (r138.2.1, r138.2.2)), (decide (r133.1 = (6 : Int)))))).bind fun r151 => jn (cond (decide (r118.1 = (6 : Int))) (some (.inl (4 : Int))) (some (.inl (5 : Int)))) (fun y152 : Int => some (.inl ((w64 ((w64 (r136.1 + y152)) + r151.1)), ((if r151.2.1 > r136.2.1 then r151.2.1 else r136.2.1), (w64 ((w64 (r136.2.2 + r151.2.2)) + (1 : Int)))))))))) (agree (agree (((F170x Tryz.prog lf ((r138.1, (r138.2.1, r138.2.2)), (decide (r133.1 = (6 : Int)))))).bind fun r153 => jn (cond (decide (r118.1 = (6 : Int))) (some (.inl (4 : Int))) (some (.inl (5 : Int)))) (fun y154 : Int => some (.inl ((w64 ((w64 (r136.1 + y154)) + r153.1)), ((if r153.2.1 > r136.2.1 then r153.2.1 else r136.2.1), (w64 ((w64 (r136.2.2 + r153.2.2)) + (1 : Int)))))))) (((F170x Tryz.prog lf ((r138.1, (r138.2.1, r138.2.2)), (decide (r133.1 = (6 : Int)))))).bind fun r155 => jn (cond (decide (r118.1 = (6 : Int))) (some (.inl (4 : Int))) (some (.inl (5 : Int)))) (fun y156 : Int => some (.inl ((w64 ((w64 (r136.1 + y156)) + r155.1)), ((if r155.2.1 > r136.2.1 then r155.2.1 else r136.2.1), (w64 ((w64 (r136.2.2 + r155.2.2)) + (1 : Int))))))))) (((F170x Tryz.prog lf ((r138.1, (r138.2.1, r138.2.2)), (decide (r133.1 = (6 : Int)))))).bind fun r157 => jn (cond (decide (r118.1 = (6 : Int))) (some (.inl (4 : Int))) (some (.inl (5 : Int)))) (fun y158 : Int => some (.inl ((w64 ((w64 (r136.1 + y158)) + r157.1)), ((if r157.2.1 > r136.2.1 then r157.2.1 else r136.2.1), (w64 ((w64 (r136.2.2 + r157.2.2)) + (1 : Int)))))))))) (((F170x Tryz.prog lf ((r135.1, (r135.2.1, r135.2.2)), (decide (r132.1 = (6 : Int)))))).bind fun r159 => ((getI y117.1 r118.2.2.1)).bind fun r160 => ((getI y117.1 r118.2.2.1)).bind fun r161 => cond (decide (r118.1 = (5 : Int))) (agree (((F171x Tryz.prog lf (r133.1, (r133.2.1, (r133.2.2.1, (r133.2.2.2.1, r133.2.2.2.2)))))).bind fun r162 => cond r162 (agree (((F170x Tryz.prog lf ((r161.1, (r161.2.1, r161.2.2)), true))).bind fun r163 => jn (cond (decide (r118.1 = (6 : Int))) (some (.inl (4 : Int))) (some (.inl (5 : Int)))) (fun y164 : Int => some (.inl ((w64 ((w64 (r159.1 + y164)) + r163.1)), ((if r163.2.1 > r159.2.1 then r163.2.1 else r159.2.1), (w64 ((w64 (r159.2.2 + r163.2.2)) + (1 : Int)))))))) (((F170x Tryz.prog lf ((r161.1, (r161.2.1, r161.2.2)), true))).bind fun r165 => jn (cond (decide (r118.1 = (6 : Int))) (some (.inl (4 : Int))) (some (.inl (5 : Int)))) (fun y166 : Int => some (.inl ((w64 ((w64 (r159.1 + y166)) + r165.1)), ((if r165.2.1 > r159.2.1 then r165.2.1 else r159.2.1), (w64 ((w64 (r159.2.2 + r165.2.2)) + (1 : Int))))))))) (agree (((F170x Tryz.prog lf ((r161.1, (r161.2.1, r161.2.2)), (decide (r133.1 = (6 : Int)))))).bind fun r167 => jn (cond (decide (r118.1 = (6 : Int))) (some (.inl (4 : Int))) (some (.inl (5 : Int)))) (fun y168 : Int => some (.inl ((w64 ((w64 (r159.1 + y168)) + r167.1)), ((if r167.2.1 > r159.2.1 then r167.2.1 else r159.2.1), (w64 ((w64 (r159.2.2 + r167.2.2)) + (1 : Int)))))))) (((F170x Tryz.prog lf ((r161.1, (r161.2.1, r161.2.2)), (decide (r133.1 = (6 : Int)))))).bind fun r169 => jn (cond (decide (r118.1 = (6 : Int))) (some (.inl (4 : Int))) (some (.inl (5 : Int)))) (fun y170 : Int => some (.inl ((w64 ((w64 (r159.1 + y170)) + r169.1)), ((if r169.2.1 > r159.2.1 then r169.2.1 else r159.2.1), (w64 ((w64 (r159.2.2 + r169.2.2)) + (1 : Int)))))))))) (((F171x Tryz.prog lf (r133.1, (r133.2.1, (r133.2.2.1, (r133.2.2.2.1, r133.2.2.2.2)))))).bind fun r171 => cond r171 (((F170x Tryz.prog lf ((r161.1, (r161.2.1, r161.2.2)), true))).bind fun r172 => jn (cond (decide (r118.1 = (6 : Int))) (some (.inl (4 : Int))) (some (.inl (5 : Int)))) (fun y173 : Int => some (.inl ((w64 ((w64 (r159.1 + y173)) + r172.1)), ((if r172.2.1 > r159.2.1 then r172.2.1 else r159.2.1), (w64 ((w64 (r159.2.2 + r172.2.2)) + (1 : Int)))))))) (((F170x Tryz.prog lf ((r161.1, (r161.2.1, r161.2.2)), (decide (r133.1 = (6 : Int)))))).bind fun r174 => jn (cond (decide (r118.1 = (6 : Int))) (some (.inl (4 : Int))) (some (.inl (5 : Int)))) (fun y175 : Int => some (.inl ((w64 ((w64 (r159.1 + y175)) + r174.1)), ((if r174.2.1 > r159.2.1 then r174.2.1 else r159.2.1), (w64 ((w64 (r159.2.2 + r174.2.2)) + (1 : Int)))))))))) (agree (agree (((F170x Tryz.prog lf ((r161.1, (r161.2.1, r161.2.2)), (decide (r133.1 = (6 : Int)))))).bind fun r176 => jn (cond (decide (r118.1 = (6 : Int))) (some (.inl (4 : Int))) (some (.inl (5 : Int)))) (fun y177 : Int => some (.inl ((w64 ((w64 (r159.1 + y177)) + r176.1)), ((if r176.2.1 > r159.2.1 then r176.2.1 else r159.2.1), (w64 ((w64 (r159.2.2 + r176.2.2)) + (1 : Int)))))))) (((F170x Tryz.prog lf ((r161.1, (r161.2.1, r161.2.2)), (decide (r133.1 = (6 : Int)))))).bind fun r178 => jn (cond (decide (r118.1 = (6 : Int))) (some (.inl (4 : Int))) (some (.inl (5 : Int)))) (fun y179 : Int => some (.inl ((w64 ((w64 (r159.1 + y179)) + r178.1)), ((if r178.2.1 > r159.2.1 then r178.2.1 else r159.2.1), (w64 ((w64 (r159.2.2 + r178.2.2)) + (1 : Int))))))))) (((F170x Tryz.prog lf ((r161.1, (r161.2.1, r161.2.2)), (decide (r133.1 = (6 : Int)))))).bind fun r180 => jn (cond (decide (r118.1 = (6 : Int))) (some (.inl (4 : Int))) (some (.inl (5 : Int)))) (fun y181 : Int => some (.inl ((w64 ((w64 (r159.1 + y181)) + r180.1)), ((if r180.2.1 > r159.2.1 then r180.2.1 else r159.2.1), (w64 ((w64 (r159.2.2 + r180.2.2)) + (1 : Int))))))))))) (agree (((F170x Tryz.prog lf ((r135.1, (r135.2.1, r135.2.2)), false))).bind fun r182 => ((getI y117.1 r118.2.2.1)).bind fun r183 => ((getI y117.1 r118.2.2.1)).bind fun r184 => cond (decide (r118.1 = (5 : Int))) (agree (((F171x Tryz.prog lf (r133.1, (r133.2.1, (r133.2.2.1, (r133.2.2.2.1, r133.2.2.2.2)))))).bind fun r185 => cond r185 (agree (((F170x Tryz.prog lf ((r184.1, (r184.2.1, r184.2.2)), true))).bind fun r186 => jn (cond (decide (r118.1 = (6 : Int))) (some (.inl (4 : Int))) (some (.inl (5 : Int)))) (fun y187 : Int => some (.inl ((w64 ((w64 (r182.1 + y187)) + r186.1)), ((if r186.2.1 > r182.2.1 then r186.2.1 else r182.2.1), (w64 ((w64 (r182.2.2 + r186.2.2)) + (1 : Int)))))))) (((F170x Tryz.prog lf ((r184.1, (r184.2.1, r184.2.2)), true))).bind fun r188 => jn (cond (decide (r118.1 = (6 : Int))) (some (.inl (4 : Int))) (some (.inl (5 : Int)))) (fun y189 : Int => some (.inl ((w64 ((w64 (r182.1 + y189)) + r188.1)), ((if r188.2.1 > r182.2.1 then r188.2.1 else r182.2.1), (w64 ((w64 (r182.2.2 + r188.2.2)) + (1 : Int))))))))) (agree (((F170x Tryz.prog lf ((r184.1, (r184.2.1, r184.2.2)), (decide (r133.1 = (6 : Int)))))).bind fun r190 => jn (cond (decide (r118.1 = (6 : Int))) (some (.inl (4 : Int))) (some (.inl (5 : Int)))) (fun y191 : Int => some (.inl ((w64 ((w64 (r182.1 + y191)) + r190.1)), ((if r190.2.1 > r182.2.1 then r190.2.1 else r182.2.1), (w64 ((w64 (r182.2.2 + r190.2.2)) + (1 : Int)))))))) (((F170x Tryz.prog lf ((r184.1, (r184.2.1, r184.2.2)), (decide (r133.1 = (6 : Int)))))).bind fun r192 => jn (cond (decide (r118.1 = (6 : Int))) (some (.inl (4 : Int))) (some (.inl (5 : Int)))) (fun y193 : Int => some (.inl ((w64 ((w64 (r182.1 + y193)) + r192.1)), ((if r192.2.1 > r182.2.1 then r192.2.1 else r182.2.1), (w64 ((w64 (r182.2.2 + r192.2.2)) + (1 : Int)))))))))) (((F171x Tryz.prog lf (r133.1, (r133.2.1, (r133.2.2.1, (r133.2.2.2.1, r133.2.2.2.2)))))).bind fun r194 => cond r194 (((F170x Tryz.prog lf ((r184.1, (r184.2.1, r184.2.2)), true))).bind fun r195 => jn (cond (decide (r118.1 = (6 : Int))) (some (.inl (4 : Int))) (some (.inl (5 : Int)))) (fun y196 : Int => some (.inl ((w64 ((w64 (r182.1 + y196)) + r195.1)), ((if r195.2.1 > r182.2.1 then r195.2.1 else r182.2.1), (w64 ((w64 (r182.2.2 + r195.2.2)) + (1 : Int)))))))) (((F170x Tryz.prog lf ((r184.1, (r184.2.1, r184.2.2)), (decide (r133.1 = (6 : Int)))))).bind fun r197 => jn (cond (decide (r118.1 = (6 : Int))) (some (.inl (4 : Int))) (some (.inl (5 : Int)))) (fun y198 : Int => some (.inl ((w64 ((w64 (r182.1 + y198)) + r197.1)), ((if r197.2.1 > r182.2.1 then r197.2.1 else r182.2.1), (w64 ((w64 (r182.2.2 + r197.2.2)) + (1 : Int)))))))))) (agree (agree (((F170x Tryz.prog lf ((r184.1, (r184.2.1, r184.2.2)), (decide (r133.1 = (6 : Int)))))).bind fun r199 => jn (cond (decide (r118.1 = (6 : Int))) (some (.inl (4 : Int))) (some (.inl (5 : Int)))) (fun y200 : Int => some (.inl ((w64 ((w64 (r182.1 + y200)) + r199.1)), ((if r199.2.1 > r182.2.1 then r199.2.1 else r182.2.1), (w64 ((w64 (r182.2.2 + r199.2.2)) + (1 : Int)))))))) (((F170x Tryz.prog lf ((r184.1, (r184.2.1, r184.2.2)), (decide (r133.1 = (6 : Int)))))).bind fun r201 => jn (cond (decide (r118.1 = (6 : Int))) (some (.inl (4 : Int))) (some (.inl (5 : Int)))) (fun y202 : Int => some (.inl ((w64 ((w64 (r182.1 + y202)) + r201.1)), ((if r201.2.1 > r182.2.1 then r201.2.1 else r182.2.1), (w64 ((w64 (r182.2.2 + r201.2.2)) + (1 : Int))))))))) (((F170x Tryz.prog lf ((r184.1, (r184.2.1, r184.2.2)), (decide (r133.1 = (6 : Int)))))).bind fun r203 => jn (cond (decide (r118.1 = (6 : Int))) (some (.inl (4 : Int))) (some (.inl (5 : Int)))) (fun y204 : Int => some (.inl ((w64 ((w64 (r182.1 + y204)) + r203.1)), ((if r203.2.1 > r182.2.1 then r203.2.1 else r182.2.1), (w64 ((w64 (r182.2.2 + r203.2.2)) + (1 : Int)))))))))) (((F170x Tryz.prog lf ((r135.1, (r135.2.1, r135.2.2)), false))).bind fun r205 => ((getI y117.1 r118.2.2.1)).bind fun r206 => ((getI y117.1 r118.2.2.1)).bind fun r207 => cond (decide (r118.1 = (5 : Int))) (agree (((F171x Tryz.prog lf (r133.1, (r133.2.1, (r133.2.2.1, (r133.2.2.2.1, r133.2.2.2.2)))))).bind fun r208 => cond r208 (agree (((F170x Tryz.prog lf ((r207.1, (r207.2.1, r207.2.2)), true))).bind fun r209 => jn (cond (decide (r118.1 = (6 : Int))) (some (.inl (4 : Int))) (some (.inl (5 : Int)))) (fun y210 : Int => some (.inl ((w64 ((w64 (r205.1 + y210)) + r209.1)), ((if r209.2.1 > r205.2.1 then r209.2.1 else r205.2.1), (w64 ((w64 (r205.2.2 + r209.2.2)) + (1 : Int)))))))) (((F170x Tryz.prog lf ((r207.1, (r207.2.1, r207.2.2)), true))).bind fun r211 => jn (cond (decide (r118.1 = (6 : Int))) (some (.inl (4 : Int))) (some (.inl (5 : Int)))) (fun y212 : Int => some (.inl ((w64 ((w64 (r205.1 + y212)) + r211.1)), ((if r211.2.1 > r205.2.1 then r211.2.1 else r205.2.1), (w64 ((w64 (r205.2.2 + r211.2.2)) + (1 : Int))))))))) (agree (((F170x Tryz.prog lf ((r207.1, (r207.2.1, r207.2.2)), (decide (r133.1 = (6 : Int)))))).bind fun r213 => jn (cond (decide (r118.1 = (6 : Int))) (some (.inl (4 : Int))) (some (.inl (5 : Int)))) (fun y214 : Int => some (.inl ((w64 ((w64 (r205.1 + y214)) + r213.1)), ((if r213.2.1 > r205.2.1 then r213.2.1 else r205.2.1), (w64 ((w64 (r205.2.2 + r213.2.2)) + (1 : Int)))))))) (((F170x Tryz.prog lf ((r207.1, (r207.2.1, r207.2.2)), (decide (r133.1 = (6 : Int)))))).bind fun r215 => jn (cond (decide (r118.1 = (6 : Int))) (some (.inl (4 : Int))) (some (.inl (5 : Int)))) (fun y216 : Int => some (.inl ((w64 ((w64 (r205.1 + y216)) + r215.1)), ((if r215.2.1 > r205.2.1 then r215.2.1 else r205.2.1), (w64 ((w64 (r205.2.2 + r215.2.2)) + (1 : Int)))))))))) (((F171x Tryz.prog lf (r133.1, (r133.2.1, (r133.2.2.1, (r133.2.2.2.1, r133.2.2.2.2)))))).bind fun r217 => cond r217 (((F170x Tryz.prog lf ((r207.1, (r207.2.1, r207.2.2)), true))).bind fun r218 => jn (cond (decide (r118.1 = (6 : Int))) (some (.inl (4 : Int))) (some (.inl (5 : Int)))) (fun y219 : Int => some (.inl ((w64 ((w64 (r205.1 + y219)) + r218.1)), ((if r218.2.1 > r205.2.1 then r218.2.1 else r205.2.1), (w64 ((w64 (r205.2.2 + r218.2.2)) + (1 : Int)))))))) (((F170x Tryz.prog lf ((r207.1, (r207.2.1, r207.2.2)), (decide (r133.1 = (6 : Int)))))).bind fun r220 => jn (cond (decide (r118.1 = (6 : Int))) (some (.inl (4 : Int))) (some (.inl (5 : Int)))) (fun y221 : Int => some (.inl ((w64 ((w64 (r205.1 + y221)) + r220.1)), ((if r220.2.1 > r205.2.1 then r220.2.1 else r205.2.1), (w64 ((w64 (r205.2.2 + r220.2.2)) + (1 : Int)))))))))) (agree (agree (((F170x Tryz.prog lf ((r207.1, (r207.2.1, r207.2.2)), (decide (r133.1 = (6 : Int)))))).bind fun r222 => jn (cond (decide (r118.1 = (6 : Int))) (some (.inl (4 : Int))) (some (.inl (5 : Int)))) (fun y223 : Int => some (.inl ((w64 ((w64 (r205.1 + y223)) + r222.1)), ((if r222.2.1 > r205.2.1 then r222.2.1 else r205.2.1), (w64 ((w64 (r205.2.2 + r222.2.2)) + (1 : Int)))))))) (((F170x Tryz.prog lf ((r207.1, (r207.2.1, r207.2.2)), (decide (r133.1 = (6 : Int)))))).bind fun r224 => jn (cond (decide (r118.1 = (6 : Int))) (some (.inl (4 : Int))) (some (.inl (5 : Int)))) (fun y225 : Int => some (.inl ((w64 ((w64 (r205.1 + y225)) + r224.1)), ((if r224.2.1 > r205.2.1 then r224.2.1 else r205.2.1), (w64 ((w64 (r205.2.2 + r224.2.2)) + (1 : Int))))))))) (((F170x Tryz.prog lf ((r207.1, (r207.2.1, r207.2.2)), (decide (r133.1 = (6 : Int)))))).bind fun r226 => jn (cond (decide (r118.1 = (6 : Int))) (some (.inl (4 : Int))) (some (.inl (5 : Int)))) (fun y227 : Int => some (.inl ((w64 ((w64 (r205.1 + y227)) + r226.1)), ((if r226.2.1 > r205.2.1 then r226.2.1 else r205.2.1), (w64 ((w64 (r205.2.2 + r226.2.2)) + (1 : Int)))))))))))) (some (.inl ((4 : Int), ((0 : Int), (1 : Int)))))))))) (fun y228 : (Int × (Int × Int)) => ((appC y117.1 [((if (8001 : Int) < y228.1 then (8001 : Int) else y228.1), (y228.2.1, (if (31 : Int) < y228.2.2 then (31 : Int) else y228.2.2)))])).bind fun r229 => some (.inl (r229, (w64 (y117.2 + (1 : Int))))))) (some (.inr y117.1))) (([] : List (Int × (Int × Int))), (0 : Int)) := by kernel_rfl
def S172x : FuncId → Sp := fun g => match g with
 | 128 => { nz := [(11, [12])] }
 | _ => {}
def F172x (P : Program) (lf : Nat) (x : tt [(false, .str), (false, .bool)]) : Option (tt [(false, .str)]) := fnF P (C100x P lf) S172x 172 [(false, .str), (false, .bool)] [(false, .str)] lf x
def C172x (P : Program) (lf : Nat) : FuncId → Option Con := extC (C100x P lf) 172 (dataCon [(false, .str), (false, .bool)] [(false, .str)] (F172x P lf))
def S101x : FuncId → Sp := fun g => match g with
 | 128 => { nz := [(11, [12])] }
 | _ => {}
def F101x (P : Program) (lf : Nat) : Nat → tt [(true, (.sl Yp)), (false, .i)] → Option (tt [(false, .str)])
 | 0, _ => none
 | n + 1, x => fnF P (extC (C172x P lf) 101 (dataCon [(true, (.sl Yp)), (false, .i)] [(false, .str)] (F101x P lf n))) S101x 101 [(true, (.sl Yp)), (false, .i)] [(false, .str)] lf x
def C101x (P : Program) (lf : Nat) : FuncId → Option Con := extC (C172x P lf) 101 (dataCon [(true, (.sl Yp)), (false, .i)] [(false, .str)] (F101x P lf lf))
theorem F101x_eq (lf n : Nat) (a0 : Yt) (a1 : Int) : F101x Tryz.prog lf (n + 1) (a0, a1) =
 ((getI a0 a1)).bind fun r26 => cond (decide (r26.1 = (0 : Int))) (some (bts [116, 114, 117, 101])) (cond (decide (r26.1 = (4 : Int))) (((getI a0 r26.2.1)).bind fun r27 => ((F98 Tryz.prog lf r27.1)).bind fun r28 => cond r28 (((F169x Tryz.prog lf ((r27.1, (r27.2.1, (r27.2.2.1, (r27.2.2.2.1, r27.2.2.2.2)))), true))).bind fun r29 => some r29) (((F101x Tryz.prog lf n (a0, r26.2.1))).bind fun r30 => ((F171x Tryz.prog lf (r27.1, (r27.2.1, (r27.2.2.1, (r27.2.2.2.1, r27.2.2.2.2)))))).bind fun r31 => ((F172x Tryz.prog lf (r30, r31))).bind fun r32 => ((catC (bts [110, 111, 116, 32]) r32)).bind fun r33 => some ((bts [110, 111, 116, 32]) ++ r32))) (cond (decide (r26.1 = (5 : Int))) (((getI a0 r26.2.1)).bind fun r34 => ((getI a0 r26.2.2.1)).bind fun r35 => ((F101x Tryz.prog lf n (a0, r26.2.1))).bind fun r36 => ((F172x Tryz.prog lf (r36, (decide (r34.1 = (6 : Int)))))).bind fun r37 => ((catC r37 (bts [32, 97, 110, 100, 32]))).bind fun r38 => ((F101x Tryz.prog lf n (a0, r26.2.2.1))).bind fun r39 => ((F171x Tryz.prog lf (r35.1, (r35.2.1, (r35.2.2.1, (r35.2.2.2.1, r35.2.2.2.2)))))).bind fun r40 => ((F172x Tryz.prog lf (r39, r40))).bind fun r41 => ((catC (r37 ++ (bts [32, 97, 110, 100, 32])) r41)).bind fun r42 => some ((r37 ++ (bts [32, 97, 110, 100, 32])) ++ r41)) (cond (decide (r26.1 = (6 : Int))) (((getI a0 r26.2.2.1)).bind fun r43 => ((F101x Tryz.prog lf n (a0, r26.2.1))).bind fun r44 => ((catC r44 (bts [32, 111, 114, 32]))).bind fun r45 => ((F101x Tryz.prog lf n (a0, r26.2.2.1))).bind fun r46 => ((F172x Tryz.prog lf (r46, (decide (r43.1 = (6 : Int)))))).bind fun r47 => ((catC (r44 ++ (bts [32, 111, 114, 32])) r47)).bind fun r48 => some ((r44 ++ (bts [32, 111, 114, 32])) ++ r47)) (((F169x Tryz.prog lf ((r26.1, (r26.2.1, (r26.2.2.1, (r26.2.2.2.1, r26.2.2.2.2)))), false))).bind fun r49 => some r49)))) := by kernel_rfl
def S20x : FuncId → Sp := fun g => match g with
 | 20 => { joins := [(14, [(.slot 61, .dat .bool)]), (7, [(.slot 40, .dat .bool)]), (2, [(.slot 17, .dat .bool)])], loops := [(4, [(.slot 21, .dat .i)])] }
 | 128 => { nz := [(11, [12])] }
 | _ => {}
def F20x (P : Program) (lf : Nat) (x : tt [(true, (.sl Yp))]) : Option (tt [(false, .str), (false, .i)]) := fnF P (C101x P lf) S20x 20 [(true, (.sl Yp))] [(false, .str), (false, .i)] lf x
def C20x (P : Program) (lf : Nat) : FuncId → Option Con := extC (C101x P lf) 20 (dataCon [(true, (.sl Yp))] [(false, .str), (false, .i)] (F20x P lf))
def S136x : FuncId → Sp := fun g => match g with
 | 136 => { loops := [(4, [(.slot 3, .own .str 9), (.slot 4, .dat .i), (.slot 5, .dat .i)])] }
 | 128 => { nz := [(11, [12])] }
 | _ => {}
def F136x (P : Program) (lf : Nat) (x : tt [(false, .str)]) : Option (tt [(false, (.sl .str))]) := fnF P (C20x P lf) S136x 136 [(false, .str)] [(false, (.sl .str))] lf x
def C136x (P : Program) (lf : Nat) : FuncId → Option Con := extC (C20x P lf) 136 (dataCon [(false, .str)] [(false, (.sl .str))] (F136x P lf))
def S137x : FuncId → Sp := fun g => match g with
 | 137 => { joins := [(2, [(.slot 17, .dat .bool)])] }
 | 128 => { nz := [(11, [12])] }
 | _ => {}
def F137x (P : Program) (lf : Nat) (x : tt [(false, (.sl .str))]) : Option (tt [(true, (.pair .str (.pair .i .i))), (false, .bool)]) := fnF P (C136x P lf) S137x 137 [(false, (.sl .str))] [(true, (.pair .str (.pair .i .i))), (false, .bool)] lf x
def C137x (P : Program) (lf : Nat) : FuncId → Option Con := extC (C136x P lf) 137 (dataCon [(false, (.sl .str))] [(true, (.pair .str (.pair .i .i))), (false, .bool)] (F137x P lf))
def S204x : FuncId → Sp := fun g => match g with
 | 204 => { loops := [(2, [(.slot 7, .dat .i)])] }
 | 128 => { nz := [(11, [12])] }
 | _ => {}
def F204x (P : Program) (lf : Nat) (x : tt [(false, (.sl .str)), (false, .str), (false, .i)]) : Option (tt [(false, .i)]) := fnF P (C137x P lf) S204x 204 [(false, (.sl .str)), (false, .str), (false, .i)] [(false, .i)] lf x
def C204x (P : Program) (lf : Nat) : FuncId → Option Con := extC (C137x P lf) 204 (dataCon [(false, (.sl .str)), (false, .str), (false, .i)] [(false, .i)] (F204x P lf))
def S138x : FuncId → Sp := fun g => match g with
 | 138 => { joins := [(12, [(.cell 16 5, .own .str 9)]), (4, [(.slot 52, .dat .bool)])], loops := [(13, [(.slot 109, .dat .i)])] }
 | 128 => { nz := [(11, [12])] }
 | _ => {}
def F138x (P : Program) (lf : Nat) (x : tt [(false, (.sl .str))]) : Option (tt [(true, Yq), (false, .bool)]) := fnF P (C204x P lf) S138x 138 [(false, (.sl .str))] [(true, Yq), (false, .bool)] lf x
def C138x (P : Program) (lf : Nat) : FuncId → Option Con := extC (C204x P lf) 138 (dataCon [(false, (.sl .str))] [(true, Yq), (false, .bool)] (F138x P lf))
def S50x : FuncId → Sp := fun g => match g with
 | 50 => { joins := [(24, [(.slot 11, .dat .bool), (.slot 7, .dat .bool), (.cell 6 0, .dat .str), (.cell 6 1, .own (.pair .str (.pair .i .i)) 48), (.cell 6 2, .own Yq 60)]), (14, [(.slot 11, .dat .bool)])], loops := [(7, [(.slot 7, .dat .bool), (.slot 25, .dat .i), (.cell 6 0, .dat .str), (.cell 6 1, .own (.pair .str (.pair .i .i)) 48), (.cell 6 2, .own Yq 60)])] }
 | 128 => { nz := [(11, [12])] }
 | _ => {}
def F50x (P : Program) (lf : Nat) (x : tt [(false, .str)]) : Option (tt [(true, (.pair .str (.pair (.sl (.pair .str (.pair .i .i))) (.sl Yq)))), (false, .i), (false, .i)]) := fnF P (C138x P lf) S50x 50 [(false, .str)] [(true, (.pair .str (.pair (.sl (.pair .str (.pair .i .i))) (.sl Yq)))), (false, .i), (false, .i)] lf x
def C50x (P : Program) (lf : Nat) : FuncId → Option Con := extC (C138x P lf) 50 (dataCon [(false, .str)] [(true, (.pair .str (.pair (.sl (.pair .str (.pair .i .i))) (.sl Yq)))), (false, .i), (false, .i)] (F50x P lf))
def S51x : FuncId → Sp := fun g => match g with
 | 51 => { joins := [(30, [(.slot 125, .dat .bool)]), (23, [(.slot 8, .dat .bool), (.slot 11, .dat .str)]), (22, [(.slot 8, .dat .bool)])], loops := [(16, [(.slot 8, .dat .bool), (.slot 11, .dat .str), (.slot 77, .dat .i)]), (12, [(.slot 8, .dat .bool), (.slot 5, .own .str 9), (.slot 55, .dat .i)]), (6, [(.slot 5, .own .str 9), (.slot 29, .dat .i)])] }
 | 128 => { nz := [(11, [12])] }
 | _ => {}
def F51x (P : Program) (lf : Nat) (x : tt [(true, (.pair .str (.pair (.sl (.pair .str (.pair .i .i))) (.sl Yq))))]) : Option (tt [(false, .str), (false, .i)]) := fnF P (C50x P lf) S51x 51 [(true, (.pair .str (.pair (.sl (.pair .str (.pair .i .i))) (.sl Yq))))] [(false, .str), (false, .i)] lf x
def C51x (P : Program) (lf : Nat) : FuncId → Option Con := extC (C50x P lf) 51 (dataCon [(true, (.pair .str (.pair (.sl (.pair .str (.pair .i .i))) (.sl Yq))))] [(false, .str), (false, .i)] (F51x P lf))
def S52x : FuncId → Sp := fun g => match g with
 | 52 => { joins := [(30, [(.slot 132, .dat .bool)]), (19, [(.slot 8, .dat .bool)]), (17, [(.slot 76, .dat .bool)])], loops := [(21, [(.slot 5, .dat .str), (.slot 110, .dat .i)]), (12, [(.slot 8, .dat .bool), (.slot 5, .dat .str), (.slot 55, .dat .i)]), (6, [(.slot 5, .dat .str), (.slot 29, .dat .i)])] }
 | 128 => { nz := [(11, [12])] }
 | _ => {}
def F52x (P : Program) (lf : Nat) (x : tt [(true, (.pair .str (.pair (.sl (.pair .str (.pair .i .i))) (.sl Yq))))]) : Option (tt [(false, .str), (false, .i)]) := fnF P (C51x P lf) S52x 52 [(true, (.pair .str (.pair (.sl (.pair .str (.pair .i .i))) (.sl Yq))))] [(false, .str), (false, .i)] lf x
def C52x (P : Program) (lf : Nat) : FuncId → Option Con := extC (C51x P lf) 52 (dataCon [(true, (.pair .str (.pair (.sl (.pair .str (.pair .i .i))) (.sl Yq))))] [(false, .str), (false, .i)] (F52x P lf))
def S10x : FuncId → Sp := fun g => match g with
 | 128 => { nz := [(11, [12])] }
 | _ => {}
def F10x (P : Program) (lf : Nat) (x : tt [(false, .str), (true, (.pair .str (.pair (.sl (.pair .str (.pair .i .i))) (.sl Yq))))]) : Option (tt [(false, .bool)]) := fnF P (C52x P lf) S10x 10 [(false, .str), (true, (.pair .str (.pair (.sl (.pair .str (.pair .i .i))) (.sl Yq))))] [(false, .bool)] lf x
end
end Go.K
namespace Go.K
open Go.Sl Go.Sx Go.Proofs
theorem F21x_G (lf : Nat) (x : (Yt × Yt)) : F21x Tryz.prog lf x = G21 lf x := by
 obtain ⟨_, _⟩ := x
 unfold G21
 (try simp only [← Lib.toList_data])
 kernel_rfl
theorem F54x_G (lf : Nat) (x : (Yf × Yf)) : F54x Tryz.prog lf x = G54 lf x := by
 obtain ⟨_, _⟩ := x
 unfold G54
 (try simp only [← Lib.toList_data])
 kernel_rfl
theorem F53x_G (lf : Nat) (x : ((ByteArray × (Yf × Yr)) × (ByteArray × (Yf × Yr)))) : F53x Tryz.prog lf x = G53 lf x := by
 obtain ⟨⟨_, ⟨_, _⟩⟩, ⟨_, ⟨_, _⟩⟩⟩ := x
 unfold G53
 (try simp only [← F21x_G lf, ← F33_G lf, ← F54x_G lf, ← Lib.toList_data])
 kernel_rfl
theorem F90x_G (lf : Nat) (x : ByteArray) : F90x Tryz.prog lf x = G90 lf x := by
 unfold G90
 (try simp only [← Lib.toList_data])
 kernel_rfl
theorem F276x_G (lf : Nat) (x : ByteArray) : F276x Tryz.prog lf x = G276 lf x := by
 unfold G276
 (try simp only [← Lib.toList_data])
 kernel_rfl
theorem F203x_G (lf : Nat) (x : (ByteArray × (Int × Bool))) : F203x Tryz.prog lf x = G203 lf x := by
 obtain ⟨_, ⟨_, _⟩⟩ := x
 unfold G203
 kernel_rfl
theorem F245x_G (lf : Nat) : ∀ (n : Nat) (x : (((List ByteArray) × (Int × (Int × (Yt × Unit)))) × Int)), F245x Tryz.prog lf n x = G245 lf n x
 | 0, _ => rfl
 | n + 1, x => (F245x_eq lf n x.1.1 x.1.2.1 x.1.2.2.1 x.1.2.2.2.1 x.2).trans (by
  unfold G245
  (try simp only [F245x_G lf n, F99_G, F126_G, F203x_G, F276x_G, agree_self, Lib.toList_data]); first | done | rfl)
theorem F163x_G (lf : Nat) (x : (((List ByteArray) × (Int × (Int × (Yt × Unit)))) × Int)) : F163x Tryz.prog lf x = G163 lf x := by
 obtain ⟨⟨_, ⟨_, ⟨_, ⟨_, _⟩⟩⟩⟩, _⟩ := x
 unfold G163
 (try simp only [← F245x_G lf, ← Lib.toList_data])
 kernel_rfl
theorem F89x_G (lf : Nat) (x : (List ByteArray)) : F89x Tryz.prog lf x = G89 lf x := (F89x_eq lf x).trans (by
 unfold G89
 (try simp only [F163x_G, agree_self, Lib.toList_data]); first | done | rfl)
theorem F141x_G (lf : Nat) : ∀ (n : Nat) (x : Int), F141x Tryz.prog lf n x = G141 lf n x
 | 0, _ => rfl
 | n + 1, x => (F141x_eq lf n x).trans (by
  unfold G141
  (try simp only [F141x_G lf n, agree_self, Lib.toList_data]); first | done | rfl)
theorem F169x_G (lf : Nat) (x : ((Int × (Int × (Int × (ByteArray × Int)))) × Bool)) : F169x Tryz.prog lf x = G169 lf x := by
 obtain ⟨⟨_, ⟨_, ⟨_, ⟨_, _⟩⟩⟩⟩, _⟩ := x
 unfold G169
 (try simp only [← F141x_G lf])
 kernel_rfl
theorem F171x_G (lf : Nat) (x : (Int × (Int × (Int × (ByteArray × Int))))) : F171x Tryz.prog lf x = G171 lf x := by
 obtain ⟨_, ⟨_, ⟨_, ⟨_, _⟩⟩⟩⟩ := x
 unfold G171
 kernel_rfl
theorem F170x_G (lf : Nat) (x : ((Int × (Int × Int)) × Bool)) : F170x Tryz.prog lf x = G170 lf x := by
 obtain ⟨⟨_, ⟨_, _⟩⟩, _⟩ := x
 unfold G170
 kernel_rfl
theorem F100x_G (lf : Nat) (x : Yt) : F100x Tryz.prog lf x = G100 lf x := (F100x_eq lf x).trans (by
 unfold G100
 (try simp only [F98_G, F169x_G, F170x_G, F171x_G, agree_self, Lib.toList_data]); first | done | rfl)
theorem F172x_G (lf : Nat) (x : (ByteArray × Bool)) : F172x Tryz.prog lf x = G172 lf x := by
 obtain ⟨_, _⟩ := x
 unfold G172
 kernel_rfl
theorem F101x_G (lf : Nat) : ∀ (n : Nat) (x : (Yt × Int)), F101x Tryz.prog lf n x = G101 lf n x
 | 0, _ => rfl
 | n + 1, x => (F101x_eq lf n x.1 x.2).trans (by
  unfold G101
  (try simp only [F101x_G lf n, F98_G, F169x_G, F171x_G, F172x_G, agree_self, Lib.toList_data]); first | done | rfl)
theorem F20x_G (lf : Nat) (x : Yt) : F20x Tryz.prog lf x = G20 lf x := by
 unfold G20
 (try simp only [← F97_G lf, ← F98_G lf, ← F99_G lf, ← F100x_G lf, ← F101x_G lf])
 kernel_rfl
theorem F136x_G (lf : Nat) (x : ByteArray) : F136x Tryz.prog lf x = G136 lf x := by
 unfold G136
 kernel_rfl
theorem F137x_G (lf : Nat) (x : (List ByteArray)) : F137x Tryz.prog lf x = G137 lf x := by
 unfold G137
 (try simp only [← F99_G lf, ← F203x_G lf])
 kernel_rfl
theorem F204x_G (lf : Nat) (x : ((List ByteArray) × (ByteArray × Int))) : F204x Tryz.prog lf x = G204 lf x := by
 obtain ⟨_, ⟨_, _⟩⟩ := x
 unfold G204
 (try simp only [← Lib.toList_data])
 kernel_rfl
theorem F138x_G (lf : Nat) (x : (List ByteArray)) : F138x Tryz.prog lf x = G138 lf x := by
 unfold G138
 (try simp only [← F89x_G lf, ← F99_G lf, ← F203x_G lf, ← F204x_G lf, ← Lib.toList_data])
 kernel_rfl
theorem F50x_G (lf : Nat) (x : ByteArray) : F50x Tryz.prog lf x = G50 lf x := by
 unfold G50
 (try simp only [← F32_G lf, ← F90x_G lf, ← F99_G lf, ← F136x_G lf, ← F137x_G lf, ← F138x_G lf, ← Lib.toList_data])
 kernel_rfl
theorem F51x_G (lf : Nat) (x : (ByteArray × (Yf × Yr))) : F51x Tryz.prog lf x = G51 lf x := by
 obtain ⟨_, ⟨_, _⟩⟩ := x
 unfold G51
 (try simp only [← F19_G lf, ← F31_G lf])
 kernel_rfl
theorem F52x_G (lf : Nat) (x : (ByteArray × (Yf × Yr))) : F52x Tryz.prog lf x = G52 lf x := by
 obtain ⟨_, ⟨_, _⟩⟩ := x
 unfold G52
 (try simp only [← F20x_G lf, ← F32_G lf, ← F141x_G lf])
 kernel_rfl
theorem F10x_G (lf : Nat) (x : (ByteArray × (ByteArray × (Yf × Yr)))) : F10x Tryz.prog lf x = G10 lf x := by
 obtain ⟨_, ⟨_, ⟨_, _⟩⟩⟩ := x
 unfold G10
 (try simp only [← F22_G lf, ← F49_G lf, ← F50x_G lf, ← F51x_G lf, ← F52x_G lf, ← F53x_G lf, ← Lib.toList_data])
 kernel_rfl
end Go.K
namespace Go.K
open Go.Sl Go.Sx Go.Proofs Go.Shelf Go.RowKit
variable {P : Program} {ρ' : Ren} {E : Env}
theorem foldl_sum (k : Nat) : ∀ (xs : List ByteArray) (n : Nat), xs.foldl (fun n x => n + x.size + k) n = n + (xs.map fun x => x.size + k).sum
 | [], n => by simp
 | x :: xs, n => by rw [List.foldl_cons, foldl_sum k xs]; simp; omega
theorem join_data (sep : ByteArray) : ∀ (xs : List ByteArray) (r : ByteArray), (xs.foldl (fun r y => r ++ sep ++ y) r).data.toList = r.data.toList ++ (xs.map fun y => sep.data.toList ++ y.data.toList).flatten
 | [], r => by simp
 | y :: xs, r => by rw [List.foldl_cons, join_data sep xs]; simp [ByteArray.data_append]
theorem size_len' (s : ByteArray) : s.size = s.data.toList.length := by simp
theorem lens_eq : ∀ xs : List ByteArray, Lib.lens (xs.map (·.data.toList)) = (xs.map (·.size)).sum
 | [] => rfl
 | x :: xs => by
  have := lens_eq xs
  simp only [Lib.lens, List.map_cons, List.flatten_cons, List.length_append, List.sum_cons] at this ⊢
  rw [this, size_len']
theorem sum_add (k : Nat) : ∀ xs : List ByteArray, (xs.map fun x => x.size + (k + 1)).sum = (xs.map (·.size)).sum + k * xs.length + xs.length
 | [] => by simp
 | x :: xs => by
  simp only [List.map_cons, List.sum_cons, sum_add k xs, zc, Nat.mul_add]; omega
theorem joinC_lib {sep : ByteArray} {xs : List ByteArray} {y : ByteArray} (h : joinC sep xs = some y) : y = ⟨(Lib.join (xs.map (·.data.toList)) sep.data.toList).toArray⟩ ∧ (Lib.join (xs.map (·.data.toList)) sep.data.toList).length ≤ 140737488355328 ∧ xs.length ≤ 140737488355328 := by
 unfold joinC at h
 split at h
 ·rename_i hc
  rw [foldl_sum, sum_add] at hc
  have hll := lens_eq xs
  cases xs with
  | nil =>
   simp only [zi] at h
   subst h
   exact ⟨rfl, by simp [Lib.join_nil], by simp⟩
  | cons x xs =>
   simp only [zi] at h
   have hj : (Lib.join ((x :: xs).map (·.data.toList)) sep.data.toList) = y.data.toList := by
    rw [← h, join_data, List.map_cons, Lib.join_cons]
    congr 1
    unfold Lib.joinTail
    rw [List.map_map]
    rfl
   have hlen := Lib.join_length x.data.toList (xs.map (·.data.toList)) sep.data.toList
   rw [List.map_cons] at hj hll
   simp only [zc, List.length_map] at hc hlen
   rw [hll] at hlen
   refine ⟨?_, ?_, ?_⟩
   ·rw [List.map_cons, hj]
   ·rw [List.map_cons, hlen]
    have hs : sep.data.toList.length = sep.size := (size_len' sep).symm
    rw [hs]
    have := Nat.mul_le_mul (Nat.le_refl sep.size) (show xs.length ≤ xs.length + 1 by omega)
    omega
   ·simp only [zc]; omega
 ·cases h
theorem join_valid (Ly : Lays.n156 P ρ') (X : Builder.Extra P ρ') : Valid E P (ρ'.f 156) [aSs, aS] [aS] fun x => joinC x.2 x.1 := by
 intro x y hx z L w vs hz hrep hs
 obtain ⟨v, r, rfl, hv, u, rfl, hu⟩ := hrep
 have h2 := rep_str hu
 subst h2
 obtain ⟨rfl, hl, hn⟩ := joinC_lib hx
 have hv' := rep1 hv
 obtain ⟨o, c, e1, hsl⟩ := hv'
 simp only [List.cons.injEq, and_true] at e1
 subst e1
 have fin : ∀ (o : Option Addr), (o = none → x.1 = []) → (∀ a, o = some a → ∀ j s, x.1[j]? = some s → z.cell? (a.add j) = some (.string s)) → x.1.length ≤ c → Calls P (ρ'.f 156) #[.slice o x.1.length c, .string x.2] w fun e w' => e = .returned (.string ⟨(Lib.join (x.1.map (·.data.toList)) x.2.data.toList).toArray⟩) ∧ Below w.heap.size w w' := by
  intro o h0 h1 hcap
  cases hx1 : x.1 with
  | nil =>
   simp only [zl]
   refine (Any.strings_Join_none Ly X o c x.2 w).mono fun e w' ⟨he, hw⟩ => ⟨he, hw ▸ Below.refl _ _⟩
  | cons s0 ss =>
   cases o with
   | none => rw [h0 rfl] at hx1; cases hx1
   | some a =>
    have hc0 := h1 a rfl 0 s0 (by rw [hx1]; rfl)
    have hspot : a.spot = none ∧ (a.add 0) = a := by
     constructor
     ·unfold Zone.cell? at hc0
      split at hc0
      ·split at hc0
       ·cases hc0
       ·rename_i hsp
        rw [add_zero' a] at hsp
        cases hs : a.spot with
        | none => rfl
        | some q => rw [hs] at hsp; simp at hsp
      ·cases hc0
     ·exact add_zero' a
    obtain ⟨bk, off, sp⟩ := a
    obtain ⟨hsp, _⟩ := hspot
    simp only at hsp
    subst hsp
    have hcell : ∀ (j : Nat) s, (s0 :: ss)[j]? = some s → w.cell? ⟨bk, off + j, none⟩ = some (.string s) := fun j s hj => by
     have := h1 _ rfl j s (by rw [hx1]; exact hj)
     have := hs.cell this
     have ha : (⟨bk, off, none⟩ : Addr).add j = ⟨bk, off + j, none⟩ := by unfold Addr.add; split <;> simp_all
     rwa [ha] at this
    have hbk : bk < w.heap.size := by
     have := hcell 0 s0 rfl
     unfold World.cell? at this
     cases hb : w.heap[bk]? with
     | none => rw [hb] at this; cases this
     | some ob => exact (Array.getElem?_eq_some_iff.1 hb).1
    rw [hx1] at hl hn hcap
    exact Any.strings_Join Ly X bk off c (s0 :: ss) x.2 w hcell hbk hn hcap hl
 refine (fin o (fun e => (hsl.hnil e).1) (fun a e j s hj => ?_) hsl.hcap).mono ?_
 ·obtain ⟨cs, hr, hc⟩ := hsl.hat a e j s hj
  have hr' : cs = [.string s] := hr
  have := hc 0 (.string s) (by rw [hr']; rfl)
  have e1 : j * (TC.str.ty).size = j := by show j * 1 = j; omega
  rw [e1] at this
  rwa [add_zero'] at this
 ·rintro en w' ⟨rfl, hb⟩
  exact ⟨_, z, rfl, Zone.le_refl _, ⟨[.string _], rfl, _, rfl, .inr ⟨rfl, rfl⟩⟩, hs.of_below hb⟩
end Go.K
namespace Go.Proofs
open Go.Shelf Go.RowKit Go.Lib
theorem Tryz.isBlank (W : World) (r : Nat) : FnGives Tryz.prog 158 #[] #[encR r] (.bool (Nat.beq r 32)) W := by
 unfold FnGives
 have e : Nat.beq r 32 = decide ((r : Int) = 32) := by
  cases h : Nat.beq r 32 with
  | true => have := zn h; simp; omega
  | false => have := Nat.ne_of_beq_eq_false h; simp; omega
 rw [e]
 go_enter Tryz.func158, Tryz.ntmps158
 go_wp2
 go_ret
 exact ⟨rfl, 0, rfl⟩
theorem Tryz.extraB : Builder.Extra Tryz.prog Tryz.join_ren := {
 sizeBuilder := by kernel_rfl
 liesBuilder := by kernel_rfl
 t5 := Tryz.underlying5
 a5 := Tryz.isAgg5
 z5 := Tryz.sizeOf5
 v5 := Tryz.zeroValue5
 infoByte := by kernel_rfl
 cellsByte := by kernel_rfl
 sizeByte := by kernel_rfl
 neB5 := by decide }
end Go.Proofs
namespace Go.K
open Go.Sl Go.Sx Go.Proofs Go.Shelf Go.RowKit
theorem mixedT : Tryz.prog.follows .mixedOrders = true := by kernel_rfl
abbrev HC (E : Env) (C : FuncId → Option Con) : Prop := ∀ L, envA E ∈ L → ∀ g con, C g = some con → ConOk Tryz.prog L con g
theorem sort_row : RowOk Tryz.prog 182 .i sortL := ⟨fun xs => (sortL_len xs).symm, fun hS hj hl => sortOwn Tryz.sortI hS hj hl⟩
theorem comp_cut : CutOk Tryz.prog 183 .i compL := fun hS hj hl => compactOwn Tryz.compactI hS hj hl
theorem ct_ok (lf : Nat) : HC (envT Tryz.prog 0) (CT Tryz.prog lf) := by
 intro L hL
 unfold CT
 refine extC_ok (extC_ok (extC_ok (extC_ok (extC_ok (extC_ok (extC_ok (extC_ok (fun g con h => by cases h) ?a) ?b) ?c) ?d) ?e) ?f) ?g) ?h
 case a => exact dataCon_ok (itoa_valid Tryz.itoa) hL
 case b => exact dataCon_ok (trim_valid Tryz.trim (by kernel_rfl)) hL
 case c => exact rowCon_ok sort_row
 case d => exact cutCon_ok comp_cut
 case e => exact dataCon_ok (split_valid Tryz.split (by kernel_rfl)) hL
 case f => exact atoiCon_ok Tryz.atoi
 case g => exact fieldsCon_ok Tryz.fields (enters_of Tryz.func158 (by kernel_rfl) rfl) (fun W x => Tryz.isBlank W x) (by kernel_rfl) (by kernel_rfl)
 case h => exact dataCon_ok (join_valid Tryz.join Tryz.extraB) hL
end Go.K
namespace Go.K
open Go.Sl Go.Sx Go.Proofs
theorem kcCT : HC (envT Tryz.prog 0) (CT Tryz.prog LF) := ct_ok LF
theorem kc91 : HC (envT Tryz.prog 0) (C91 Tryz.prog LF) := fun L hL => extC_ok (kcCT L hL) (dataCon_ok (fnF_valid mixedT kcCT 91 _ _ LF) hL)
theorem kc223 : HC (envT Tryz.prog 0) (C223 Tryz.prog LF) := fun L hL => extC_ok (kc91 L hL) (dataCon_ok (fnF_valid mixedT kc91 223 _ _ LF) hL)
theorem kc180 : HC (envT Tryz.prog 0) (C180 Tryz.prog LF) := fun L hL => extC_ok (kc223 L hL) (dataCon_ok (fnF_valid mixedT kc223 180 _ _ LF) hL)
theorem kc165 : HC (envT Tryz.prog 0) (C165 Tryz.prog LF) := fun L hL => extC_ok (kc180 L hL) (dataCon_ok (fnF_valid mixedT kc180 165 _ _ LF) hL)
theorem kc94 : HC (envT Tryz.prog 0) (C94 Tryz.prog LF) := fun L hL => extC_ok (kc165 L hL) (dataCon_ok (fnF_valid mixedT kc165 94 _ _ LF) hL)
theorem kc158 : HC (envT Tryz.prog 0) (C158 Tryz.prog LF) := fun L hL => extC_ok (kc94 L hL) (dataCon_ok (fnF_valid mixedT kc94 158 _ _ LF) hL)
theorem kc86 : HC (envT Tryz.prog 0) (C86 Tryz.prog LF) := fun L hL => extC_ok (kc158 L hL) (dataCon_ok (fnF_valid mixedT kc158 86 _ _ LF) hL)
theorem kc244 : HC (envT Tryz.prog 0) (C244 Tryz.prog LF) := fun L hL => extC_ok (kc86 L hL) (dataCon_ok (fnF_valid mixedT kc86 244 _ _ LF) hL)
theorem kc215 : HC (envT Tryz.prog 0) (C215 Tryz.prog LF) := fun L hL => extC_ok (kc244 L hL) (refCon_ok (fnR_valid mixedT kc244 215 _ _ _ _ _ _ LF) hL)
theorem kc216 : HC (envT Tryz.prog 0) (C216 Tryz.prog LF) := fun L hL => extC_ok (kc215 L hL) (refCon_ok (fnR_valid mixedT kc215 216 _ _ _ _ _ _ LF) hL)
theorem kc162 : HC (envT Tryz.prog 0) (C162 Tryz.prog LF) := fun L hL => extC_ok (kc216 L hL) (refCon_ok (recR_valid mixedT kc216 (fun _ => rfl) (fun _ _ => rfl) LF) hL)
theorem kc17 : HC (envT Tryz.prog 0) (C17 Tryz.prog LF) := fun L hL => extC_ok (kc162 L hL) (dataCon_ok (fnF_valid mixedT kc162 17 _ _ LF) hL)
theorem kc110 : HC (envT Tryz.prog 0) (C110 Tryz.prog LF) := fun L hL => extC_ok (kc17 L hL) (dataCon_ok (fnF_valid mixedT kc17 110 _ _ LF) hL)
theorem kc190 : HC (envT Tryz.prog 0) (C190 Tryz.prog LF) := fun L hL => extC_ok (kc110 L hL) (dataCon_ok (fnF_valid mixedT kc110 190 _ _ LF) hL)
theorem kc188 : HC (envT Tryz.prog 0) (C188 Tryz.prog LF) := fun L hL => extC_ok (kc190 L hL) (dataCon_ok (fnF_valid mixedT kc190 188 _ _ LF) hL)
theorem kc189 : HC (envT Tryz.prog 0) (C189 Tryz.prog LF) := fun L hL => extC_ok (kc188 L hL) (dataCon_ok (fnF_valid mixedT kc188 189 _ _ LF) hL)
theorem kc191 : HC (envT Tryz.prog 0) (C191 Tryz.prog LF) := fun L hL => extC_ok (kc189 L hL) (dataCon_ok (fnF_valid mixedT kc189 191 _ _ LF) hL)
theorem kc192 : HC (envT Tryz.prog 0) (C192 Tryz.prog LF) := fun L hL => extC_ok (kc191 L hL) (dataCon_ok (fnF_valid mixedT kc191 192 _ _ LF) hL)
theorem kc193 : HC (envT Tryz.prog 0) (C193 Tryz.prog LF) := fun L hL => extC_ok (kc192 L hL) (dataCon_ok (fnF_valid mixedT kc192 193 _ _ LF) hL)
theorem kc194 : HC (envT Tryz.prog 0) (C194 Tryz.prog LF) := fun L hL => extC_ok (kc193 L hL) (dataCon_ok (fnF_valid mixedT kc193 194 _ _ LF) hL)
theorem kc195 : HC (envT Tryz.prog 0) (C195 Tryz.prog LF) := fun L hL => extC_ok (kc194 L hL) (dataCon_ok (fnF_valid mixedT kc194 195 _ _ LF) hL)
theorem kc131 : HC (envT Tryz.prog 0) (C131 Tryz.prog LF) := fun L hL => extC_ok (kc195 L hL) (dataCon_ok (fnF_valid mixedT kc195 131 _ _ LF) hL)
theorem kc147 : HC (envT Tryz.prog 0) (C147 Tryz.prog LF) := fun L hL => extC_ok (kc131 L hL) (dataCon_ok (fnF_valid mixedT kc131 147 _ _ LF) hL)
theorem kc36 : HC (envT Tryz.prog 0) (C36 Tryz.prog LF) := fun L hL => extC_ok (kc147 L hL) (dataCon_ok (fnF_valid mixedT kc147 36 _ _ LF) hL)
theorem kc130 : HC (envT Tryz.prog 0) (C130 Tryz.prog LF) := fun L hL => extC_ok (kc36 L hL) (dataCon_ok (fnF_valid mixedT kc36 130 _ _ LF) hL)
theorem kc116 : HC (envT Tryz.prog 0) (C116 Tryz.prog LF) := fun L hL => extC_ok (kc130 L hL) (dataCon_ok (fnF_valid mixedT kc130 116 _ _ LF) hL)
theorem kc181 : HC (envT Tryz.prog 0) (C181 Tryz.prog LF) := fun L hL => extC_ok (kc116 L hL) (dataCon_ok (fnF_valid mixedT kc116 181 _ _ LF) hL)
theorem kc115 : HC (envT Tryz.prog 0) (C115 Tryz.prog LF) := fun L hL => extC_ok (kc181 L hL) (dataCon_ok (fnF_valid mixedT kc181 115 _ _ LF) hL)
theorem kc106 : HC (envT Tryz.prog 0) (C106 Tryz.prog LF) := fun L hL => extC_ok (kc115 L hL) (dataCon_ok (fnF_valid mixedT kc115 106 _ _ LF) hL)
theorem kc174 : HC (envT Tryz.prog 0) (C174 Tryz.prog LF) := fun L hL => extC_ok (kc106 L hL) (dataCon_ok (fnF_valid mixedT kc106 174 _ _ LF) hL)
theorem kc125 : HC (envT Tryz.prog 0) (C125 Tryz.prog LF) := fun L hL => extC_ok (kc174 L hL) (dataCon_ok (fnF_valid mixedT kc174 125 _ _ LF) hL)
theorem kc133 : HC (envT Tryz.prog 0) (C133 Tryz.prog LF) := fun L hL => extC_ok (kc125 L hL) (dataCon_ok (fnF_valid mixedT kc125 133 _ _ LF) hL)
theorem kc104 : HC (envT Tryz.prog 0) (C104 Tryz.prog LF) := fun L hL => extC_ok (kc133 L hL) (dataCon_ok (fnF_valid mixedT kc133 104 _ _ LF) hL)
theorem kc266 : HC (envT Tryz.prog 0) (C266 Tryz.prog LF) := fun L hL => extC_ok (kc104 L hL) (dataCon_ok (fnF_valid mixedT kc104 266 _ _ LF) hL)
theorem kc199 : HC (envT Tryz.prog 0) (C199 Tryz.prog LF) := fun L hL => extC_ok (kc266 L hL) (panCon_ok (fnP_valid mixedT kc266 199 _ _ _ _ LF) hL)
theorem kc198 : HC (envT Tryz.prog 0) (C198 Tryz.prog LF) := fun L hL => extC_ok (kc199 L hL) (refCon_ok (fnR_valid mixedT kc199 198 _ _ _ _ _ _ LF) hL)
theorem kc200 : HC (envT Tryz.prog 0) (C200 Tryz.prog LF) := fun L hL => extC_ok (kc198 L hL) (refCon_ok (fnR_valid mixedT kc198 200 _ _ _ _ _ _ LF) hL)
theorem kc239 : HC (envT Tryz.prog 0) (C239 Tryz.prog LF) := fun L hL => extC_ok (kc200 L hL) (refCon_ok (fnR_valid mixedT kc200 239 _ _ _ _ _ _ LF) hL)
theorem kc201 : HC (envT Tryz.prog 0) (C201 Tryz.prog LF) := fun L hL => extC_ok (kc239 L hL) (refCon_ok (fnR_valid mixedT kc239 201 _ _ _ _ _ _ LF) hL)
theorem kc240 : HC (envT Tryz.prog 0) (C240 Tryz.prog LF) := fun L hL => extC_ok (kc201 L hL) (refCon_ok (fnR_valid mixedT kc201 240 _ _ _ _ _ _ LF) hL)
theorem kc202 : HC (envT Tryz.prog 0) (C202 Tryz.prog LF) := fun L hL => extC_ok (kc240 L hL) (refCon_ok (fnR_valid mixedT kc240 202 _ _ _ _ _ _ LF) hL)
theorem kc93 : HC (envT Tryz.prog 0) (C93 Tryz.prog LF) := fun L hL => extC_ok (kc202 L hL) (dataCon_ok (fnF_valid mixedT kc202 93 _ _ LF) hL)
theorem kc92 : HC (envT Tryz.prog 0) (C92 Tryz.prog LF) := fun L hL => extC_ok (kc93 L hL) (dataCon_ok (fnF_valid mixedT kc93 92 _ _ LF) hL)
theorem kc29 : HC (envT Tryz.prog 0) (C29 Tryz.prog LF) := fun L hL => extC_ok (kc92 L hL) (dataCon_ok (fnF_valid mixedT kc92 29 _ _ LF) hL)
theorem kc112 : HC (envT Tryz.prog 0) (C112 Tryz.prog LF) := fun L hL => extC_ok (kc29 L hL) (dataCon_ok (fnF_valid mixedT kc29 112 _ _ LF) hL)
theorem kc113 : HC (envT Tryz.prog 0) (C113 Tryz.prog LF) := fun L hL => extC_ok (kc112 L hL) (dataCon_ok (fnF_valid mixedT kc112 113 _ _ LF) hL)
theorem kc114 : HC (envT Tryz.prog 0) (C114 Tryz.prog LF) := fun L hL => extC_ok (kc113 L hL) (dataCon_ok (fnF_valid mixedT kc113 114 _ _ LF) hL)
theorem kc31 : HC (envT Tryz.prog 0) (C31 Tryz.prog LF) := fun L hL => extC_ok (kc114 L hL) (dataCon_ok (fnF_valid mixedT kc114 31 _ _ LF) hL)
theorem kc62 : HC (envT Tryz.prog 0) (C62 Tryz.prog LF) := fun L hL => extC_ok (kc31 L hL) (dataCon_ok (fnF_valid mixedT kc31 62 _ _ LF) hL)
theorem kc61 : HC (envT Tryz.prog 0) (C61 Tryz.prog LF) := fun L hL => extC_ok (kc62 L hL) (dataCon_ok (fnF_valid mixedT kc62 61 _ _ LF) hL)
theorem kc222 : HC (envT Tryz.prog 0) (C222 Tryz.prog LF) := fun L hL => extC_ok (kc61 L hL) (dataCon_ok (fnF_valid mixedT kc61 222 _ _ LF) hL)
theorem kc173 : HC (envT Tryz.prog 0) (C173 Tryz.prog LF) := fun L hL => extC_ok (kc222 L hL) (dataCon_ok (fnF_valid mixedT kc222 173 _ _ LF) hL)
theorem kc23 : HC (envT Tryz.prog 0) (C23 Tryz.prog LF) := fun L hL => extC_ok (kc173 L hL) (dataCon_ok (fnF_valid mixedT kc173 23 _ _ LF) hL)
theorem kc24 : HC (envT Tryz.prog 0) (C24 Tryz.prog LF) := fun L hL => extC_ok (kc23 L hL) (dataCon_ok (fnF_valid mixedT kc23 24 _ _ LF) hL)
theorem kc127 : HC (envT Tryz.prog 0) (C127 Tryz.prog LF) := fun L hL => extC_ok (kc24 L hL) (dataCon_ok (fnF_valid mixedT kc24 127 _ _ LF) hL)
theorem kc132 : HC (envT Tryz.prog 0) (C132 Tryz.prog LF) := fun L hL => extC_ok (kc127 L hL) (dataCon_ok (fnF_valid mixedT kc127 132 _ _ LF) hL)
theorem kc47 : HC (envT Tryz.prog 0) (C47 Tryz.prog LF) := fun L hL => extC_ok (kc132 L hL) (dataCon_ok (fnF_valid mixedT kc132 47 _ _ LF) hL)
theorem kc49 : HC (envT Tryz.prog 0) (C49 Tryz.prog LF) := fun L hL => extC_ok (kc47 L hL) (dataCon_ok (fnF_valid mixedT kc47 49 _ _ LF) hL)
theorem kc167 : HC (envT Tryz.prog 0) (C167 Tryz.prog LF) := fun L hL => extC_ok (kc49 L hL) (dataCon_ok (fnF_valid mixedT kc49 167 _ _ LF) hL)
theorem kc246 : HC (envT Tryz.prog 0) (C246 Tryz.prog LF) := fun L hL => extC_ok (kc167 L hL) (dataCon_ok (fnF_valid mixedT kc167 246 _ _ LF) hL)
theorem kc220 : HC (envT Tryz.prog 0) (C220 Tryz.prog LF) := fun L hL => extC_ok (kc246 L hL) (dataCon_ok (fnF_valid mixedT kc246 220 _ _ LF) hL)
theorem kc166 : HC (envT Tryz.prog 0) (C166 Tryz.prog LF) := fun L hL => extC_ok (kc220 L hL) (dataCon_ok (fnF_valid mixedT kc220 166 _ _ LF) hL)
theorem kc95 : HC (envT Tryz.prog 0) (C95 Tryz.prog LF) := fun L hL => extC_ok (kc166 L hL) (dataCon_ok (fnF_valid mixedT kc166 95 _ _ LF) hL)
theorem kc96 : HC (envT Tryz.prog 0) (C96 Tryz.prog LF) := fun L hL => extC_ok (kc95 L hL) (dataCon_ok (rec_valid mixedT kc95 (fun _ => rfl) (fun _ _ => rfl) LF) hL)
theorem kc19 : HC (envT Tryz.prog 0) (C19 Tryz.prog LF) := fun L hL => extC_ok (kc96 L hL) (dataCon_ok (fnF_valid mixedT kc96 19 _ _ LF) hL)
theorem kc128 : HC (envT Tryz.prog 0) (C128 Tryz.prog LF) := fun L hL => extC_ok (kc19 L hL) (dataCon_ok (fnF_valid mixedT kc19 128 _ _ LF) hL)
theorem kc41 : HC (envT Tryz.prog 0) (C41 Tryz.prog LF) := fun L hL => extC_ok (kc128 L hL) (dataCon_ok (fnF_valid mixedT kc128 41 _ _ LF) hL)
theorem kc102 : HC (envT Tryz.prog 0) (C102 Tryz.prog LF) := fun L hL => extC_ok (kc41 L hL) (dataCon_ok (fnF_valid mixedT kc41 102 _ _ LF) hL)
theorem kc22 : HC (envT Tryz.prog 0) (C22 Tryz.prog LF) := fun L hL => extC_ok (kc102 L hL) (dataCon_ok (fnF_valid mixedT kc102 22 _ _ LF) hL)
theorem kc126 : HC (envT Tryz.prog 0) (C126 Tryz.prog LF) := fun L hL => extC_ok (kc22 L hL) (dataCon_ok (fnF_valid mixedT kc22 126 _ _ LF) hL)
theorem kc168 : HC (envT Tryz.prog 0) (C168 Tryz.prog LF) := fun L hL => extC_ok (kc126 L hL) (dataCon_ok (fnF_valid mixedT kc126 168 _ _ LF) hL)
theorem kc84 : HC (envT Tryz.prog 0) (C84 Tryz.prog LF) := fun L hL => extC_ok (kc168 L hL) (dataCon_ok (fnF_valid mixedT kc168 84 _ _ LF) hL)
theorem kc99 : HC (envT Tryz.prog 0) (C99 Tryz.prog LF) := fun L hL => extC_ok (kc84 L hL) (dataCon_ok (fnF_valid mixedT kc84 99 _ _ LF) hL)
theorem kc117 : HC (envT Tryz.prog 0) (C117 Tryz.prog LF) := fun L hL => extC_ok (kc99 L hL) (dataCon_ok (fnF_valid mixedT kc99 117 _ _ LF) hL)
theorem kc98 : HC (envT Tryz.prog 0) (C98 Tryz.prog LF) := fun L hL => extC_ok (kc117 L hL) (dataCon_ok (fnF_valid mixedT kc117 98 _ _ LF) hL)
theorem kc97 : HC (envT Tryz.prog 0) (C97 Tryz.prog LF) := fun L hL => extC_ok (kc98 L hL) (dataCon_ok (fnF_valid mixedT kc98 97 _ _ LF) hL)
theorem kc111 : HC (envT Tryz.prog 0) (C111 Tryz.prog LF) := fun L hL => extC_ok (kc97 L hL) (dataCon_ok (fnF_valid mixedT kc97 111 _ _ LF) hL)
theorem kc30 : HC (envT Tryz.prog 0) (C30 Tryz.prog LF) := fun L hL => extC_ok (kc111 L hL) (dataCon_ok (fnF_valid mixedT kc111 30 _ _ LF) hL)
theorem kc37 : HC (envT Tryz.prog 0) (C37 Tryz.prog LF) := fun L hL => extC_ok (kc30 L hL) (dataCon_ok (fnF_valid mixedT kc30 37 _ _ LF) hL)
theorem kc118 : HC (envT Tryz.prog 0) (C118 Tryz.prog LF) := fun L hL => extC_ok (kc37 L hL) (dataCon_ok (fnF_valid mixedT kc37 118 _ _ LF) hL)
theorem kc109 : HC (envT Tryz.prog 0) (C109 Tryz.prog LF) := fun L hL => extC_ok (kc118 L hL) (dataCon_ok (fnF_valid mixedT kc118 109 _ _ LF) hL)
theorem kc176 : HC (envT Tryz.prog 0) (C176 Tryz.prog LF) := fun L hL => extC_ok (kc109 L hL) (dataCon_ok (fnF_valid mixedT kc109 176 _ _ LF) hL)
theorem kc177 : HC (envT Tryz.prog 0) (C177 Tryz.prog LF) := fun L hL => extC_ok (kc176 L hL) (dataCon_ok (fnF_valid mixedT kc176 177 _ _ LF) hL)
theorem kc108 : HC (envT Tryz.prog 0) (C108 Tryz.prog LF) := fun L hL => extC_ok (kc177 L hL) (dataCon_ok (fnF_valid mixedT kc177 108 _ _ LF) hL)
theorem kc120 : HC (envT Tryz.prog 0) (C120 Tryz.prog LF) := fun L hL => extC_ok (kc108 L hL) (dataCon_ok (fnF_valid mixedT kc108 120 _ _ LF) hL)
theorem kc119 : HC (envT Tryz.prog 0) (C119 Tryz.prog LF) := fun L hL => extC_ok (kc120 L hL) (dataCon_ok (fnF_valid mixedT kc120 119 _ _ LF) hL)
theorem kc32 : HC (envT Tryz.prog 0) (C32 Tryz.prog LF) := fun L hL => extC_ok (kc119 L hL) (dataCon_ok (fnF_valid mixedT kc119 32 _ _ LF) hL)
theorem kc33 : HC (envT Tryz.prog 0) (C33 Tryz.prog LF) := fun L hL => extC_ok (kc32 L hL) (dataCon_ok (fnF_valid mixedT kc32 33 _ _ LF) hL)
end Go.K
namespace Go.K
open Go.Sl Go.Sx Go.Proofs
theorem kc21x : HC (envT Tryz.prog 0) (C21x Tryz.prog LF) := fun L hL => extC_ok (kc33 L hL) (dataCon_ok (fnF_valid mixedT kc33 21 _ _ LF) hL)
theorem kc54x : HC (envT Tryz.prog 0) (C54x Tryz.prog LF) := fun L hL => extC_ok (kc21x L hL) (dataCon_ok (fnF_valid mixedT kc21x 54 _ _ LF) hL)
theorem kc53x : HC (envT Tryz.prog 0) (C53x Tryz.prog LF) := fun L hL => extC_ok (kc54x L hL) (dataCon_ok (fnF_valid mixedT kc54x 53 _ _ LF) hL)
theorem kc90x : HC (envT Tryz.prog 0) (C90x Tryz.prog LF) := fun L hL => extC_ok (kc53x L hL) (dataCon_ok (fnF_valid mixedT kc53x 90 _ _ LF) hL)
theorem kc276x : HC (envT Tryz.prog 0) (C276x Tryz.prog LF) := fun L hL => extC_ok (kc90x L hL) (dataCon_ok (fnF_valid mixedT kc90x 276 _ _ LF) hL)
theorem kc203x : HC (envT Tryz.prog 0) (C203x Tryz.prog LF) := fun L hL => extC_ok (kc276x L hL) (dataCon_ok (fnF_valid mixedT kc276x 203 _ _ LF) hL)
theorem kc245x : HC (envT Tryz.prog 0) (C245x Tryz.prog LF) := fun L hL => extC_ok (kc203x L hL) (refCon_ok (recR_valid mixedT kc203x (fun _ => rfl) (fun _ _ => rfl) LF) hL)
theorem kc163x : HC (envT Tryz.prog 0) (C163x Tryz.prog LF) := fun L hL => extC_ok (kc245x L hL) (refCon_ok (fnR_valid mixedT kc245x 163 _ _ _ _ _ _ LF) hL)
theorem kc89x : HC (envT Tryz.prog 0) (C89x Tryz.prog LF) := fun L hL => extC_ok (kc163x L hL) (dataCon_ok (fnF_valid mixedT kc163x 89 _ _ LF) hL)
theorem kc18x : HC (envT Tryz.prog 0) (C18x Tryz.prog LF) := fun L hL => extC_ok (kc89x L hL) (dataCon_ok (fnF_valid mixedT kc89x 18 _ _ LF) hL)
theorem kc141x : HC (envT Tryz.prog 0) (C141x Tryz.prog LF) := fun L hL => extC_ok (kc18x L hL) (dataCon_ok (rec_valid mixedT kc18x (fun _ => rfl) (fun _ _ => rfl) LF) hL)
theorem kc169x : HC (envT Tryz.prog 0) (C169x Tryz.prog LF) := fun L hL => extC_ok (kc141x L hL) (dataCon_ok (fnF_valid mixedT kc141x 169 _ _ LF) hL)
theorem kc171x : HC (envT Tryz.prog 0) (C171x Tryz.prog LF) := fun L hL => extC_ok (kc169x L hL) (dataCon_ok (fnF_valid mixedT kc169x 171 _ _ LF) hL)
theorem kc170x : HC (envT Tryz.prog 0) (C170x Tryz.prog LF) := fun L hL => extC_ok (kc171x L hL) (dataCon_ok (fnF_valid mixedT kc171x 170 _ _ LF) hL)
theorem kc100x : HC (envT Tryz.prog 0) (C100x Tryz.prog LF) := fun L hL => extC_ok (kc170x L hL) (dataCon_ok (fnF_valid mixedT kc170x 100 _ _ LF) hL)
theorem kc172x : HC (envT Tryz.prog 0) (C172x Tryz.prog LF) := fun L hL => extC_ok (kc100x L hL) (dataCon_ok (fnF_valid mixedT kc100x 172 _ _ LF) hL)
theorem kc101x : HC (envT Tryz.prog 0) (C101x Tryz.prog LF) := fun L hL => extC_ok (kc172x L hL) (dataCon_ok (rec_valid mixedT kc172x (fun _ => rfl) (fun _ _ => rfl) LF) hL)
theorem kc20x : HC (envT Tryz.prog 0) (C20x Tryz.prog LF) := fun L hL => extC_ok (kc101x L hL) (dataCon_ok (fnF_valid mixedT kc101x 20 _ _ LF) hL)
theorem kc136x : HC (envT Tryz.prog 0) (C136x Tryz.prog LF) := fun L hL => extC_ok (kc20x L hL) (dataCon_ok (fnF_valid mixedT kc20x 136 _ _ LF) hL)
theorem kc137x : HC (envT Tryz.prog 0) (C137x Tryz.prog LF) := fun L hL => extC_ok (kc136x L hL) (dataCon_ok (fnF_valid mixedT kc136x 137 _ _ LF) hL)
theorem kc204x : HC (envT Tryz.prog 0) (C204x Tryz.prog LF) := fun L hL => extC_ok (kc137x L hL) (dataCon_ok (fnF_valid mixedT kc137x 204 _ _ LF) hL)
theorem kc138x : HC (envT Tryz.prog 0) (C138x Tryz.prog LF) := fun L hL => extC_ok (kc204x L hL) (dataCon_ok (fnF_valid mixedT kc204x 138 _ _ LF) hL)
theorem kc50x : HC (envT Tryz.prog 0) (C50x Tryz.prog LF) := fun L hL => extC_ok (kc138x L hL) (dataCon_ok (fnF_valid mixedT kc138x 50 _ _ LF) hL)
theorem kc51x : HC (envT Tryz.prog 0) (C51x Tryz.prog LF) := fun L hL => extC_ok (kc50x L hL) (dataCon_ok (fnF_valid mixedT kc50x 51 _ _ LF) hL)
theorem kc52x : HC (envT Tryz.prog 0) (C52x Tryz.prog LF) := fun L hL => extC_ok (kc51x L hL) (dataCon_ok (fnF_valid mixedT kc51x 52 _ _ LF) hL)
end Go.K
namespace Go.Sx
open Go.Sl Go.RowKit Go.ChangeShapes
def Opens {α : Type} (P : Program) (t : TypeId) (T : Ty α) (ok : α → Prop) : Prop :=
 ∀ (H : Type) (enc : TypeId × Value → H) (W : World) (fuel : Nat) (cs : List Value) (d : DataW H × List MemPlace),
  DataW.trod enc P W 0 (fun _ => true) true fuel t cs = some d → ∃ x, T.rep (Zone.all W) cs x ∧ ok x
theorem mapM_mem {α β : Type} {f : α → Option β} : ∀ {l : List α} {ys : List β}, l.mapM f = some ys → ∀ a ∈ l, ∃ y, f a = some y
 | [], _, _, a, ha => by cases ha
 | x :: l, ys, h, a, ha => by
  rw [List.mapM_cons] at h
  cases hx : f x with
  | none => rw [hx] at h; simp at h
  | some y =>
   rw [hx] at h
   simp only [Option.pure_def, Option.bind_eq_bind, zb] at h
   cases hl : l.mapM f with
   | none => rw [hl] at h; simp at h
   | some zs =>
    rcases List.mem_cons.1 ha with e | e
    ·subst e; exact ⟨y, hx⟩
    ·exact mapM_mem hl a e
section
variable {H : Type} {enc : TypeId × Value → H} {P : Program} {W : World} {fuel : Nat} {t : TypeId} {cs : List Value} {d : DataW H × List MemPlace}
theorem trod_fields {fs : Array Field} (ht : P.underlying t = some (.struct fs)) (h : DataW.trod enc P W 0 (fun _ => true) true fuel t cs = some d) :
  cs.length = P.cellsOf t ∧ ∃ n, ∀ f ∈ fs.toList, ∃ y, DataW.trod enc P W 0 (fun _ => true) true n f.type ((cs.drop f.offset).take (P.cellsOf f.type)) = some y := by
 cases fuel with
 | zero => simp [DataW.trod] at h
 | succ n =>
  simp only [DataW.trod, ht] at h
  by_cases hl : cs.length = P.cellsOf t
  ·rw [if_pos hl] at h
   refine ⟨hl, n, fun f hf => ?_⟩
   cases hm : fs.toList.mapM fun f => DataW.trod enc P W 0 (fun _ => true) true n f.type ((cs.drop f.offset).take (P.cellsOf f.type)) with
   | none => rw [hm] at h; simp at h
   | some ys => exact mapM_mem hm f hf
  ·rw [if_neg hl] at h; cases h
theorem trod_items {m : Nat} {e : TypeId} (ht : P.underlying t = some (.array m e)) (h : DataW.trod enc P W 0 (fun _ => true) true fuel t cs = some d) :
  cs.length = P.cellsOf t ∧ ∃ n, ∀ i, i < m → ∃ y, DataW.trod enc P W 0 (fun _ => true) true n e ((cs.drop (i * P.cellsOf e)).take (P.cellsOf e)) = some y := by
 cases fuel with
 | zero => simp [DataW.trod] at h
 | succ n =>
  simp only [DataW.trod, ht] at h
  by_cases hl : cs.length = P.cellsOf t
  ·rw [if_pos hl] at h
   refine ⟨hl, n, fun i hi => ?_⟩
   cases hm : (List.range m).mapM fun i => DataW.trod enc P W 0 (fun _ => true) true n e ((cs.drop (i * P.cellsOf e)).take (P.cellsOf e)) with
   | none => rw [hm] at h; simp at h
   | some ys => exact mapM_mem hm i (List.mem_range.2 hi)
  ·rw [if_neg hl] at h; cases h
end
theorem opens_slice {α : Type} {P : Program} {t e : TypeId} {T : Ty α} {ok : α → Prop} (ht : P.underlying t = some (.slice e)) (he : P.cellsOf e = T.size) (h : Opens P e T ok) : Opens P t (Ty.slice T) (fun xs => (∀ x ∈ xs, ok x) ∧ xs.length ≤ maxLen) := fun H enc W fuel cs d hd => by
 rcases Go.Deep.open_slice ht hd with ⟨rfl, _⟩ | ⟨a, len, cap, m, n, D, Pl, rfl, _, hl, hm, hmm, _, hx⟩
 ·exact ⟨[], ⟨none, 0, rfl, SliceR.nil' T _⟩, ⟨(fun _ h => by cases h), by simp⟩⟩
 ·simp only [if_true] at hmm
  have hall : ∀ i, i < len → ∃ x, (∃ c, T.rep (Zone.all W) c x ∧ ∀ j v, c[j]? = some v → (Zone.all W).cell? ((a.add (i * T.size)).add j) = some v) ∧ ok x := fun i hi => by
   obtain ⟨cs', h1, h2⟩ := hx i (by omega)
   obtain ⟨x, hr, ho⟩ := h H enc W n cs' _ h2
   refine ⟨x, ⟨cs', hr, fun j v hj => ?_⟩, ho⟩
   rw [he] at h1
   obtain ⟨_, hlen, hc⟩ := World.cells?_some h1
   have hlt : j < cs'.length := (List.getElem?_eq_some_iff.1 hj).1
   exact (hc j (by omega)).trans hj
  have key : ∀ k, k ≤ len → ∃ xs : List α, xs.length = k ∧ (∀ x ∈ xs, ok x) ∧ ∀ i x, xs[i]? = some x → ∃ c, T.rep (Zone.all W) c x ∧ ∀ j v, c[j]? = some v → (Zone.all W).cell? ((a.add (i * T.size)).add j) = some v := by
   intro k
   induction k with
   | zero => exact fun _ => ⟨[], rfl, (fun _ h => by cases h), (fun i x h => by simp at h)⟩
   | succ k ih =>
    intro hk
    obtain ⟨xs, h1, h2, h3⟩ := ih (by omega)
    obtain ⟨x, hx1, hx2⟩ := hall k (by omega)
    refine ⟨xs ++ [x], by simp [h1], fun y hy => ?_, fun i y hy => ?_⟩
    ·rcases List.mem_append.1 hy with e | e
     ·exact h2 y e
     ·simp only [List.mem_singleton] at e; exact e ▸ hx2
    ·rw [List.getElem?_append] at hy
     split at hy
     ·exact h3 i y hy
     ·rename_i hge
      have : i - xs.length = 0 := by
       have := (List.getElem?_eq_some_iff.1 hy).1
       simp at this; omega
      rw [this] at hy
      simp only [List.getElem?_cons_zero, zi] at hy
      subst hy
      have : i = k := by omega
      subst this
      exact hx1
  obtain ⟨xs, h1, h2, h3⟩ := key len (Nat.le_refl _)
  refine ⟨xs, ⟨some a, cap, by rw [h1], ⟨by omega, hm, (fun e => by cases e), fun b e i x hi => ?_⟩⟩, ⟨h2, by omega⟩⟩
  cases e
  exact h3 i x hi
section
variable {H : Type} {enc : TypeId × Value → H} {P : Program} {W : World} {base : Nat} {t : TypeId} {v : Value} {d : DataW H} {ps : List MemPlace}
theorem arg_agg {α : Type} {T : Ty α} {ok : α → Prop} (hs : (match P.underlying t with | some (.struct _) => true | some (.array _ _) => true | _ => false) = true) (hv : Value.okWide P W .any base t v) (h : DataW.Trod enc P W 0 (fun _ => true) true t v d ps) (ho : Opens P t T ok) :
  ∃ cs x, v = .agg cs.toArray ∧ T.rep (Zone.all W) cs x ∧ ok x := by
 obtain ⟨fuel, hf⟩ := h
 obtain ⟨x, hx, hok⟩ := ho H enc W fuel _ _ hf
 have : ∃ cs, v = .agg cs := by
  unfold Value.okWide at hv
  split at hs
  ·rename_i fs ht; rw [ht] at hv; obtain ⟨cs, e, _⟩ := hv; exact ⟨cs, e⟩
  ·rename_i m e ht; rw [ht] at hv; obtain ⟨cs, e, _⟩ := hv; exact ⟨cs, e⟩
  ·cases hs
 obtain ⟨cs, rfl⟩ := this
 exact ⟨cs.toList, x, rfl, hx, hok⟩
theorem trodAll_stays (hl : laidOutB P = true) {W' : World} (hb : Below W.heap.size W W') : ∀ {ts : List TypeId} {vs : List Value} {ds : List (DataW H)} {ps : List MemPlace}, (ts.all fun t => P.readableRec t && Nat.blt t P.types.size) = true →
  DataW.TrodAll enc P W 0 (fun _ => true) true ts vs ds ps → (∀ p ∈ ps, p.block < W.heap.size) → DataW.TrodAll enc P W' 0 (fun b => decide (b < W.heap.size)) true ts vs ds ps
 | [], [], [], _, _, h, _ => h
 | t :: ts, v :: vs, d :: ds, _, hr, ⟨p, q, h1, h2, e⟩, hlt => by
  simp only [List.all_cons, za, Nat.blt_eq] at hr
  subst e
  exact ⟨p, q, Below.trod hl hr.1.1 hr.1.2 h1 hb (fun x hx => hlt x (List.mem_append_left _ hx)), trodAll_stays hl hb hr.2 h2 (fun x hx => hlt x (List.mem_append_right _ hx)), rfl⟩
 | [], _ :: _, _, _, _, h, _ => h.elim
 | [], [], _ :: _, _, _, h, _ => h.elim
 | _ :: _, [], _, _, _, h, _ => h.elim
 | _ :: _, _ :: _, [], _, _, h, _ => h.elim
theorem post_true {f : Func} {s : ChangeSpec} {args : Array Value} {ds : List (DataW H)} {before : List MemPlace} {apart : Bool} {W' : World} {tb : TypeId} (hl : laidOutB P = true) (hvars : s.vars = []) (hr : (f.params.toList.all fun t => P.readableRec t && Nat.blt t P.types.size) = true)
  (hres : f.resultTypes = #[tb]) (hu : P.underlying tb = some .bool) (hW : DataW.Whole enc P f.params.toList s.vars apart W args.toList ds [] before) (hb : Below W.heap.size W W') (hs : s.fn H (ds ++ []) = { results := [.lit (.bool true)], args := ds }) :
  s.post enc P f apart true false false W args (.bool true) W' := by
 have hlt := hW.lt
 have hW0 := hW
 obtain ⟨p, q, hA, hV, rfl, _, _⟩ := hW
 rw [hvars] at hV
 obtain ⟨_, rfl⟩ := trodVars_none hV
 refine ⟨ds, [], p ++ [], [], p, [], hW0, ?_, ?_, ?_, hb.frame _, fun h => by cases h⟩
 ·rw [hs, hres]; exact trodAll_mk1 (shut_bool hu true)
 ·rw [hs]; exact trodAll_stays hl hb hr hA (fun x hx => hlt x (by simpa using hx))
 ·rw [hs, hvars]; rfl
end
end Go.Sx
namespace Go.Sx
structure A2 where
 a0 : Int
 a1 : Int
 deriving DecidableEq
structure A3 where
 a0 : Int
 a1 : Int
 a2 : Int
 deriving DecidableEq
end Go.Sx
namespace Go.Sx
open Go.Sl Go.RowKit Go.ChangeShapes Go.Proofs
variable {H : Type} {enc : TypeId × Value → H}
theorem returns_and_shaped {a : Assume} {C : Checked} {os : Os} {f : FuncId} {fn : Func} {s : ChangeSpec} {conds : List PathCond} {apart fresh handsOn again : Bool} {X : World → Array Value → Prop}
  (hX : ∀ (w w' : World) (args : Array Value), w.heap = w'.heap → X w args → X w' args)
  (own : ownKnob C.prog.godebug = none) (started : os.Started) (noInit : C.prog.inits.idxOf? f = none) (hfn : C.prog.funcs[f]? = some fn)
  (witness : ∃ (w : World) (tape : Tape) (i : Input), w.os = os ∧ (w.forCall tape i).Shaped C.prog ∧ i.vars = [] ∧ Input.okWide C.prog (w.forCall tape i) .any w.heap.size f i ∧
   ((s.pre enc C.prog fn conds apart (w.forCall tape i).memory i.args ∧ X (w.forCall tape i).memory i.args) ∧ sizedMet enc C.prog fn (OpenSpec.ofChange s) apart (w.forCall tape i).memory i.args) ∧ a.holds C.prog (lone (Frame.enter C.prog f i.args .normal) [] (w.forCall tape i)))
  (contract : ∀ (W : World) (base : Nat) (args : Array Value) (ds gs : List (DataW H)) (before : List MemPlace),
   (∀ (j : Nat) t v, fn.params[j]? = some t → args[j]? = some v → Value.okWide C.prog W .any base t v) →
   DataW.Whole enc C.prog fn.params.toList s.vars apart W args.toList ds gs before → X W args → W.ShapedOpen C.prog →
   Calls C.prog f args W fun e W' => ∃ v, e = .returned v ∧ s.post enc C.prog fn apart fresh handsOn again W args v W') :
  ReturnsInHanded a C os f .any (fun w args => (s.pre enc C.prog fn conds apart w args ∧ X w args) ∧ sizedMet enc C.prog fn (OpenSpec.ofChange s) apart w args) (s.post enc C.prog fn apart fresh handsOn again) := by
 refine returnsInHanded_of_calls own started noInit witness ?_
 intro w tape i _ hsh _ hok hpre hholds
 obtain ⟨_, _, _, fn', hfn', _, _, _, _, hval⟩ := hok
 have e : fn' = fn := Option.some.inj (hfn'.symm.trans hfn)
 subst e
 obtain ⟨⟨⟨ds, gs, before, hw, hc⟩, hx⟩, hz⟩ := hpre
 have hw' := DataW.Whole.of_heap (w' := w.forCall tape i) (by rfl) hw
 refine (contract (w.forCall tape i) w.heap.size i.args ds gs before hval hw' (hX _ _ _ (by rfl) hx) hsh).mono fun e W' ⟨v, he, hp⟩ => ?_
 subst he
 exact ChangeSpec.post_blind hp
theorem env_of {P : Program} {W : World} {g : Nat} (h1 : Lib.TabIs P W "internal/strconv.uint64pow10" .u64 Lib.pow10Tab) (h2 : ∃ m, W.cell? ⟨g, 0, none⟩ = some (.int .i64 m)) : Sx.Env P g (Zone.all W) := by
 refine ⟨fun L w hS => ?_, ?_⟩
 ·have hle := hS.whole
  unfold Lib.TabIs World.var? at h1 ⊢
  cases hg : P.globalNamed "internal/strconv.uint64pow10" with
  | none => rw [hg] at h1; cases h1
  | some b =>
   rw [hg] at h1
   simp only [zb] at h1 ⊢
   cases hb : W.heap[b]? with
   | none => rw [hb] at h1; cases h1
   | some o =>
    have hb' : w.heap[b]? = some o := hle.blk b o hb
    rw [hb'] ; rw [hb] at h1; exact h1
 ·obtain ⟨m, hm⟩ := h2
  exact ⟨m, hm⟩
theorem arg_str {P : Program} {W : World} {base : Nat} {t : TypeId} {v : Value} {d : DataW H} {ps : List MemPlace} (ht : P.underlying t = some .string) (hv : Value.okWide P W .any base t v) (h : DataW.Trod enc P W 0 (fun _ => true) true t v d ps) : ∃ s, v = .string s ∧ s.size ≤ maxLen := by
 obtain ⟨fuel, hf⟩ := h
 obtain ⟨s, rfl⟩ := Go.WideShapes.okWide_string ht hv
 obtain ⟨s', hs, _, hl⟩ := DataW.trod_string ht hf
 have : s' = s := by simpa [Value.cells] using hs.symm
 subst this
 exact ⟨s', rfl, hl⟩
end Go.Sx
namespace Go.K
open Go.Sl Go.Sx Go.RowKit Go.ChangeShapes Go.Proofs
def opF (P : Program) (rec : TypeId → TC → Bool) : List Field → Nat → TC → Bool
 | [f], off, u => Nat.beq f.offset off && (Nat.beq (P.cellsOf f.type) u.size && rec f.type u)
 | f :: g :: r, off, .pair a b => (Nat.beq f.offset off && (Nat.beq (P.cellsOf f.type) a.size && rec f.type a)) && opF P rec (g :: r) (off + a.size) b
 | _, _, _ => false
def opA (rec : TypeId → TC → Bool) (e : TypeId) (k : Nat) : Nat → TC → Bool
 | 1, u => Nat.beq k u.size && rec e u
 | n + 2, .pair a b => (Nat.beq k a.size && rec e a) && opA rec e k (n + 1) b
 | _, _ => false
def opB (P : Program) : Nat → TypeId → TC → Bool
 | 0, _, _ => false
 | n + 1, t, u => match P.underlying t with
  | some (.int .i64) => (match u with | .int .i64 => true | _ => false)
  | some .string => (match u with | .str => true | _ => false)
  | some (.slice e) => (match u with | .sl v => Nat.beq (P.cellsOf e) v.size && opB P n e v | _ => false)
  | some (.struct fs) => Nat.beq (P.cellsOf t) u.size && opF P (opB P n) fs.toList 0 u
  | some (.array m e) => Nat.beq (P.cellsOf t) u.size && opA (opB P n) e (P.cellsOf e) m u
  | _ => false
theorem opB_ok {P : Program} : ∀ (n : Nat) {t : TypeId} {u : TC}, opB P n t u = true → Opens P t u.ty (fun _ => True)
 | 0, _, _, h => by cases h
 | n + 1, t, u, h => by
  unfold opB at h
  split at h
  ·rename_i ht
   split at h
   ·intro H enc W fuel cs d hd
    obtain ⟨m, rfl, _, _⟩ := DataW.trod_int ht hd
    exact ⟨m, rfl, trivial⟩
   ·cases h
  ·rename_i ht
   split at h
   ·intro H enc W fuel cs d hd
    obtain ⟨s, rfl, _, _⟩ := DataW.trod_string ht hd
    exact ⟨s, rfl, trivial⟩
   ·cases h
  ·rename_i e ht
   split at h
   ·rename_i v
    simp only [za, Nat.beq_eq] at h
    intro H enc W fuel cs d hd
    obtain ⟨x, hx, _⟩ := opens_slice ht (h.1.trans v.size_eq.symm) (opB_ok n h.2) H enc W fuel cs d hd
    exact ⟨x, hx, trivial⟩
   ·cases h
  ·rename_i fs ht
   simp only [za, Nat.beq_eq] at h
   obtain ⟨h0, h1⟩ := h
   intro H enc W fuel cs d hd
   obtain ⟨hl, k, hx⟩ := trod_fields ht hd
   have key : ∀ (l : List Field) (off : Nat) (u : TC), (∀ f ∈ l, f ∈ fs.toList) → opF P (opB P n) l off u = true → cs.length = off + u.size → ∃ x, u.ty.rep (Zone.all W) (cs.drop off) x := by
    intro l
    induction l with
    | nil => intro off u _ hh _; simp [opF] at hh
    | cons f r ih =>
     intro off u hsub hh hlen
     cases r with
     | nil =>
      simp only [opF, za, Nat.beq_eq] at hh
      obtain ⟨e1, e2, e3⟩ := hh
      obtain ⟨y, hy⟩ := hx f (hsub f (List.mem_cons_self ..))
      rw [e1, e2, List.take_of_length_le (by rw [List.length_drop]; omega)] at hy
      obtain ⟨x, hx', _⟩ := opB_ok n e3 H enc W k _ y hy
      exact ⟨x, hx'⟩
     | cons g r =>
      cases u with
      | pair a b =>
       simp only [opF, za, Nat.beq_eq] at hh
       obtain ⟨⟨e1, e2, e3⟩, e4⟩ := hh
       simp only [TC.size] at hlen
       obtain ⟨y, hy⟩ := hx f (hsub f (List.mem_cons_self ..))
       rw [e1, e2] at hy
       obtain ⟨x1, r1, _⟩ := opB_ok n e3 H enc W k _ y hy
       obtain ⟨x2, r2⟩ := ih (off + a.size) b (fun q hq => hsub q (List.mem_cons_of_mem _ hq)) e4 (by omega)
       refine ⟨(x1, x2), (cs.drop off).take a.size, cs.drop (off + a.size), ?_, r1, r2⟩
       rw [← List.drop_drop, List.take_append_drop]
      | _ => simp [opF] at hh
   obtain ⟨x, hx'⟩ := key fs.toList 0 u (fun _ h => h) h1 (by omega)
   exact ⟨x, by simpa using hx', trivial⟩
  ·rename_i m e ht
   simp only [za, Nat.beq_eq] at h
   obtain ⟨h0, h1⟩ := h
   intro H enc W fuel cs d hd
   obtain ⟨hl, k, hx⟩ := trod_items ht hd
   have key : ∀ (q i : Nat) (u : TC), i + q = m → opA (opB P n) e (P.cellsOf e) q u = true → cs.length = i * P.cellsOf e + u.size → ∃ x, u.ty.rep (Zone.all W) (cs.drop (i * P.cellsOf e)) x := by
    intro q
    induction q with
    | zero => intro i u _ hh _; simp [opA] at hh
    | succ q ih =>
     intro i u hq hh hlen
     cases q with
     | zero =>
      simp only [opA, za, Nat.beq_eq] at hh
      obtain ⟨y, hy⟩ := hx i (by omega)
      rw [List.take_of_length_le (by rw [List.length_drop]; omega)] at hy
      obtain ⟨x, hx', _⟩ := opB_ok n hh.2 H enc W k _ y hy
      exact ⟨x, hx'⟩
     | succ q =>
      cases u with
      | pair a b =>
       simp only [opA, za, Nat.beq_eq] at hh
       obtain ⟨⟨e2, e3⟩, e4⟩ := hh
       simp only [TC.size] at hlen
       obtain ⟨y, hy⟩ := hx i (by omega)
       obtain ⟨x1, r1, _⟩ := opB_ok n e3 H enc W k _ y hy
       obtain ⟨x2, r2⟩ := ih (i + 1) b (by omega) e4 (by rw [Nat.add_mul]; omega)
       refine ⟨(x1, x2), (cs.drop (i * P.cellsOf e)).take (P.cellsOf e), cs.drop ((i + 1) * P.cellsOf e), ?_, r1, r2⟩
       rw [Nat.add_mul, Nat.one_mul, ← List.drop_drop, List.take_append_drop]
      | _ => simp [opA] at hh
   obtain ⟨x, hx'⟩ := key m 0 u (by omega) h1 (by omega)
   exact ⟨x, by simpa using hx', trivial⟩
  ·cases h
section
variable {H : Type} {enc : TypeId × Value → H} {P : Program} {W : World} {base : Nat} {t : TypeId} {v : Value} {d : DataW H} {ps : List MemPlace}
theorem oA {u : TC} (hs : (match P.underlying t with | some (.struct _) => true | some (.array _ _) => true | _ => false) = true) (hb : opB P 12 t u = true) (hv : Value.okWide P W .any base t v) (h : DataW.Trod enc P W 0 (fun _ => true) true t v d ps) : ∃ x : u.den, repA (Zone.all W) (true, u) v x := by
 obtain ⟨cs, x, rfl, hr, _⟩ := arg_agg hs hv h (opB_ok 12 hb)
 exact ⟨x, .inl ⟨rfl, cs, rfl, hr⟩⟩
theorem oS (ht : P.underlying t = some .string) (hv : Value.okWide P W .any base t v) (h : DataW.Trod enc P W 0 (fun _ => true) true t v d ps) : ∃ x : ByteArray, repA (Zone.all W) (false, .str) v x ∧ x.size ≤ maxLen := by
 obtain ⟨x, rfl, hl⟩ := arg_str ht hv h
 exact ⟨x, .inr ⟨rfl, rfl⟩, hl⟩
end
end Go.K
