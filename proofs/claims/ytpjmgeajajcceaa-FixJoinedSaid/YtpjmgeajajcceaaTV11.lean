/-
  FixJoined: the law's own answer is true at every input. No condition.
-/
import Derived.Test.YtpjmgeajajcceaaTY11
set_option linter.unusedSimpArgs false
set_option linter.unusedVariables false
namespace Go.Proofs.Ytpjmgeajajcceaa
open Go.Sl Go.Sx
theorem sc_bear {lo hi n d c : Int} (hd : 1 ≤ d) (h0 : (sc lo hi n d).2.2 = 0) (h1 : lo ≤ c) (h2 : c ≤ hi) : (sc lo hi n d).1 * d ≤ n * c ∧ n * c ≤ (sc lo hi n d).2.1 * d := by
  unfold sc at h0 ⊢
  by_cases h : V (fl (least lo hi n) n d) (ce (most lo hi n) n d)
  · rw [if_pos h]
    simp only
    unfold fl ce least most
    have a1 := Int.ediv_mul_le ((if n < 0 then hi else lo) * n) (b := d) (by omega)
    have a2 := Int.ediv_mul_le (-((if n < 0 then lo else hi) * n)) (b := d) (by omega)
    rw [Int.neg_mul]
    by_cases hn : n < 0
    · rw [if_pos hn] at a1 a2
      rw [if_pos hn, if_pos hn]
      have b1 := Int.mul_le_mul_of_nonneg_right h2 (show 0 ≤ -n by omega)
      have b2 := Int.mul_le_mul_of_nonneg_right h1 (show 0 ≤ -n by omega)
      rw [Int.mul_neg, Int.mul_neg] at b1 b2
      rw [Int.mul_comm n c]
      constructor <;> omega
    · rw [if_neg hn] at a1 a2
      rw [if_neg hn, if_neg hn]
      have b1 := Int.mul_le_mul_of_nonneg_right h2 (show 0 ≤ n by omega)
      have b2 := Int.mul_le_mul_of_nonneg_right h1 (show 0 ≤ n by omega)
      rw [Int.mul_comm n c]
      constructor <;> omega
  · rw [if_neg h] at h0; cases h0
theorem pt_mapP {g : Pt → Pt} {t : List Pt} {i : Nat} (h : i < t.length) : pt (t.map g) i = g (pt t i) := by simp [pt, h]
theorem scT_VT {t : List Pt} (v : VT t) {n d : Int} (hg : ∀ j, j < t.length → gdS n d (pt t j)) : VT (t.map (scP n d)) := by
  refine ⟨by simpa using v.l1, by simpa using v.l2, fun i hi => ?_, fun i hi => ?_⟩
  · have hi' : i < t.length := by simpa using hi
    rw [pt_mapP hi']
    obtain ⟨e, g1, g2⟩ := hg i hi'
    have o := v.ok i hi'
    rcases sc_err (pt t i).lo (pt t i).hi n d with ⟨_, h⟩ | h
    · exact ⟨o.x0, o.x1, g1, h, g2⟩
    · rw [h] at e; cases e
  · have hi' : i + 1 < t.length := by simpa using hi
    rw [pt_mapP (by omega), pt_mapP hi']
    exact v.up i hi'
theorem scT_dom {t : List Pt} (v : VT t) {n d : Int} : fstX (t.map (scP n d)) = fstX t ∧ lstX (t.map (scP n d)) = lstX t := by
  have := v.l1
  unfold fstX lstX
  rw [List.length_map, pt_mapP (by omega), pt_mapP (by omega)]
  exact ⟨rfl, rfl⟩
theorem bear3 {t : List Pt} {c : List Int} (v : VT t) (C : Curv t c) {n d : Int} (hd : 1 ≤ d) (hg : ∀ j, j < t.length → gdS n d (pt t j)) {x : Int} (h1 : fstX t ≤ x) (h2 : x ≤ lstX t) {a r : Int} (r0 : 0 ≤ r) (r1 : r < (valAt t c (ix t x) x).2.2 * d)
    (hv : a * ((valAt t c (ix t x) x).2.2 * d) + r = n * ((valAt t c (ix t x) x).1 * (valAt t c (ix t x) x).2.2 + (valAt t c (ix t x) x).2.1)) :
    lie (atV (t.map (scP n d)) x).1 (atV (t.map (scP n d)) x).2 a r := by
  have v' := scT_VT v hg
  refine (brk_lie (d := (valAt t c (ix t x) x).2.2 * d) (by omega) r0 r1).1 ?_
  unfold Brk
  rw [hv]
  have g := ix_seg v h1 h2
  generalize ix t x = j at g
  have gl := g.lt
  have hb : ∀ k, k < t.length → (pt (t.map (scP n d)) k).lo * d ≤ n * nu c k ∧ n * nu c k ≤ (pt (t.map (scP n d)) k).hi * d := fun k hk => by
    rw [pt_mapP hk]
    have b := C.bd k hk
    exact sc_bear hd (hg k hk).1 b.1 b.2
  by_cases hx : x = (pt t j).x
  · have e := atV_pt v' (k := j) (by simpa using g.lt)
    rw [pt_mapP gl] at e
    rw [show (scP n d (pt t j)).x = x from hx.symm] at e
    have b := hb j gl
    rw [pt_mapP gl] at b
    unfold valAt
    rw [if_pos hx, e]
    simp only [Int.one_mul, Int.mul_one, Int.add_zero]
    exact b
  · have hj := seg_next g hx
    have up := v.up j hj
    obtain ⟨ed, ew⟩ := val_G (c := c) v hj hx
    have nx := g.nx hj
    have le := g.le
    have e := atV_piece v' (i := j) (by simpa using hj) (x := x) (by rw [pt_mapP gl]; exact le) (by rw [pt_mapP hj]; exact Int.le_of_lt nx)
    have bj := hb j gl
    have bk := hb (j + 1) hj
    rw [pt_mapP gl] at bj
    rw [pt_mapP hj] at bk
    rw [ed, ew, e, pt_mapP gl, pt_mapP hj]
    have hW : 0 ≤ W t j := by unfold W; omega
    have hD : 0 ≤ W t j * d := Int.mul_nonneg hW (by omega)
    have q1 := Int.mul_le_mul_of_nonneg_right bj.1 hW
    have q2 := Int.mul_le_mul_of_nonneg_right bj.2 hW
    have q3 := Int.mul_le_mul_of_nonneg_right bk.1 hW
    have q4 := Int.mul_le_mul_of_nonneg_right bk.2 hW
    have aff := G_aff t c j (pt t j).x (pt t (j + 1)).x x
    have aff' : n * G t c j x * ((pt t (j + 1)).x - (pt t j).x) = n * nu c j * W t j * ((pt t (j + 1)).x - x) + n * nu c (j + 1) * W t j * (x - (pt t j).x) := by
      unfold G W
      grind
    have z : ∀ y : Int, y * (W t j * d) = y * d * W t j := fun y => by rw [Int.mul_comm (W t j), Int.mul_assoc]
    exact ⟨line_lo (Hu := n * nu c j * W t j) (Hw := n * nu c (j + 1) * W t j) up le (Int.le_of_lt nx) (by rw [z]; exact q1) (by rw [z]; exact q3) aff' hD,
      line_hi (Hu := n * nu c j * W t j) (Hw := n * nu c (j + 1) * W t j) up le (Int.le_of_lt nx) (by rw [z]; exact q2) (by rw [z]; exact q4) aff' hD⟩
theorem j11_ok {f : Nat} (hs : F13 f = some true) {r1 r2 : List Pt × Int} (h1 : r1.2 = 0 ∨ r1.2 = 2 ∨ r1.2 = 5) (h2 : r2.2 = 0 ∨ r2.2 = 2) : F11_j11 f r1 r2 = some true := by
  unfold F11_j11
  rw [hs]
  rcases h1 with h1 | h1 | h1 <;> rcases h2 with h2 | h2 <;> rw [h1, h2] <;> rfl
theorem j9_ok {f : Nat} (hf : 1000 ≤ f) (hs : F13 f = some true) {t u : List Pt} {c d : List Int} (v : VT t) (C : Curv t c) (vu : VT u) (D : Curv u d) {x : Int} (h1 : fstX t ≤ x) (h2 : x ≤ lstX t) (k1 : fstX u ≤ x) (k2 : x ≤ lstX u) {r1 : List Pt × Int} (hr : r1.2 = 0 ∨ r1.2 = 2 ∨ r1.2 = 5) :
    F11_j9 f t u x (valAt t c (ix t x) x).1 (valAt t c (ix t x) x).2.1 (valAt t c (ix t x) x).2.2 (valAt u d (ix u x) x).1 (valAt u d (ix u x) x).2.1 (valAt u d (ix u x) x).2.2 r1 = some true := by
  have hB : inB t u x := ⟨⟨h1, h2⟩, k1, k2⟩
  have hd := inB_iff.1 hB
  unfold F11_j9
  rcases F59_res hf v vu (by omega) with ⟨l, e, v', P⟩ | e
  · rw [e, Option.bind_some]
    have dm := dom_map (g := mk2 opH t u) (fun _ => rfl) P.rise P.lo P.hi hd.1 hd.2
    have L1 := bear v C (g := mk2 opH t u) (fun _ => rfl) P.rise v' dm.1 dm.2 (fun y hy => (P.inB y hy).1) (fun a ha b hb hn => (P.all a ha b hb hn).1)
      (fun y _ => by simp only [mk2, opH]; split <;> omega) (fun y _ => by simp only [mk2, opH]; split <;> omega)
    have L2 := bear vu D (g := mk2 opH t u) (fun _ => rfl) P.rise v' dm.1 dm.2 (fun y hy => (P.inB y hy).2) (fun a ha b hb hn => (P.all a ha b hb hn).2)
      (fun y _ => by simp only [mk2, opH]; split <;> omega) (fun y _ => by simp only [mk2, opH]; split <;> omega)
    obtain ⟨V1, _⟩ := val_ok v C h1 h2
    obtain ⟨V2, _⟩ := val_ok vu D k1 k2
    obtain ⟨b1, e1, q1⟩ := F32_eq f (lo := (atV (l.map (mk2 opH t u)) x).1) (hi := (atV (l.map (mk2 opH t u)) x).2) (w := (valAt t c (ix t x) x).1) (n := (valAt t c (ix t x) x).2.1) (d := (valAt t c (ix t x) x).2.2) V1.n0
    obtain ⟨b2, e2, q2⟩ := F32_eq f (lo := (atV (l.map (mk2 opH t u)) x).1) (hi := (atV (l.map (mk2 opH t u)) x).2) (w := (valAt u d (ix u x) x).1) (n := (valAt u d (ix u x) x).2.1) (d := (valAt u d (ix u x) x).2.2) V2.n0
    show (F27 f (l.map (mk2 opH t u)) x).bind _ = _
    rw [F27_made (by omega) v' dm.1 dm.2, Option.bind_some]
    show (F32 f (atV (l.map (mk2 opH t u)) x).1 (atV (l.map (mk2 opH t u)) x).2 _ _ _).bind _ = _
    rw [e1, Option.bind_some, q1.2 L1]
    show (F32 f (atV (l.map (mk2 opH t u)) x).1 (atV (l.map (mk2 opH t u)) x).2 _ _ _).bind _ = _
    rw [e2, Option.bind_some, q2.2 L2]
    exact j11_ok hs hr (.inl rfl)
  · rw [e]
    exact j11_ok hs hr (.inr rfl)
theorem j8_ok {f : Nat} (hf : 1000 ≤ f) (hs : F13 f = some true) {t u : List Pt} {c d : List Int} (v : VT t) (C : Curv t c) (vu : VT u) (D : Curv u d) {x : Int} (h1 : fstX t ≤ x) (h2 : x ≤ lstX t) (k1 : fstX u ≤ x) (k2 : x ≤ lstX u) :
    F11_j8 f t u x (valAt t c (ix t x) x).1 (valAt t c (ix t x) x).2.1 (valAt t c (ix t x) x).2.2 (valAt u d (ix u x) x).1 (valAt u d (ix u x) x).2.1 (valAt u d (ix u x) x).2.2 = some true := by
  have hB : inB t u x := ⟨⟨h1, h2⟩, k1, k2⟩
  have hd := inB_iff.1 hB
  unfold F11_j8
  rcases F57_res hf v vu (by omega) with ⟨l, e, v', P⟩ | e | e
  · rw [e, Option.bind_some]
    have dm := dom_map (g := mk2 opS t u) (fun _ => rfl) P.rise P.lo P.hi hd.1 hd.2
    obtain ⟨V1, _⟩ := val_ok v C h1 h2
    obtain ⟨V2, _⟩ := val_ok vu D k1 k2
    obtain ⟨a, b, e75, b0, b1, hv⟩ := F75_eq f V1 V2
    have L := bear2 v C vu D (g := mk2 opS t u) (fun _ => rfl) P.rise v' dm.1 dm.2 (fun y hy => P.inB y hy) (fun a ha b hb hn => P.all a ha b hb hn) (fun _ _ => rfl) (fun _ _ => rfl) b0 b1 hv
    obtain ⟨q, e1, hq⟩ := F32_eq f (lo := (atV (l.map (mk2 opS t u)) x).1) (hi := (atV (l.map (mk2 opS t u)) x).2) (w := a) (n := b) (d := (valAt t c (ix t x) x).2.2 * (valAt u d (ix u x) x).2.2) b0
    show (F27 f (l.map (mk2 opS t u)) x).bind _ = _
    rw [F27_made (by omega) v' dm.1 dm.2, Option.bind_some, e75]
    show (F32 f (atV (l.map (mk2 opS t u)) x).1 (atV (l.map (mk2 opS t u)) x).2 _ _ _).bind _ = _
    rw [e1, Option.bind_some, hq.2 L]
    exact j9_ok hf hs v C vu D h1 h2 k1 k2 (.inl rfl)
  · rw [e]
    exact j9_ok hf hs v C vu D h1 h2 k1 k2 (.inr (.inl rfl))
  · rw [e]
    exact j9_ok hf hs v C vu D h1 h2 k1 k2 (.inr (.inr rfl))
theorem j6_ok {f : Nat} (hf : 1000 ≤ f) (hs : F13 f = some true) {t u : List Pt} {c : List Int} (d : List Int) (v : VT t) (C : Curv t c) (vu : VT u) {x : Int} (h1 : fstX t ≤ x) (h2 : x ≤ lstX t) :
    F11_j6 f t u d x (valAt t c (ix t x) x).1 (valAt t c (ix t x) x).2.1 (valAt t c (ix t x) x).2.2 false = some true := by
  unfold F11_j6
  rw [cond_false, F73_eq f vu, Option.bind_some]
  have out : F11_j7 f t u d x (valAt t c (ix t x) x).1 (valAt t c (ix t x) x).2.1 (valAt t c (ix t x) x).2.2 true = some true := by unfold F11_j7; rw [hs]; rfl
  by_cases k1 : x < fstX u
  · rw [decide_eq_true k1, cond_true]; exact out
  · rw [decide_eq_false k1, cond_false, F74_eq f vu, Option.bind_some]
    by_cases k2 : x > lstX u
    · rw [decide_eq_true k2]; exact out
    · rw [decide_eq_false k2]
      unfold F11_j7
      obtain ⟨cu, e0, D⟩ := F17_eq (by omega : 50 ≤ f) vu d
      rw [cond_false, F16_eq (by omega) vu.l2, Option.bind_some, e0, Option.bind_some, F30_eq (by omega) vu D.len (D.ok vu) (ix_seg vu (by omega) (by omega)), Option.bind_some]
      exact j8_ok hf hs v C vu D h1 h2 (by omega) (by omega)
theorem absI {r : Int} (h1 : -1000000 ≤ r) (h2 : r ≤ 1000000) : (if w64 (0 - r) > r then w64 (0 - r) else r) = (r.natAbs : Int) := by
  rw [w64_id (by omega) (by omega)]
  split <;> omega
theorem j3_ok {f : Nat} (hf : 1000 ≤ f) (hs : F13 f = some true) {t u : List Pt} {c : List Int} (d : List Int) (v : VT t) (C : Curv t c) (vu : VT u) {x : Int} (y z : Int) (h1 : fstX t ≤ x) (h2 : x ≤ lstX t) :
    F11_j3 f t u d y z x (valAt t c (ix t x) x).1 (valAt t c (ix t x) x).2.1 (valAt t c (ix t x) x).2.2 false = some true := by
  obtain ⟨a, ea, a0, a1⟩ := F36_eq f y
  obtain ⟨b, eb, b0, b1⟩ := F36_eq f z
  unfold F11_j3
  rw [cond_false, ea, eb, Option.bind_some, Option.bind_some, Option.bind_some, absI b0 b1]
  have m1 := Int.lt_tmod_of_pos a (b := 1001) (by omega)
  have m2 := Int.tmod_lt_of_pos a (b := 1001) (by omega)
  have m3 := Int.tmod_nonneg 1000 (a := (b.natAbs : Int)) (by omega)
  have m4 := Int.tmod_lt_of_pos (b.natAbs : Int) (b := 1000) (by omega)
  rw [w64_id (n := 1 + Int.tmod (b.natAbs : Int) 1000) (by omega) (by omega)]
  generalize Int.tmod a 1001 = N at *
  generalize hD : 1 + Int.tmod (b.natAbs : Int) 1000 = D at *
  have ha : okA N D := ⟨by omega, by omega, by omega, by omega⟩
  have rest := fun r : List Pt × Int => (rfl : F11_j4 f t u d x (valAt t c (ix t x) x).1 (valAt t c (ix t x) x).2.1 (valAt t c (ix t x) x).2.2 r = F11_j4 f t u d x (valAt t c (ix t x) x).1 (valAt t c (ix t x) x).2.1 (valAt t c (ix t x) x).2.2 r)
  rcases F61_res (by omega : 50 ≤ f) v ha with ⟨hg, e⟩ | e
  · rw [e, Option.bind_some]
    have v' := scT_VT v hg
    have dm := scT_dom v (n := N) (d := D)
    obtain ⟨V1, _⟩ := val_ok v C h1 h2
    obtain ⟨q, w, r, e72, hq, r0, r1, hv⟩ := F72_eq f (lo := (atV (t.map (scP N D)) x).1) (hi := (atV (t.map (scP N D)) x).2) V1 (N := N) (D := D) (by omega) (by omega) (by omega) (by omega)
    have L := bear3 v C (by omega) hg h1 h2 r0 r1 hv
    show (F27 f (t.map (scP N D)) x).bind _ = _
    rw [F27_made (by omega) v' (by omega) (by omega), Option.bind_some]
    show (F72 f (atV (t.map (scP N D)) x).1 (atV (t.map (scP N D)) x).2 _ _ _ _ _).bind _ = _
    rw [e72, Option.bind_some, hq.2 L]
    exact j6_ok hf hs d v C vu h1 h2
  · rw [e]
    exact j6_ok hf hs d v C vu h1 h2
theorem F11_true' (t : List Pt) (c : List Int) (u : List Pt) (d : List Int) (p a b y z : Int) : ∃ fuel, F11 fuel t c u d p a b y z = some true := by
  refine ⟨3000000, ?_⟩
  have hf : 1000 ≤ 3000000 := by decide
  have hs : F13 3000000 = some true := sane_huge
  generalize hF : (3000000 : Nat) = f at *
  have out : F11_j1 f t c u d p a b y z true = some true := by unfold F11_j1; rw [hs]; rfl
  unfold F11
  rcases F12_cases (by omega : 50 ≤ f) t with ⟨v, h12⟩ | ⟨v, h12⟩
  · rw [h12, Option.bind_some, Bool.not_true, cond_false]
    rcases F12_cases (by omega : 50 ≤ f) u with ⟨vu, k12⟩ | ⟨vu, k12⟩
    · rw [k12, Option.bind_some, Bool.not_true]
      unfold F11_j1
      obtain ⟨cu, e0, C⟩ := F17_eq (by omega : 50 ≤ f) v c
      obtain ⟨x, e1, x1, x2⟩ := F14_eq f v p
      obtain ⟨q, e2, q1, q2⟩ := F14_eq f v a
      obtain ⟨r, e3, r1, r2⟩ := F14_eq f v b
      rw [cond_false, e1, Option.bind_some, F16_eq (by omega) v.l2, Option.bind_some, e0, Option.bind_some, F30_eq (by omega) v C.len (C.ok v) (ix_seg v x1 x2), Option.bind_some]
      unfold F11_j2
      rw [e2, Option.bind_some, e3, Option.bind_some]
      have l1 : (if q < x then q else x) ≤ x ∧ fstX t ≤ (if q < x then q else x) := by split <;> omega
      have l2 : x ≤ (if r > x then r else x) ∧ (if r > x then r else x) ≤ lstX t := by split <;> omega
      generalize (if q < x then q else x) = A at *
      generalize (if r > x then r else x) = B at *
      obtain ⟨l, e, hr, v', ma, mb, hx, hall⟩ := F65_res (by omega : 50 ≤ f) v (a := A) (b := B) (by omega) l1.2 l2.2
      rw [e, Option.bind_some]
      have dm := dom_map (g := mkP t) (fun _ => rfl) hr ma mb l1.1 l2.1
      obtain ⟨V1, _⟩ := val_ok v C x1 x2
      have L := bear v C (g := mkP t) (fun _ => rfl) hr v' dm.1 dm.2 (fun w hw => by have := hx w hw; omega) (fun u hu w hw hn j hj => by
        have du := hx u hu
        have dw := hx w hw
        by_cases g1 : (pt t j).x < A
        · omega
        · by_cases g2 : (pt t j).x > B
          · omega
          · exact hn _ (hall j hj (by omega) (by omega))) (fun _ _ => Int.le_refl _) (fun _ _ => Int.le_refl _)
      obtain ⟨s, e32, hq⟩ := F32_eq f (lo := (atV (l.map (mkP t)) x).1) (hi := (atV (l.map (mkP t)) x).2) (w := (valAt t cu (ix t x) x).1) (n := (valAt t cu (ix t x) x).2.1) (d := (valAt t cu (ix t x) x).2.2) V1.n0
      show (F27 f (l.map (mkP t)) x).bind _ = _
      rw [F27_made (by omega) v' dm.1 dm.2, Option.bind_some]
      show (F32 f (atV (l.map (mkP t)) x).1 (atV (l.map (mkP t)) x).2 _ _ _).bind _ = _
      rw [e32, Option.bind_some, hq.2 L]
      exact j3_ok hf hs d v C vu y z x1 x2
    · rw [k12, Option.bind_some, Bool.not_false]; exact out
  · rw [h12, Option.bind_some, Bool.not_false, cond_true]; exact out
end Go.Proofs.Ytpjmgeajajcceaa
