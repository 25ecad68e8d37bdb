/-
  append, make, and stores into the elements of owned slices. Program-independent. No condition.
-/
import Derived.Laws.OwnMore
import Derived.Laws.MakeOwn
import Derived.Test.YtlmgjjmighajdaaSz
namespace Go.Sx
open Go.Sl

variable {α : Type} {T : Ty α} {P : Program} {a : Act} {N : Nat} {fl : FL} {ds : List Nat} {w : World} {R : Array Oper} {m : List Nat} {S : World → Prop} {K : Act → World → Prop} {pl : List (Nat × Bool)} {h : Zone} {L : List Atom}
variable {E : TypeId} {o : Option Addr} {cap : Nat} {xs : List α}

/-- A slice type's element, as the program's table has it. -/
structure ElemOK (P : Program) (t E : TypeId) (size : Nat) (z : Value) : Prop where
  und : P.underlying t = some (.slice E)
  info : ∃ i, P.info? E = some i ∧ i.size = size ∧ i.bytes ≤ 128 ∧ i.zero = some z
  zs : z.cells.size = size
  pos : 0 < size

/-- What a slice's value reads as in this world. -/
def SrcR {α : Type} (T : Ty α) (h : Zone) (w : World) (o : Option Addr) (ys : List α) : Prop :=
  (o = none ∧ ys = []) ∨ ∃ a cs, o = some a ∧ Rows T h cs ys ∧ ∀ j v, cs[j]? = some v → w.cell? (a.add j) = some v

theorem SliceR.rows {a : Addr} {ys : List α} (s : SliceR T h (some a) cap ys) : ∀ n, n ≤ ys.length → ∃ cs, Rows T h cs (ys.take n) ∧ ∀ j v, cs[j]? = some v → h.cell? (a.add j) = some v
  | 0, _ => ⟨[], by simp [Rows], fun j v e => by simp at e⟩
  | n + 1, hn => by
    obtain ⟨cs, hr, hc⟩ := SliceR.rows s n (by omega)
    have hlt : n < ys.length := by omega
    obtain ⟨c, hrep, hj⟩ := s.hat a rfl n ys[n] (by simp [hlt])
    refine ⟨cs ++ c, ?_, fun j v e => ?_⟩
    · rw [List.take_succ_eq_append_getElem hlt]
      exact hr.append (Rows.single hrep)
    · have hl : cs.length = n * T.size := by rw [hr.len, List.length_take, Nat.min_eq_left (by omega)]
      by_cases hjl : j < cs.length
      · rw [List.getElem?_append_left hjl] at e
        exact hc j v e
      · rw [List.getElem?_append_right (by omega), hl] at e
        have := hj _ v e
        rw [add_add] at this
        rwa [show n * T.size + (j - n * T.size) = j by omega] at this

theorem SliceR.src (s : SliceR T h o cap xs) (hS : St h L w) : SrcR T h w o xs := by
  cases o with
  | none => exact .inl ⟨rfl, (s.hnil rfl).1⟩
  | some a =>
    obtain ⟨cs, hr, hc⟩ := s.rows xs.length (Nat.le_refl _)
    rw [List.take_length] at hr
    exact .inr ⟨a, cs, rfl, hr, fun j v e => hS.cell (hc j v e)⟩

theorem _root_.Go.Sl.St.ownSrc (s : St h L w) {j : Nat} (hj : L[j]? = some (ownS T E o cap xs)) : SrcR T h w o xs := by
  obtain ⟨z, hz, hzw, _, _⟩ := s.focus hj
  obtain ⟨hnil, hcap, hmax, hat⟩ := OwnP.read hz hzw
  cases o with
  | none => exact .inl ⟨rfl, (hnil rfl).1⟩
  | some a =>
    obtain ⟨cs, hr, hc⟩ := hat a rfl
    exact .inr ⟨a, cs, rfl, hr, hc⟩

theorem _root_.Go.Sl.St.boxSrc (s : St h L w) {j b : Nat} {cs : List Value} (hj : L[j]? = some (box b cs E)) (hr : Rows T h cs xs) : SrcR T h w (some ⟨b, 0, none⟩) xs := by
  refine .inr ⟨_, cs, rfl, hr, fun k v e => ?_⟩
  have hadd : (⟨b, 0, none⟩ : Addr).add k = ⟨b, k, none⟩ := by unfold Addr.add; split <;> simp_all
  rw [hadd]
  exact s.box hj e

/-- Go's append, as far as memory bears it. -/
def appC {α : Type} (xs ys : List α) : Option (List α) := if xs.length + ys.length ≤ 1099511627776 then some (xs ++ ys) else none
theorem appC_spec {xs ys zs : List α} (e : appC xs ys = some zs) : xs.length + ys.length ≤ 1099511627776 ∧ zs = xs ++ ys := by
  unfold appC at e
  split at e
  · rename_i hc; simp only [Option.some.injEq] at e; exact ⟨hc, e.symm⟩
  · cases e

/-- What an append appends to what. -/
def appAt (R : Array Oper) (N : Nat) (pl : List (Nat × Bool)) (fl : FL) : Option (Nat × Option Nat × TypeId × Value × Value) :=
  match opAt R N pl fl with
  | some (i, o) => match o.op with
    | .call { callee := .builtin .append, args := ⟨[s, x]⟩, argTypes := ⟨[t, t']⟩ } => bif Nat.beq t t' then some (i, o.dst, t, ev fl s, ev fl x) else none
    | _ => none
  | none => none

theorem run_append_src {t ty : TypeId} {z : Value} (hE : ElemOK P t E T.size z) {o2 : Option Addr} {c2 : Nat} {ys : List α} (hS : St h L w) {j : Nat} (hj : L[j]? = some (ownS T E o cap xs))
    (hsrc : SrcR T h w o2 ys) (hlen : xs.length + ys.length ≤ 1099511627776) :
    ∃ o' cap' w', (Builtin.append_ #[t, t] ty #[.slice o xs.length cap, .slice o2 ys.length c2]).run P w = .ok (.slice o' (xs ++ ys).length cap') w' ∧ St h (L.set j (ownS T E o' cap' (xs ++ ys))) w' := by
  obtain ⟨x, hx, hxw, dx, hset⟩ := hS.focus hj
  obtain ⟨i, hi, hsize, hby, hz⟩ := hE.info
  have hx' : OwnP T E o cap xs h x := hx
  -- the kit's word for what is owned
  have hown : ∃ cs, Rows T h cs xs ∧ w.ownsRow 0 E T.size (.slice o xs.length cap) xs.length cs := by
    rcases hx' with ⟨rfl, rfl, rfl, _⟩ | ⟨g, cur, rfl, rfl, h1, h2, h3, h4⟩
    · exact ⟨[], rfl, World.ownsRow_nil w 0 E T.size⟩
    · exact ⟨_, h4, h4.len, .inr ⟨g, cap, cur, rfl, Nat.zero_le _, Hp.one_le.1 hxw, h1, h2, h3, rfl⟩⟩
  obtain ⟨cs, hrows, hown⟩ := hown
  have hbytes : (xs.length + ys.length) * i.bytes ≤ 140737488355328 := by
    have := Nat.mul_le_mul hlen hby
    simpa using this
  have hmaxlen : xs.length + ys.length ≤ maxLen := by simp only [maxLen]; omega
  rcases hsrc with ⟨rfl, rfl⟩ | ⟨ad, news, rfl, hnews, hcell⟩
  · -- nothing is appended
    have hrun : (Builtin.append_ #[t, t] ty #[.slice o xs.length cap, .slice none ([] : List α).length c2]).run P w = .ok (.slice o xs.length cap) w := by
      have hcap : xs.length ≤ cap := by
        rcases hx' with ⟨rfl, rfl, rfl, _⟩ | ⟨g, cur, rfl, rfl, h1, _⟩
        · simp
        · exact h1
      simp only [Builtin.append_, List.length_nil]
      cases o <;> simp [run_underlying hE.und, sizeOf, typeInfo, hi, Builtin.lenOf, Builtin.firstCells, hcap, storeCells]
    refine ⟨o, cap, w, by simpa using hrun, ?_⟩
    rw [List.append_nil]
    have := hset w (ownS T E o cap xs) x hx hxw (fun _ _ _ => rfl) (fun b o e => .inr (by rw [e]; rfl)) rfl rfl rfl
    exact this
  · obtain ⟨v', w', hrun, hown', hgr, _, hat⟩ := run_append_own_at (P := P) w 0 t ty E i z T.size i.bytes hE.und hi hz hsize rfl hE.zs hE.pos (.slice o xs.length cap) xs.length cs hown ad ys.length c2 news hnews.len hcell hnews.one hmaxlen hbytes (Nat.zero_le _)
    have hall : Rows T h (cs ++ news) (xs ++ ys) := hrows.append hnews
    have hl : (xs ++ ys).length = xs.length + ys.length := List.length_append
    obtain ⟨hlen', hv⟩ := hown'
    rcases hv with ⟨hv, h0⟩ | ⟨g, cap', cur, hv, _, hg, hnc, hcm, hcs, htake⟩
    · -- nil stays nil
      have hys : xs ++ ys = [] := List.eq_nil_of_length_eq_zero (by omega)
      refine ⟨none, 0, w', ?_, ?_⟩
      · rw [hrun, hv, hys]; rfl
      · rw [hys]
        refine hset w' (ownS T E none 0 []) Hp.nil (.inl ⟨rfl, rfl, rfl, rfl⟩) (Hp.nil_le _) (fun b hb hn => hgr.block b hb fun e => ?_) (fun b o e => by simp [Hp.nil] at e) hgr.os hgr.tape hgr.output
        rcases hx' with ⟨rfl, rfl, rfl, _⟩ | ⟨g, cur, rfl, rfl, _⟩
        · simp [Value.ownBlock] at e
        · simp only [Value.ownBlock, Option.some.injEq] at e
          subst e
          simp [Hp.one] at hn
    · refine ⟨some ⟨g, 0, none⟩, cap', w', by rw [hrun, hv, hl], ?_⟩
      refine hset w' (ownS T E (some ⟨g, 0, none⟩) cap' (xs ++ ys)) (Hp.one g (.cells cur E (0, 0))) (.inr ⟨g, cur, rfl, rfl, by rw [hl]; exact hnc, hcm, hcs, ?_⟩) (Hp.one_le.2 hg) (fun b hb hn => hgr.block b hb fun e => ?_) (fun b o' e => ?_) hgr.os hgr.tape hgr.output
      · rw [hl, htake]; exact hall
      · rcases hx' with ⟨rfl, rfl, rfl, _⟩ | ⟨g0, cur0, rfl, rfl, _⟩
        · simp [Value.ownBlock] at e
        · simp only [Value.ownBlock, Option.some.injEq] at e
          subst e
          simp [Hp.one] at hn
      · unfold Hp.one at e
        split at e
        · rename_i hbg
          subst hbg
          rw [hv] at hat
          rcases hat with e1 | e1
          · right
            rcases hx' with ⟨rfl, rfl, rfl, _⟩ | ⟨g0, cur0, rfl, rfl, _⟩
            · simp [Value.ownBlock] at e1
            · simp only [Value.ownBlock, Option.some.injEq] at e1
              subst e1
              simp [Hp.one]
          · left
            simp only [Value.ownBlock, Option.some.injEq] at e1
            omega
        · cases e

theorem p_append {i j : Nat} {d : Option Nat} {t : TypeId} {z : Value} {o2 : Option Addr} {c2 : Nat} {ys zs : List α} (hE : ElemOK P t E T.size z) (hS : St h L w) (hf : Fr a N fl ds) (hj : L[j]? = some (ownS T E o cap xs))
    (ho : appAt R N pl fl = some (i, d, t, .slice o xs.length cap, .slice o2 ys.length c2)) (hsrc : SrcR T h w o2 ys) (hz : appC xs ys = some zs)
    (k : ∀ o' cap' w' a', St h (L.set j (ownS T E o' cap' zs)) w' → Fr a' N (putF fl d (.slice o' zs.length cap')) ds → (m.contains i = false → S w') ∧ wpPlan P R m S K pl.tail a' w') : wpPlan P R m S K pl a w := by
  obtain ⟨hlen, rfl⟩ := appC_spec hz
  unfold appAt at ho
  cases h1 : opAt R N pl fl with
  | none => rw [h1] at ho; simp at ho
  | some q =>
    obtain ⟨i', op⟩ := q
    rw [h1] at ho
    simp only at ho
    split at ho
    · rename_i s x t1 t2 hop
      cases hb : Nat.beq t1 t2 with
      | false => rw [hb] at ho; simp at ho
      | true =>
        rw [hb] at ho
        have := Nat.eq_of_beq_eq_true hb
        subst this
        simp only [cond_true, Option.some.injEq, Prod.mk.injEq] at ho
        obtain ⟨rfl, rfl, rfl, hs, hx⟩ := ho
        obtain ⟨o', cap', w', hrun, hS'⟩ := run_append_src (ty := op.type) (c2 := c2) hE hS hj hsrc hlen
        refine p_val (w' := w') (v := .slice o' (xs ++ ys).length cap') hf h1 ?_ fun a' hf' => k o' cap' w' a' hS' hf'
        simp only [execOp, hop, resolve, invoke, builtin, Sem.run_bind, Sem.run_pure, Result.andThen_ok, List.map_toArray, List.map_cons, List.map_nil, hs, hx, hrun]
    · cases ho

/-! ### make -/
def mkAt (R : Array Oper) (N : Nat) (pl : List (Nat × Bool)) (fl : FL) : Option (Nat × Option Nat × TypeId × Value × Value) :=
  match opAt R N pl fl with
  | some (i, o) => match o.op with
    | .makeSlice t l c => some (i, o.dst, t, ev fl l, ev fl c)
    | _ => none
  | none => none

/-- Go's make of n zero elements. -/
def mkC {α : Type} (n : Int) (x : α) : Option (List α) := if 0 ≤ n ∧ n ≤ 1099511627776 then some (List.replicate n.toNat x) else none

theorem rows_made {x0 : α} {zc : List Value} (h0 : T.rep h zc x0) (hpos : 0 < T.size) : ∀ n, Rows T h ((List.range (n * T.size)).map fun i => zc.getD (i % T.size) undef) (List.replicate n x0)
  | 0 => by simp [Rows]
  | n + 1 => by
    have hl := T.len h0
    have e : (List.range ((n + 1) * T.size)).map (fun i => zc.getD (i % T.size) undef) = zc ++ (List.range (n * T.size)).map fun i => zc.getD (i % T.size) undef := by
      rw [Nat.add_mul, Nat.one_mul, Nat.add_comm, List.range_add, List.map_append, List.map_map]
      congr 1
      · apply List.ext_getElem
        · simp [hl]
        · intro i h1 h2
          simp only [List.length_map, List.length_range] at h1
          simp [Nat.mod_eq_of_lt h1, h2]
      · apply List.map_congr_left
        intro i _
        simp
    rw [e, List.replicate_succ]
    exact Rows.cons h0 (rows_made h0 hpos n)

theorem p_make {i : Nat} {d : Option Nat} {t : TypeId} {z : Value} {n : Int} {x0 : α} {xs : List α} (hE : ElemOK P t E T.size z) (hS : St h L w) (hf : Fr a N fl ds)
    (ho : mkAt R N pl fl = some (i, d, t, .int .i64 n, .int .i64 n)) (h0 : T.rep h z.cells.toList x0) (hn : mkC n x0 = some xs)
    (k : ∀ o' w' a', St h (ownS T E (some o') xs.length xs :: L) w' → Fr a' N (putF fl d (.slice (some o') xs.length xs.length)) ds → (m.contains i = false → S w') ∧ wpPlan P R m S K pl.tail a' w') : wpPlan P R m S K pl a w := by
  unfold mkC at hn
  split at hn
  case isFalse => cases hn
  rename_i hn0
  simp only [Option.some.injEq] at hn
  subst hn
  unfold mkAt at ho
  cases h1 : opAt R N pl fl with
  | none => rw [h1] at ho; simp at ho
  | some q =>
    obtain ⟨i', op⟩ := q
    rw [h1] at ho
    simp only at ho
    split at ho
    · rename_i t' l c hop
      simp only [Option.some.injEq, Prod.mk.injEq] at ho
      obtain ⟨rfl, rfl, rfl, hl, hc⟩ := ho
      obtain ⟨inf, hi, hsize, hby, hz⟩ := hE.info
      have hbytes : (inf.bytes : Int) * n ≤ 281474976710656 := by
        have h1 : (inf.bytes : Int) ≤ 128 := by omega
        have h2 : (inf.bytes : Int) * n ≤ 128 * n := Int.mul_le_mul_of_nonneg_right h1 hn0.1
        omega
      have hrun := run_make (P := P) w t' E inf z hE.und hi hz .i64 .i64 n n hn0.1 (Int.le_refl _) hbytes (by omega)
      have hcells : (madeCells z.cells (n.toNat * inf.size)) = ((List.range (n.toNat * T.size)).map fun i => z.cells.toList.getD (i % T.size) undef).toArray := by
        unfold madeCells
        rw [hsize]
        apply Array.ext
        · simp
        · intro i h1 h2
          have hzs := hE.zs
          have hpos := hE.pos
          have hlt : i % T.size < z.cells.size := by rw [hzs]; exact Nat.mod_lt _ hpos
          simp [hzs]
          rw [getElem!_pos z.cells _ hlt, Array.getElem?_eq_getElem hlt]
          rfl
      rw [hcells] at hrun
      have hrows := rows_made (h := h) h0 hE.pos n.toNat
      have hlen : (List.replicate n.toNat x0).length = n.toNat := List.length_replicate
      rw [hlen] at k
      have hS' := hS.new (pts w.heap.size (.cells ((List.range (n.toNat * T.size)).map fun i => z.cells.toList.getD (i % T.size) undef).toArray E (0, 0))) _ rfl
      have hown := hS'.ownBox (i := 0) (T := T) (E := E) (n := n.toNat) (cs := (List.range (n.toNat * T.size)).map fun i => z.cells.toList.getD (i % T.size) undef) rfl hrows (by simp) (by simp only [maxLen]; omega)
      refine p_val (w' := w.alloc (.cells ((List.range (n.toNat * T.size)).map fun i => z.cells.toList.getD (i % T.size) undef).toArray E)) (v := .slice (some ⟨w.heap.size, 0, none⟩) n.toNat n.toNat) hf h1 ?_ fun a' hf' => k _ _ a' hown hf'
      simp [execOp, hop, hl, hc, hrun]
    · cases ho

/-! ### A store into an element of an owned slice -/
theorem p_storeOwn {i j : Nat} {ad : Addr} {ix off : Nat} {vs : List Value} {x' : α} (hS : St h L w) (hf : Fr a N fl ds) (hj : L[j]? = some (ownS T E (some ad) cap xs))
    (hix : ix < xs.length) (ho : storeAt P R N pl fl = some (i, (ad.add (ix * T.size)).add off, vs))
    (hfit : (Nat.ble (off + vs.length) T.size && oneCells vs) = true) (hx : ∀ c, T.rep h c xs[ix] → T.rep h (splice c off vs) x')
    (k : ∀ w' a', St h (L.set j (ownS T E (some ad) cap (xs.set ix x'))) w' → Fr a' N fl ds → (m.contains i = false → S w') ∧ wpPlan P R m S K pl.tail a' w') : wpPlan P R m S K pl a w := by
  simp only [Bool.and_eq_true] at hfit
  have hoff := Nat.le_of_ble_eq_true hfit.1
  obtain ⟨x, hxp, hxw, dx, hset⟩ := hS.focus hj
  have hxp' : OwnP T E (some ad) cap xs h x := hxp
  rcases hxp' with ⟨e, _⟩ | ⟨g, cur, e, rfl, h1, h2, h3, h4⟩
  · cases e
  · cases e
    have hg : w.heap[g]? = some (.cells cur E (0, 0)) := Hp.one_le.1 hxw
    have haddr : (((⟨g, 0, none⟩ : Addr).add (ix * T.size)).add off) = ⟨g, ix * T.size + off, none⟩ := by
      rw [add_add]; unfold Addr.add; split <;> simp_all
    rw [haddr] at ho
    have hbound : ix * T.size + T.size ≤ xs.length * T.size := by
      have := Nat.mul_le_mul_right T.size (show ix + 1 ≤ xs.length by omega)
      rwa [Nat.add_mul, Nat.one_mul] at this
    have hbound2 : xs.length * T.size ≤ cap * T.size := Nat.mul_le_mul_right _ h1
    have hrun := run_storeCells_at (P := P) g (ix * T.size + off) E vs 0 cur w hg (by rw [h3]; omega) (oneCells_spec hfit.2)
    simp only [Nat.add_zero] at hrun
    obtain ⟨op, hop, hd, hex⟩ := storeAt_run ho hrun
    refine p_skip hf hop hex fun a' hf' => ?_
    rw [hd] at hf'
    have hrows := h4.set hix hx hoff
    refine k _ a' (hset _ _ (Hp.one g (.cells (splice cur.toList (ix * T.size + off) vs).toArray E (0, 0))) (.inr ⟨g, _, rfl, rfl, by simpa using h1, h2, ?_, ?_⟩) (Hp.one_le.2 ?_) ?_ ?_ rfl rfl rfl) hf'
    · simp only [splice, List.size_toArray, List.length_append, List.length_take, List.length_drop, Array.length_toList]
      omega
    · have hl2 : (xs.set ix x').length = xs.length := List.length_set
      rw [hl2]
      have e2 : (splice cur.toList (ix * T.size + off) vs).take (xs.length * T.size) = splice (cur.toList.take (xs.length * T.size)) (ix * T.size + off) vs := by
        unfold splice
        rw [List.append_assoc, List.append_assoc, List.take_append, List.take_append, List.take_take, List.take_take]
        simp only [List.length_take, Array.length_toList, h3]
        have hm1 : min (ix * T.size + off) (cap * T.size) = ix * T.size + off := by omega
        rw [hm1, show min (xs.length * T.size) (ix * T.size + off) = ix * T.size + off by omega, show min (ix * T.size + off) (xs.length * T.size) = ix * T.size + off by omega]
        rw [List.take_of_length_le (l := vs) (by omega), List.drop_take]
        congr 3
        omega
      show Rows T h ((splice cur.toList (ix * T.size + off) vs).take (xs.length * T.size)) _
      rw [e2]
      exact hrows
    · exact setRow_heap w g _ _ E (0, 0) hg
    · intro q hq hne
      refine setRow_other w g q _ fun e => ?_
      subst e
      simp [Hp.one] at hne
    · intro q o' hq
      right
      unfold Hp.one at hq ⊢
      split at hq <;> simp_all
end Go.Sx
