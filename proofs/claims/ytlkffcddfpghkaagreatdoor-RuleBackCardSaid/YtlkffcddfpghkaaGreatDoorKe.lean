/-
  A part of the walk and of the plain law of one given statement. No condition.
-/
import Derived.Test.YtlkffcddfpghkaaGreatDoorK8
import Derived.Lib.AppendStr
import Derived.Lib.UnsafeStr
import Derived.RecoverIn
import Derived.Lib.Strings
import Derived.Sort.OwnSortedInts
set_option linter.unusedVariables false
set_option linter.unusedSimpArgs false
namespace Go.K
open Go.Sl Go.Sx
variable {e e' : KE} {σ : List Blk} {As L0 L : List Atom} {P : Program} {w : World} {N : Nat} {fl : SFL} {flv : FL} {ρ : Type} {h : Zone}
def bytN : TC → Nat
  | .int _ => 8 | .bool => 8 | .str => 16 | .unit => 8 | .pair a b => bytN a + bytN b | .sl _ => 24 | .mpc _ => 8 | .nsl _ => 24
theorem bytN_pos : ∀ u : TC, 0 < bytN u
  | .int _ | .bool | .str | .unit | .sl _ | .mpc _ | .nsl _ => by simp [bytN]
  | .pair a b => by have := bytN_pos a; simp only [bytN]; omega
abbrev bytT (u : TC) : Inhabited (Byt u.den) := ⟨⟨bytN u⟩⟩
def elemZ (P : Program) (t : TypeId) (u : TC) : Option TypeId := match P.underlying t with
  | some (.slice E) => match P.info? E with
    | some i => match i.zero with
      | some z => bif Nat.beq i.size u.size && (Nat.ble i.bytes (bytN u) && (Nat.beq z.cells.size u.size && Nat.ble 1 u.size)) then some E else none
      | none => none
    | none => none
  | _ => none
theorem elemZ_ok {t E : TypeId} {u : TC} (h : elemZ P t u = some E) : ∃ z, ElemOK P t E u.ty.size z (bytN u) ∧ zeroC P E = some (z.cells.toList.map liftC) := by
  unfold elemZ at h
  split at h
  · rename_i E' hu
    split at h
    · rename_i i hi
      split at h
      · rename_i z hz
        cases hb : (Nat.beq i.size u.size && (Nat.ble i.bytes (bytN u) && (Nat.beq z.cells.size u.size && Nat.ble 1 u.size))) with
        | false => rw [hb] at h; cases h
        | true =>
          rw [hb] at h
          cases h
          simp only [Bool.and_eq_true] at hb
          refine ⟨z, ElemOK.of hu hi hz (bytN_pos u) ?_, by simp [zeroC, hi, hz]⟩
          rw [u.size_eq]
          simp only [Bool.and_eq_true]
          exact ⟨⟨⟨hb.1, hb.2.1⟩, hb.2.2.1⟩, hb.2.2.2⟩
      · cases h
    · cases h
  · cases h
theorem st_front {A : Atom} {j : Nat} (hS : St h (L.set j A) w) (hj : j < L.length) : St h (A :: L.set j emp) w := by
  have := hS.split (i := j) (A := A) (B := A) (C := emp) (by simp [hj]) fun z hz => ⟨z, Hp.nil, hz, rfl, Hp.apart_nil _, (Hp.add_nil z).symm⟩
  rwa [List.set_set] at this
def appX (P : Program) (m : KM) (fl : SFL) (o : Oper) (k : SV → KM → Option ρ) : Option ρ := match o.op with
  | .call { callee := .builtin .append, args := ⟨[s, x]⟩, argTypes := ⟨[t, t']⟩ } => bif Nat.beq t t' then match evS m.σ fl s, evS m.σ fl x with
    | some (.own id), some y => match at' m.σ id with
      | some (.own u E xs) => match srcD m.σ u y, elemZ P t u with
        | some ys, some E' => bif Nat.beq E E' then (appC (b := bytT u) xs ys).bind fun zs => k (.own m.σ.length) ⟨.own u E zs :: setAt m.σ id .gone, (id, 0) :: m.lg⟩ else none
        | _, _ => none
      | _ => none
    | some (.raw v), some y => bif isNil v then match P.underlying t with
      | some (.slice E) => match tcOf P 9 E with
        | some u => match srcD m.σ u y, elemZ P t u with
          | some ys, some E' => bif Nat.beq E E' then (appC (b := bytT u) [] ys).bind fun zs => k (.own m.σ.length) ⟨.own u E zs :: m.σ, m.lg⟩ else none
          | _, _ => none
        | none => none
      | _ => none
      else none
    | _, _ => none
    else none
  | _ => none
theorem app_run {o : Oper} {s x : Operand} {t : TypeId} {a b v : Value} {w' : World} (ho : o.op = .call { callee := .builtin .append, args := ⟨[s, x]⟩, argTypes := ⟨[t, t]⟩ }) (h1 : ev flv s = a) (h2 : ev flv x = b)
    (hr : (Builtin.append_ #[t, t] o.type #[a, b]).run P w = .ok v w') : (execOp (ev flv) o).run P w = .ok (.value v) w' := by
  subst h1 h2
  simp [execOp, ho, resolve, invoke, builtin, hr]
theorem appX_ok {m : KM} (h1 : Mem e m.σ As) (h2 : St e.z (As ++ L0) w) (k : FLIs e fl flv) {o : Oper} {K : SV → KM → Option ρ} {r : ρ} (h : appX P m fl o K = some r) : ∃ s m', K s m' = some r ∧ Out P e As L0 flv o w m s m' := by
  unfold appX at h
  split at h
  · rename_i s x t t' ho
    cases hb : Nat.beq t t' with
    | false => rw [hb] at h; cases h
    | true =>
      rw [hb] at h
      simp only [cond_true] at h
      have := Nat.eq_of_beq_eq_true hb
      subst this
      split at h
      · rename_i id y hs hy
        split at h
        · rename_i u E xs hB
          split at h
          · rename_i ys E' hys hE'
            cases hbE : Nat.beq E E' with
            | false => rw [hbE] at h; cases h
            | true =>
              rw [hbE] at h
              have := Nat.eq_of_beq_eq_true hbE
              subst this
              obtain ⟨zs, g1, g2⟩ := bind_some h
              obtain ⟨hlen, rfl⟩ := appC_spec g1
              obtain ⟨z, hE, _⟩ := elemZ_ok hE'
              obtain ⟨h0, _⟩ := evS_is h1 k hs
              obtain ⟨o2, c2, hx, hsrc⟩ := srcD_ok h1 h2 hys (evS_is h1 k hy).1
              generalize hgv : ev flv s = gv at h0
              obtain ⟨i, m1, m2, m3⟩ := h1.len hB
              cases h0 with
              | own hi =>
                rw [hi] at m1; cases m1
                obtain ⟨o', cap', w', k1, k2⟩ := run_append_src (ty := o.type) (c2 := c2) hE h2 (Mem.atom m3) hsrc hlen
                have hfr := st_front k2 (by have := at_lt m3; simp; omega)
                rw [setAt_app (at_lt m3)] at hfr
                rw [← m2] at hgv
                have hle := KE.le_push e ⟨0, o', (xs ++ ys).length, cap'⟩
                refine ⟨_, _, g2, .value _, _, w', e.push ⟨0, o', (xs ++ ys).length, cap'⟩, _, app_run ho hgv hx k1, .inl rfl, ⟨hle, (ExtM.set hB (fun T cs hh => by cases hh)).trans (ExtM.push _ _), fun hh => absurd hh (by simp)⟩, .own (i := ⟨0, o', (xs ++ ys).length, cap'⟩) ?_, (h1.set hi .gone).push (.own rfl), hfr⟩
                show at' (_ :: e.bs) m.σ.length = _
                rw [h1.lb]; exact at_new
          · cases h
        · cases h
      · rename_i v y hs hy
        cases hn : isNil v with
        | false => rw [hn] at h; cases h
        | true =>
          rw [hn] at h
          simp only [cond_true] at h
          have hv := isNil_eq hn
          subst hv
          split at h
          · rename_i E hu
            split at h
            · rename_i u htc
              split at h
              · rename_i ys E' hys hE'
                cases hbE : Nat.beq E E' with
                | false => rw [hbE] at h; cases h
                | true =>
                  rw [hbE] at h
                  have := Nat.eq_of_beq_eq_true hbE
                  subst this
                  obtain ⟨zs, g1, g2⟩ := bind_some h
                  obtain ⟨hlen, rfl⟩ := appC_spec g1
                  obtain ⟨z, hE, _⟩ := elemZ_ok hE'
                  obtain ⟨h0, _⟩ := evS_is h1 k hs
                  obtain ⟨o2, c2, hx, hsrc⟩ := srcD_ok h1 h2 hys (evS_is h1 k hy).1
                  generalize hgv : ev flv s = gv at h0
                  cases h0
                  obtain ⟨o', cap', w', k1, k2⟩ := run_append_src (ty := o.type) (c2 := c2) (xs := []) hE (h2.ownNil u.ty E) (j := 0) rfl hsrc hlen
                  have hle := KE.le_push e ⟨0, o', zs.length, cap'⟩
                  refine ⟨_, _, g2, .value _, _, w', e.push ⟨0, o', zs.length, cap'⟩, _, app_run ho hgv hx k1, .inl rfl, ⟨hle, ExtM.push m _, fun _ => ⟨[_], rfl⟩⟩, .own (i := ⟨0, o', zs.length, cap'⟩) ?_, h1.push (.own rfl), k2⟩
                  show at' (_ :: e.bs) m.σ.length = _
                  rw [h1.lb]; exact at_new
              · cases h
            · cases h
          · cases h
      · cases h
  · cases h
theorem st_make {t E : TypeId} {u : TC} {z : Value} {n : Int} {x0 : u.den} {xs : List u.den} (hE : ElemOK P t E u.ty.size z (bytN u)) (hb : bytN u ≤ 128) (hS : St h L w) (h0 : u.ty.rep h z.cells.toList x0) (hn : mkC n x0 = some xs) :
    ∃ o' w', (Instr.makeSlice t (.int .i64 n) (.int .i64 n)).run P w = .ok (.slice (some o') xs.length xs.length) w' ∧ St h (ownS u.ty E (some o') xs.length xs :: L) w' := by
  unfold mkC at hn
  split at hn
  case isFalse => cases hn
  rename_i hn0
  simp only [Option.some.injEq] at hn
  subst hn
  obtain ⟨inf, hi, hsize, hby, hz⟩ := hE.info
  have hbytes : (inf.bytes : Int) * n ≤ 281474976710656 := by
    have h1 : (inf.bytes : Int) ≤ 128 := by omega
    have h2 : (inf.bytes : Int) * n ≤ 128 * n := Int.mul_le_mul_of_nonneg_right h1 hn0.1
    omega
  have hrun := run_make (P := P) w t E inf z hE.und hi hz .i64 .i64 n n hn0.1 (Int.le_refl _) hbytes (by omega)
  have hcells : (madeCells z.cells (n.toNat * inf.size)) = ((List.range (n.toNat * u.ty.size)).map fun i => z.cells.toList.getD (i % u.ty.size) undef).toArray := by
    unfold madeCells
    rw [hsize]
    apply Array.ext
    · simp
    · intro i h1 h2
      have hzs := hE.zs
      have hpos := hE.pos
      have hlt : i % u.ty.size < z.cells.size := by rw [hzs]; exact Nat.mod_lt _ hpos
      simp [hzs]
      rw [getElem!_pos z.cells _ hlt, Array.getElem?_eq_getElem hlt]
      rfl
  rw [hcells] at hrun
  have hrows := rows_made (h := h) h0 hE.pos n.toNat
  have hlen : (List.replicate n.toNat x0).length = n.toNat := List.length_replicate
  have hS' := hS.new (pts w.heap.size (.cells ((List.range (n.toNat * u.ty.size)).map fun i => z.cells.toList.getD (i % u.ty.size) undef).toArray E (0, 0))) _ rfl
  have hown := hS'.ownBox (i := 0) (T := u.ty) (E := E) (n := n.toNat) (cs := (List.range (n.toNat * u.ty.size)).map fun i => z.cells.toList.getD (i % u.ty.size) undef) rfl hrows (by simp) (by simp only [maxLen]; omega)
  rw [hlen]
  exact ⟨_, _, hrun, hown⟩
def sameO : Operand → Operand → Bool
  | .tmp a, .tmp b => Nat.beq a b
  | _, _ => false
def makeX (P : Program) (m : KM) (fl : SFL) (o : Oper) (k : SV → KM → Option ρ) : Option ρ := match o.op with
  | .makeSlice t l c => match i64S m.σ fl l, i64S m.σ fl c, P.underlying t with
    | some n, some n', some (.slice E) => bif sameO l c || (match litN n, litN n' with | some a, some b => Nat.beq a b | _, _ => false) then match tcOf P 9 E with
      | some u => match elemZ P t u, zeroC P E with
        | some E', some z => match u.ofL z with
          | some (x0, []) => bif Nat.beq E E' && Nat.ble (bytN u) 128 then (mkC n x0).bind fun xs => k (.own m.σ.length) ⟨.own u E xs :: m.σ, m.lg⟩ else none
          | _ => none
        | _, _ => none
      | none => none
      else none
    | _, _, _ => none
  | _ => none
theorem makeX_ok {m : KM} (h1 : Mem e m.σ As) (h2 : St e.z (As ++ L0) w) (k : FLIs e fl flv) {o : Oper} {K : SV → KM → Option ρ} {r : ρ} (h : makeX P m fl o K = some r) : ∃ s m', K s m' = some r ∧ Out P e As L0 flv o w m s m' := by
  unfold makeX at h
  split at h
  · rename_i t l c ho
    split at h
    · rename_i n n' E hn hn' hu
      cases hb : (sameO l c || (match litN n, litN n' with | some a, some b => Nat.beq a b | _, _ => false)) with
      | false => rw [hb] at h; cases h
      | true =>
        rw [hb] at h
        simp only [cond_true] at h
        have en := i64S_is h1 k hn
        have en' := i64S_is h1 k hn'
        have enn : n' = n := by
          rcases Bool.or_eq_true_iff.1 hb with hb | hb
          · unfold sameO at hb
            split at hb
            · rename_i a b
              have := Nat.eq_of_beq_eq_true hb
              subst this
              rw [hn] at hn'; exact (Option.some.inj hn').symm
            · cases hb
          · split at hb
            · rename_i a b ha hb'
              rw [litN_eq ha, litN_eq hb', Nat.eq_of_beq_eq_true hb]
            · cases hb
        subst enn
        split at h
        · rename_i u htc
          split at h
          · rename_i E' z hE' hz
            split at h
            · rename_i x0 hx0
              cases hbE' : (Nat.beq E E' && Nat.ble (bytN u) 128) with
              | false => rw [hbE'] at h; cases h
              | true =>
                rw [hbE'] at h
                obtain ⟨hbE, hb128⟩ := Bool.and_eq_true_iff.1 hbE'
                have := Nat.eq_of_beq_eq_true hbE
                subst this
                obtain ⟨xs, g1, g2⟩ := bind_some h
                obtain ⟨zv, hE, hz2⟩ := elemZ_ok hE'
                rw [hz] at hz2
                cases hz2
                obtain ⟨v1, v2, q1, q2, q3⟩ := ofL_is (e := e) u hx0 (liftL_is _)
                cases q3
                rw [List.append_nil] at q1
                rw [← q1] at q2
                obtain ⟨o', w', k1, k2⟩ := st_make (P := P) hE (Nat.le_of_ble_eq_true hb128) h2 q2 g1
                have hle := KE.le_push e ⟨0, some o', xs.length, xs.length⟩
                refine ⟨_, _, g2, .value _, .slice (some o') xs.length xs.length, w', e.push ⟨0, some o', xs.length, xs.length⟩, _, ?_, .inl rfl, ⟨hle, ExtM.push m _, fun _ => ⟨[_], rfl⟩⟩, .own (i := ⟨0, some o', xs.length, xs.length⟩) ?_, h1.push (.own rfl), k2⟩
                · simp [execOp, ho, en, en', k1]
                · show at' (_ :: e.bs) m.σ.length = _
                  rw [h1.lb]; exact at_new
            · cases h
          · cases h
        · cases h
    · cases h
  · cases h
theorem ofLs_rows : ∀ (n : Nat) {u : TC} {l : List SV} {xs : List u.den} {vs : List Value}, ofLs u n l = some xs → IsL e l vs → Sx.Rows u.ty e.z vs xs ∧ xs.length = n
  | 0, u, [], xs, vs, h, hl => by cases hl; cases h; exact ⟨rfl, rfl⟩
  | 0, u, _ :: _, xs, vs, h, hl => by cases h
  | n + 1, u, l, xs, vs, h, hl => by
    simp only [ofLs] at h
    split at h
    · rename_i x r hx
      split at h
      · rename_i ys hys
        cases h
        obtain ⟨v1, v2, rfl, q2, q3⟩ := ofL_is u hx hl
        obtain ⟨k1, k2⟩ := ofLs_rows n hys q3
        exact ⟨⟨v1, v2, rfl, q2, k1⟩, by simp [k2]⟩
      · cases h
    · cases h
def cellsOf (σ : List Blk) (fl : SFL) (l : List (Nat × Operand)) : List SV := l.flatMap fun p => match evS σ fl p.2 with
  | some s => (svC s).getD []
  | none => []
def repC (n : Nat) (z : List SV) : List SV := (List.range n).map fun i => z.getD (i % z.length) (.raw default)
theorem repC_is {z : List SV} {vs : List Value} (h : IsL e z vs) (n : Nat) : IsL e (repC n z) ((List.range n).map fun i => vs.getD (i % vs.length) default) := by
  unfold repC
  generalize List.range n = r
  have hlen := h.len
  induction r with
  | nil => exact .nil
  | cons i r ih =>
    refine .cons ?_ ih
    rw [hlen]
    by_cases hi : i % vs.length < vs.length
    · have h1 : z[i % vs.length]? = some (z[i % vs.length]'(by omega)) := List.getElem?_eq_getElem (by omega)
      obtain ⟨v, k1, k2⟩ := h.get h1
      simp only [List.getD_eq_getElem?_getD, h1, k1, Option.getD_some]
      exact k2
    · simp only [List.getD_eq_getElem?_getD, List.getElem?_eq_none (Nat.le_of_not_lt hi), List.getElem?_eq_none (show z.length ≤ i % vs.length by omega), Option.getD_none]
      exact .raw _
def buildSX (P : Program) (m : KM) (fl : SFL) (o : Oper) (k : SV → KM → Option ρ) : Option ρ := match o.op with
  | .buildSlice t n parts => match P.underlying t with
    | some (.slice E) => match tcOf P 9 E, zeroC P E, P.info? E with
      | some u, some z, some inf =>
        let m1 := frzL m (cellsOf m.σ fl parts.toList)
        bif Nat.beq inf.size u.size && (Nat.ble (n * inf.size) 100000 && Nat.ble 1 u.size) then match ptsS m1.σ fl parts.toList with
          | some l => match fillS (fun i => some (i * inf.size, inf.size)) (repC (n * inf.size) z) l with
            | some cs => match ofLs u n cs with
              | some xs => bif cs.all cellOk then k (.own m1.σ.length) ⟨.own u E xs :: m1.σ, m1.lg⟩ else none
              | none => none
            | none => none
          | none => none
        else none
      | _, _, _ => none
    | _ => none
  | _ => none
theorem buildSX_ok {m : KM} (h1 : Mem e m.σ As) (h2 : St e.z (As ++ L0) w) (k : FLIs e fl flv) {o : Oper} {K : SV → KM → Option ρ} {r : ρ} (h : buildSX P m fl o K = some r) : ∃ s m', K s m' = some r ∧ Out P e As L0 flv o w m s m' := by
  unfold buildSX at h
  split at h
  · rename_i t n parts ho
    split at h
    · rename_i E hu
      split at h
      · rename_i u z inf htc hz hinf
        obtain ⟨e1, As1, x1, h1, h3⟩ := frzL_ok (cellsOf m.σ fl parts.toList) h1 h2
        have k' := k.mono x1.le
        simp only at h
        revert x1 h1 h
        generalize frzL m (cellsOf m.σ fl parts.toList) = m1
        intro h x1 h1
        cases hb : (Nat.beq inf.size u.size && (Nat.ble (n * inf.size) 100000 && Nat.ble 1 u.size)) with
        | false => rw [hb] at h; cases h
        | true =>
          rw [hb] at h
          simp only [cond_true] at h
          simp only [Bool.and_eq_true] at hb
          have hsz := Nat.eq_of_beq_eq_true hb.1
          have hlim := Nat.le_of_ble_eq_true hb.2.1
          have hpos := Nat.le_of_ble_eq_true hb.2.2
          split at h
          · rename_i l hl
            split at h
            · rename_i cs hf
              split at h
              · rename_i xs hxs
                cases hok : cs.all cellOk with
                | false => rw [hok] at h; cases h
                | true =>
                  rw [hok] at h
                  simp only [cond_true] at h
                  obtain ⟨zv, z1, z2⟩ := zeroC_run (e := e1) hz
                  obtain ⟨us, f1, f2⟩ := fillS_ok (ptsS_is h1 k' hl) (repC_is z1 (n * inf.size)) hf
                  obtain ⟨r1, r2⟩ := ofLs_rows n hxs f1
                  obtain ⟨g1, g2⟩ := st_new (P := P) (c := us.toArray) (E := E) h3
                  have g3 := g2.ownBox (i := 0) (T := u.ty) (E := E) (xs := xs) (n := n) rfl r1 r2 (by
                    simp only [maxLen]
                    have : n * 1 ≤ n * inf.size := Nat.mul_le_mul_left _ (by omega)
                    omega)
                  have hle2 := KE.le_push e1 ⟨0, some ⟨w.heap.size, 0, none⟩, n, n⟩
                  refine ⟨_, _, h, .value _, .slice (some ⟨w.heap.size, 0, none⟩) n n, _, e1.push ⟨0, some ⟨w.heap.size, 0, none⟩, n, n⟩, _, ?_, .inl rfl, x1.trans ⟨hle2, ExtM.push m1 _, fun _ => ⟨[_], rfl⟩⟩, .own (i := ⟨0, some ⟨w.heap.size, 0, none⟩, n, n⟩) ?_, h1.push (.own r2), g3⟩
                  · have es : (sizeOf E).run P w = .ok inf.size w := by simp [sizeOf, typeInfo, hinf]
                    have hno : ¬ n * inf.size > 2 ^ 24 := by omega
                    have hfill : Instr.fill (fun i => some (i * inf.size, inf.size)) ((Array.range (n * inf.size)).map (fun x => (zv.cells)[x % zv.cells.size]!)) ((parts.map fun (i, x) => (i, ev flv x)).toList) = some us.toArray := by
                      have ea : (Array.range (n * inf.size)).map (fun x => (zv.cells)[x % zv.cells.size]!) = ((List.range (n * inf.size)).map fun i => zv.cells.toList.getD (i % zv.cells.toList.length) default).toArray := by
                        apply Array.ext'
                        simp only [Array.toList_map, Array.toList_range, Array.length_toList]
                        refine List.map_congr_left fun i _ => ?_
                        simp [getElem!_def, List.getD_eq_getElem?_getD]
                        cases zv.cells[i % zv.cells.size]? <;> rfl
                      rw [ea, ← f2]; simp
                    by_cases h0 : n * inf.size = 0
                    · have en : n = 0 := by
                        rcases Nat.mul_eq_zero.1 h0 with h0 | h0
                        · exact h0
                        · omega
                      subst en
                      simp only [Nat.zero_mul] at hfill
                      have hf0 : Instr.fill (fun i => some (i * inf.size, inf.size)) ((Array.range 0).map (fun x => (#[] : Array Value)[x % (#[] : Array Value).size]!)) ((parts.map fun (i, x) => (i, ev flv x)).toList) = some us.toArray := by
                        have ez : ∀ f : Nat → Value, (Array.range 0).map f = #[] := fun f => by simp
                        rw [ez] at hfill ⊢; exact hfill
                      simp only [execOp, ho, Instr.buildSlice, Sem.run_bind, run_underlying hu, es, Result.andThen_ok, Nat.zero_mul, Nat.not_lt_zero, gt_iff_lt, if_false, if_true, Sem.run_pure]
                      rw [hf0]
                      simp only [Sem.run_bind, g1, Result.andThen_ok, Sem.run_pure]
                    · simp only [execOp, ho, Instr.buildSlice, Sem.run_bind, run_underlying hu, es, Result.andThen_ok, hno, if_false, h0, z2, Sem.run_pure]
                      rw [hfill]
                      simp only [Sem.run_bind, g1, Result.andThen_ok, Sem.run_pure]
                  · show at' (_ :: e1.bs) m1.σ.length = _
                    rw [h1.lb]; exact at_new
              · cases h
            · cases h
          · cases h
      · cases h
    · cases h
  · cases h
end Go.K
namespace Go.K
open Go.Sl Go.Sx
variable {e e' : KE} {σ : List Blk} {As L0 L : List Atom} {P : Program} {w : World} {h : Zone}
def elemB (P : Program) (t : TypeId) : Option TypeId := match P.underlying t with
  | some (.slice E) => match P.info? E, P.underlying E with
    | some i, some (.int .u8) => match i.zero with
      | some (.int .u8 0) => bif Nat.beq i.size 1 && (Nat.beq i.bytes 1 && Nat.beq (P.cellsOf E) 1) then some E else none
      | _ => none
    | _, _ => none
  | _ => none
theorem elemB_ok {t E : TypeId} (h : elemB P t = some E) : P.underlying t = some (.slice E) ∧ P.cellsOf E = 1 ∧ ∃ i, P.info? E = some i ∧ i.zero = some (.int .u8 0) ∧ i.size = 1 ∧ i.bytes = 1 := by
  unfold elemB at h
  split at h
  · rename_i E' hu
    split at h
    · rename_i i hi hu8
      split at h
      · rename_i hz
        cases hb : (Nat.beq i.size 1 && (Nat.beq i.bytes 1 && Nat.beq (P.cellsOf E') 1)) with
        | false => rw [hb] at h; cases h
        | true =>
          rw [hb] at h
          cases h
          simp only [Bool.and_eq_true] at hb
          exact ⟨hu, Nat.eq_of_beq_eq_true hb.2.2, i, hi, hz, Nat.eq_of_beq_eq_true hb.1, Nat.eq_of_beq_eq_true hb.2.1⟩
      · cases h
    · cases h
  · cases h
theorem bytesI_len (s : ByteArray) : (bytesI s).length = s.size := by
  simp [bytesI]
theorem bytesI_cells (s : ByteArray) : (bytesI s).map (Value.int .u8) = Lib.strCells s := by
  simp [bytesI, Lib.strCells, List.map_map]
abbrev tyB : Ty Int := tyInt .u8
theorem run_append_str {t u ty E : TypeId} {o : Option Addr} {cap j : Nat} {xs : List Int} (hE : elemB P t = some E) (hu : P.underlying u = some .string) (hS : St h L w) (hj : L[j]? = some (ownS tyB E o cap xs)) (s : ByteArray) (hlen : xs.length + s.size ≤ 17592186044416) :
    ∃ o' cap' w', (Builtin.append_ #[t, u] ty #[.slice o xs.length cap, .string s]).run P w = .ok (.slice o' (xs ++ bytesI s).length cap') w' ∧ St h (L.set j (ownS tyB E o' cap' (xs ++ bytesI s))) w' := by
  obtain ⟨ht, _, i, hi, hz, hs1, hb1⟩ := elemB_ok hE
  obtain ⟨x, hx, hxw, dx, hset⟩ := hS.focus hj
  have hx' : OwnP tyB E o cap xs h x := hx
  have hrows : ∀ {cs : List Value}, Sx.Rows tyB h cs (xs ++ bytesI s) ↔ cs = (xs ++ bytesI s).map (Value.int .u8) := rows_k
  have hl : (xs ++ bytesI s).length = xs.length + s.size := by rw [List.length_append, bytesI_len]
  have hcells : (xs ++ bytesI s).map (Value.int .u8) = xs.map (Value.int .u8) ++ Lib.strCells s := by rw [List.map_append, bytesI_cells]
  have h63 : xs.length + s.size ≤ maxLen := by simp only [maxLen]; omega
  rcases hx' with ⟨rfl, rfl, rfl, hxn⟩ | ⟨g, cur, rfl, rfl, h1, h2, h3, h4⟩
  · obtain ⟨v', w', hrun, hown, hgr, hnil⟩ := Lib.run_append_own_string (P := P) w w.heap.size t u ty E i ht hu hi hz hs1 hb1 (.slice none 0 0) 0 [] (World.ownsRow_nil w _ E 1) s (by simpa using h63) (by simp at hlen; omega) (Nat.le_refl _)
    obtain ⟨hlen', hv⟩ := hown
    rcases hv with ⟨hv, h0⟩ | ⟨g, cap', cur, hv, hbg, hg, hnc, hcm, hcs, htake⟩
    · have hb : bytesI s = [] := List.eq_nil_of_length_eq_zero (by rw [bytesI_len]; omega)
      refine ⟨none, 0, w', ?_, ?_⟩
      · rw [hb]; simp only [List.append_nil, List.length_nil]; rw [hrun, hv]
      · rw [hb]
        exact hset w' (ownS tyB E none 0 []) Hp.nil (.inl ⟨rfl, rfl, rfl, rfl⟩) (Hp.nil_le _) (fun b hb hn => hgr.block b hb fun e => by simp [Value.ownBlock] at e) (fun b o e => by simp [Hp.nil] at e) hgr.os hgr.tape hgr.output
    · refine ⟨some ⟨g, 0, none⟩, cap', w', by rw [hl]; simp only [List.length_nil]; rw [hrun, hv], ?_⟩
      refine hset w' (ownS tyB E (some ⟨g, 0, none⟩) cap' ([] ++ bytesI s)) (Hp.one g (.cells cur E (0, 0))) (.inr ⟨g, cur, rfl, rfl, by rw [hl]; simpa using hnc, hcm, hcs, ?_⟩) (Hp.one_le.2 hg) (fun b hb hn => hgr.block b hb fun e => by simp [Value.ownBlock] at e) (fun b o' e => ?_) hgr.os hgr.tape hgr.output
      · rw [hl]
        show Sx.Rows tyB h (cur.toList.take ((([] : List Int).length + s.size) * 1)) _
        rw [hrows, hcells]; simp only [List.length_nil]; rw [htake]; rfl
      · unfold Hp.one at e
        split at e
        · rename_i hbg'
          subst hbg'
          exact .inl hbg
        · cases e
  · have hg0 : w.heap[g]? = some (.cells cur E (0, 0)) := Hp.one_le.1 hxw
    have hcur : cur.toList.take (xs.length * 1) = xs.map (Value.int .u8) := rows_k.1 h4
    have hown0 : w.ownsRow 0 E 1 (.slice (some ⟨g, 0, none⟩) xs.length cap) xs.length (xs.map (Value.int .u8)) :=
      ⟨by simp, .inr ⟨g, cap, cur, rfl, Nat.zero_le _, hg0, h1, h2, h3, hcur⟩⟩
    obtain ⟨v', w', hrun, hown, hgr, hnil⟩ := Lib.run_append_own_string (P := P) w 0 t u ty E i ht hu hi hz hs1 hb1 _ xs.length _ hown0 s h63 (by omega) (Nat.zero_le _)
    have hat : v'.ownBlock = some g ∨ v'.ownBlock = some w.heap.size := by
      by_cases hroom : xs.length + s.size ≤ cap
      · have h3' : cur.size = cap * 1 := h3
        have hr := Lib.run_append_room_string (P := P) w t u ty E i ht hu hi hs1 g xs.length cap cur hg0 s hroom (by omega)
        rw [hr] at hrun
        cases hrun
        exact .inl rfl
      · have hr := Lib.run_append_grow_string (P := P) w t u ty E i (.int .u8 0) ht hu hi hz ⟨g, 0, none⟩ xs.length cap (xs.map (Value.int .u8)) (by rw [hs1]; simp) (hown0.cells (g := g) rfl) s (by omega) (by omega) (by rw [hb1]; exact growslice_fits (by omega) (by omega))
        rw [hr] at hrun
        cases hrun
        exact .inr rfl
    obtain ⟨hlen', hv⟩ := hown
    have hnn : v' ≠ .slice none 0 0 := fun e => by have := (hnil.1 e).1; cases this
    rcases hv with ⟨hv, h0⟩ | ⟨g', cap', cur', hv, hbg, hg, hnc, hcm, hcs, htake⟩
    · exact absurd hv hnn
    · refine ⟨some ⟨g', 0, none⟩, cap', w', by rw [hl, hrun, hv], ?_⟩
      refine hset w' (ownS tyB E (some ⟨g', 0, none⟩) cap' (xs ++ bytesI s)) (Hp.one g' (.cells cur' E (0, 0))) (.inr ⟨g', cur', rfl, rfl, by rw [hl]; exact hnc, hcm, hcs, ?_⟩) (Hp.one_le.2 hg) (fun b hb hn => hgr.block b hb fun e => ?_) (fun b o' e => ?_) hgr.os hgr.tape hgr.output
      · rw [hl]
        show Sx.Rows tyB h (cur'.toList.take ((xs.length + s.size) * 1)) _
        rw [hrows, hcells, htake]
      · simp only [Value.ownBlock, Option.some.injEq] at e
        subst e
        simp [Hp.one] at hn
      · unfold Hp.one at e
        split at e
        · rename_i hbg'
          subst hbg'
          rw [hv] at hat
          rcases hat with e1 | e1
          · right
            simp only [Value.ownBlock, Option.some.injEq] at e1
            subst e1
            simp [Hp.one]
          · left
            simp only [Value.ownBlock, Option.some.injEq] at e1
            omega
        · cases e
theorem run_loadBytesI : ∀ (l : List Int) (a : Addr) (acc : ByteArray), (∀ j x, l[j]? = some x → w.cell? (a.add j) = some (.int .u8 x)) →
    (loadBytes a acc l.length).run P w = .ok (l.foldl (fun r n => r.push (UInt8.ofNat n.toNat)) acc) w
  | [], a, acc, _ => by simp [loadBytes]
  | x :: l, a, acc, h => by
    have h0 : w.cell? a = some (.int .u8 x) := by
      have := h 0 x rfl
      simpa [Addr.add] using this
    have ih := run_loadBytesI l (a.add 1) (acc.push (x.toNat.toUInt8)) (fun j y hy => by
      have := h (j + 1) y (by simpa using hy)
      rw [add_add, Nat.add_comm]; exact this)
    simp only [List.length_cons, loadBytes, Sem.run_bind, run_load, h0, Result.andThen]
    rw [ih]
    rfl
theorem run_unsafeStringI (pt it ty e : TypeId) (hp : P.underlying pt = some (.pointer e)) (hc : P.cellsOf e = 1) (g cells : Nat) (hsh : w.shape? g = some (e, cells)) (l : List Int) (h0 : l ≠ []) (hn : l.length ≤ cells) (h63 : l.length ≤ 9223372036854775807)
    (hcell : ∀ j x, l[j]? = some x → w.cell? ((⟨g, 0, none⟩ : Addr).add j) = some (.int .u8 x)) :
    (Builtin.unsafeString_ #[pt, it] ty #[.pointer (some ⟨g, 0, none⟩), .int .i64 l.length]).run P w = .ok (.string (strI l)) (w.freeze ⟨g, 0, none⟩ l.length) := by
  have hl : l.length ≠ 0 := by simpa using h0
  have hlb := run_loadBytesI (P := P) (w := w) l ⟨g, 0, none⟩ .empty hcell
  have hlies := Lib.liesAt_bytes (P := P) hc (cells / P.cellsOf e) l.length (by rw [hc]; simpa using hn)
  have h63' : ¬ (9223372036854775807 : Int) < (l.length : Int) := by omega
  have hdef : Builtin.unsafeString_ #[pt, it] ty #[.pointer (some ⟨g, 0, none⟩), .int .i64 l.length] =
      (do
        let n ← asInt (.int .i64 l.length)
        if n < 0 then runtimePanic (.error "unsafe.String: len out of range")
        if n > IntKind.i64.max then unsupported (.unsafePointer "String: a length above the largest int")
        if n = 0 then pure (.string .empty)
        else if ← variablesAt ⟨g, 0, none⟩ (← elemOf pt) n.toNat then do
          let s ← loadBytes ⟨g, 0, none⟩ .empty n.toNat
          freeze ⟨g, 0, none⟩ n.toNat
          pure (.string s)
        else unsupported (.unsafePointer "String: not so many bytes at ptr")) := rfl
  rw [hdef]
  have hmax : IntKind.i64.max = 9223372036854775807 := rfl
  have hneg : ¬ (l.length : Int) < 0 := by omega
  simp [asInt, asIntOf, hmax, h63', hneg, hl, variablesAt, hsh, elemOf, run_underlying hp, hlies, hlb, strI]
theorem cell_heap {g k : Nat} {cur : Array Value} {E : TypeId} {f : Nat × Nat} (hg : w.heap[g]? = some (.cells cur E f)) : w.cell? ⟨g, k, none⟩ = cur[k]? := by
  simp [World.cell?, hg]
theorem st_unsafe {pt it ty E : TypeId} {o : Option Addr} {cap j : Nat} {xs : List Int} (hp : P.underlying pt = some (.pointer E)) (hc : P.cellsOf E = 1) (hS : St h L w) (hj : L[j]? = some (ownS tyB E o cap xs)) {a : Addr} (ho : o = some a) (h0 : xs ≠ []) :
    ∃ w', (Builtin.unsafeString_ #[pt, it] ty #[.pointer (some a), .int .i64 xs.length]).run P w = .ok (.string (strI xs)) w' ∧ St h (L.set j emp) w' := by
  obtain ⟨x, hx, hxw, dx, hset⟩ := hS.focus hj
  have hx' : OwnP tyB E o cap xs h x := hx
  rcases hx' with ⟨rfl, rfl, rfl, _⟩ | ⟨g, cur, rfl, rfl, h1, h2, h3, h4⟩
  · exact absurd rfl h0
  · cases ho
    have hg0 : w.heap[g]? = some (.cells cur E (0, 0)) := Hp.one_le.1 hxw
    have hcur : cur.toList.take (xs.length * 1) = xs.map (Value.int .u8) := rows_k.1 h4
    have h3' : cur.size = cap * 1 := h3
    have hrun := run_unsafeStringI (P := P) (w := w) pt it ty E hp hc g cur.size (by simp [World.shape?, hg0]) xs h0 (by omega) (by simp only [maxLen] at h2; omega) (fun k v hk => by
      rw [add_of, cell_heap hg0]
      have h5 : (cur.toList.take (xs.length * 1))[k]? = some (.int .u8 v) := by rw [hcur, List.getElem?_map, hk]; rfl
      rw [List.getElem?_take] at h5
      split at h5
      · simpa using h5
      · cases h5)
    refine ⟨_, hrun, ?_⟩
    have hfz : ∀ b, b ≠ g → (w.freeze ⟨g, 0, none⟩ xs.length).heap[b]? = w.heap[b]? := fun b hb => by
      unfold World.freeze
      split
      · rfl
      · simp only [Array.getElem?_modify]
        rw [if_neg (by simpa using fun e => hb e.symm)]
    have hos : (w.freeze ⟨g, 0, none⟩ xs.length).os = w.os ∧ (w.freeze ⟨g, 0, none⟩ xs.length).tape = w.tape ∧ (w.freeze ⟨g, 0, none⟩ xs.length).output = w.output := by
      unfold World.freeze; split <;> exact ⟨rfl, rfl, rfl⟩
    exact hset _ emp Hp.nil rfl (Hp.nil_le _) (fun b hb hn => hfz b fun e => by subst e; simp [Hp.one] at hn) (fun b o' e => by simp [Hp.nil] at e) hos.1 hos.2.1 hos.2.2
end Go.K
namespace Go.K
open Go.Sl Go.Sx
variable {e e' : KE} {σ : List Blk} {As L0 L : List Atom} {P : Program} {w : World} {N : Nat} {fl : SFL} {flv : FL} {ρ : Type} {h : Zone}
def isTxt (P : Program) (o : Oper) : Bool := match o.op with
  | .call { argTypes := ⟨[_, t']⟩, .. } => (match P.underlying t' with
    | some .string => true
    | _ => false)
  | _ => false
def appTX (P : Program) (m : KM) (fl : SFL) (o : Oper) (k : SV → KM → Option ρ) : Option ρ := match o.op with
  | .call { callee := .builtin .append, args := ⟨[s, x]⟩, argTypes := ⟨[t, t']⟩ } => match P.underlying t', elemB P t, strS m.σ fl x with
    | some .string, some E', some b => match evS m.σ fl s with
      | some (.own id) => match at' m.σ id with
        | some (.own (.int .u8) E xs) => bif Nat.beq E E' then (appC (b := bytI) xs (bytesI b)).bind fun zs => k (.own m.σ.length) ⟨.own (.int .u8) E zs :: setAt m.σ id .gone, (id, 0) :: m.lg⟩ else none
        | _ => none
      | some (.raw v) => bif isNil v then (appC (b := bytI) [] (bytesI b)).bind fun zs => k (.own m.σ.length) ⟨.own (.int .u8) E' zs :: m.σ, m.lg⟩ else none
      | _ => none
    | _, _, _ => none
  | _ => none
theorem appT_run {o : Oper} {s x : Operand} {t t' : TypeId} {a b v : Value} {w' : World} (ho : o.op = .call { callee := .builtin .append, args := ⟨[s, x]⟩, argTypes := ⟨[t, t']⟩ }) (h1 : ev flv s = a) (h2 : ev flv x = b)
    (hr : (Builtin.append_ #[t, t'] o.type #[a, b]).run P w = .ok v w') : (execOp (ev flv) o).run P w = .ok (.value v) w' := by
  subst h1 h2
  simp [execOp, ho, resolve, invoke, builtin, hr]
theorem appTX_ok {m : KM} (h1 : Mem e m.σ As) (h2 : St e.z (As ++ L0) w) (k : FLIs e fl flv) {o : Oper} {K : SV → KM → Option ρ} {r : ρ} (h : appTX P m fl o K = some r) : ∃ s m', K s m' = some r ∧ Out P e As L0 flv o w m s m' := by
  unfold appTX at h
  split at h
  · rename_i s x t t' ho
    split at h
    · rename_i E' b hu hE' hb
      have hx := strS_is h1 k hb
      split at h
      · rename_i id hs
        split at h
        · rename_i E xs hB
          cases hbE : Nat.beq E E' with
          | false => rw [hbE] at h; cases h
          | true =>
            rw [hbE] at h
            have := Nat.eq_of_beq_eq_true hbE
            subst this
            obtain ⟨zs, g1, g2⟩ := bind_some h
            obtain ⟨hlen, rfl⟩ := appC_spec g1
            rw [bytesI_len] at hlen
            replace hlen : xs.length + b.size ≤ 17592186044416 := by have e : (Inhabited.default : Byt Int).n = 8 := rfl; rw [e] at hlen; omega
            obtain ⟨h0, _⟩ := evS_is h1 k hs
            generalize hgv : ev flv s = gv at h0
            obtain ⟨i, m1, m2, m3⟩ := h1.len hB
            cases h0 with
            | own hi =>
              rw [hi] at m1; cases m1
              obtain ⟨o', cap', w', k1, k2⟩ := run_append_str (ty := o.type) hE' hu h2 (Mem.atom m3) b hlen
              have hfr := st_front k2 (by have := at_lt m3; simp; omega)
              rw [setAt_app (at_lt m3)] at hfr
              rw [← m2] at hgv
              have hle := KE.le_push e ⟨0, o', (xs ++ bytesI b).length, cap'⟩
              refine ⟨_, _, g2, .value _, _, w', e.push ⟨0, o', (xs ++ bytesI b).length, cap'⟩, _, appT_run ho hgv hx k1, .inl rfl, ⟨hle, (ExtM.set hB (fun T cs hh => by cases hh)).trans (ExtM.push _ _), fun hh => absurd hh (by simp)⟩, .own (i := ⟨0, o', (xs ++ bytesI b).length, cap'⟩) ?_, (h1.set hi .gone).push (.own (t := .int .u8) (E := E) rfl), hfr⟩
              show at' (_ :: e.bs) m.σ.length = _
              rw [h1.lb]; exact at_new
        · cases h
      · rename_i v hs
        cases hn : isNil v with
        | false => rw [hn] at h; cases h
        | true =>
          rw [hn] at h
          simp only [cond_true] at h
          have hv := isNil_eq hn
          subst hv
          obtain ⟨zs, g1, g2⟩ := bind_some h
          obtain ⟨hlen, rfl⟩ := appC_spec g1
          rw [bytesI_len] at hlen
          replace hlen : ([] : List Int).length + b.size ≤ 17592186044416 := by have e : (Inhabited.default : Byt Int).n = 8 := rfl; rw [e] at hlen; omega
          obtain ⟨h0, _⟩ := evS_is h1 k hs
          generalize hgv : ev flv s = gv at h0
          cases h0
          obtain ⟨o', cap', w', k1, k2⟩ := run_append_str (ty := o.type) (xs := []) hE' hu (h2.ownNil tyB E') (j := 0) rfl b hlen
          have hle := KE.le_push e ⟨0, o', (([] : List Int) ++ bytesI b).length, cap'⟩
          refine ⟨_, _, g2, .value _, _, w', e.push ⟨0, o', (([] : List Int) ++ bytesI b).length, cap'⟩, _, appT_run ho hgv hx k1, .inl rfl, ⟨hle, ExtM.push m _, fun _ => ⟨[_], rfl⟩⟩, .own (i := ⟨0, o', (([] : List Int) ++ bytesI b).length, cap'⟩) ?_, h1.push (.own (t := .int .u8) (E := E') rfl), k2⟩
          show at' (_ :: e.bs) m.σ.length = _
          rw [h1.lb]; exact at_new
      · cases h
    · cases h
  · cases h
def lenC {α : Type} (n : Int) (xs : List α) : Option Unit := if n = xs.length then some () else none
theorem lenC_spec {α : Type} {n : Int} {xs : List α} {u : Unit} (h : lenC n xs = some u) : n = xs.length := by
  unfold lenC at h; split at h
  · assumption
  · cases h
def unsX (P : Program) (m : KM) (fl : SFL) (o : Oper) (k : SV → KM → Option ρ) : Option ρ := match o.op with
  | .call { callee := .builtin .unsafeSliceData, args := ⟨[x]⟩, argTypes := ⟨[_]⟩ } => match evS m.σ fl x with
    | some (.own id) => match at' m.σ id with
      | some (.own (.int .u8) _ xs) => (getI xs 0).bind fun _ => k (.oel id (.int .u8) 0 0) m
      | _ => none
    | some (.raw v) => bif isNil v then k (.raw (.pointer none)) m else none
    | _ => none
  | .call { callee := .builtin .unsafeString, args := ⟨[x, y]⟩, argTypes := ⟨[t, _]⟩ } => match evS m.σ fl x, i64S m.σ fl y with
    | some (.oel id (.int .u8) (.ofNat 0) 0), some n => match at' m.σ id, P.underlying t with
      | some (.own (.int .u8) E xs), some (.pointer E') => bif Nat.beq E E' && Nat.beq (P.cellsOf E) 1 then (getI xs 0).bind fun _ => (lenC n xs).bind fun _ => k (.str (strI xs)) ⟨setAt m.σ id .gone, (id, 0) :: m.lg⟩ else none
      | _, _ => none
    | some (.raw v), some n => bif isNilP v then (lenC n ([] : List Int)).bind fun _ => k (.str ByteArray.empty) m else none
    | _, _ => none
  | _ => none
theorem ownP_cap {xs : List Int} {E : TypeId} {cap j : Nat} {a : Addr} {L : List Atom} (hS : St h L w) (hj : L[j]? = some (ownS tyB E (some a) cap xs)) : xs.length ≤ cap := by
  obtain ⟨x, hx, hxw, dx, hset⟩ := hS.focus hj
  have hx' : OwnP tyB E (some a) cap xs h x := hx
  rcases hx' with ⟨h, _⟩ | ⟨g, cur, _, rfl, h1, _⟩
  · cases h
  · exact h1
theorem unsX_ok {m : KM} (h1 : Mem e m.σ As) (h2 : St e.z (As ++ L0) w) (k : FLIs e fl flv) {o : Oper} {K : SV → KM → Option ρ} {r : ρ} (h : unsX P m fl o K = some r) : ∃ s m', K s m' = some r ∧ Out P e As L0 flv o w m s m' := by
  unfold unsX at h
  split at h
  · rename_i x t ho
    split at h
    · rename_i id hs
      split at h
      · rename_i E xs hB
        obtain ⟨y, g1, g2⟩ := bind_some h
        obtain ⟨h0, _⟩ := evS_is h1 k hs
        generalize hgv : ev flv x = gv at h0
        obtain ⟨i, m1, m2, m3⟩ := h1.len hB
        cases h0 with
        | own hi =>
          rw [hi] at m1; cases m1
          obtain ⟨a, ho', _⟩ := h2.ownGet (Mem.atom m3) g1
          obtain ⟨hb, _⟩ := getI_spec g1
          have hA := Mem.atom (L0 := L0) m3
          rw [ho'] at hA
          have hcap := ownP_cap h2 hA
          rw [ho'] at hgv
          refine ⟨_, _, g2, .value _, _, w, e, As, ?_, .inl rfl, .refl, .oel (t := .int .u8) (i := 0) (off := 0) hi ho', h1, h2⟩
          have hr := Lib.run_unsafeSliceData_row (P := P) w #[t] o.type a i.n i.c (by omega)
          have ea : (a.add ((0 : Int).toNat * (TC.int IntKind.u8).size)).add 0 = a := by simp [Addr.add]
          rw [ea]
          simp [execOp, ho, resolve, invoke, builtin, hgv, hr]
      · cases h
    · rename_i v hs
      cases hn : isNil v with
      | false => rw [hn] at h; cases h
      | true =>
        rw [hn] at h
        have hv := isNil_eq hn
        subst hv
        obtain ⟨h0, _⟩ := evS_is h1 k hs
        generalize hgv : ev flv x = gv at h0
        cases h0
        refine ⟨_, _, h, .value _, _, w, e, As, ?_, .inl rfl, .refl, .raw _, h1, h2⟩
        have hr := Lib.run_unsafeSliceData_nil (P := P) w #[t] o.type 0 0
        simp [execOp, ho, resolve, invoke, builtin, hgv, hr]
    · cases h
  · rename_i x y t t2 ho
    split at h
    · rename_i id n hs hn
      split at h
      · rename_i E xs E' hB hu
        cases hb : (Nat.beq E E' && Nat.beq (P.cellsOf E) 1) with
        | false => rw [hb] at h; cases h
        | true =>
          rw [hb] at h
          simp only [Bool.and_eq_true] at hb
          have := Nat.eq_of_beq_eq_true hb.1
          subst this
          obtain ⟨y0, g1, g2⟩ := bind_some h
          obtain ⟨_, g3, g4⟩ := bind_some g2
          have hnl := lenC_spec g3
          obtain ⟨h0, _⟩ := evS_is h1 k hs
          have hy := i64S_is h1 k hn
          generalize hgv : ev flv x = gv at h0
          obtain ⟨i, m1, m2, m3⟩ := h1.len hB
          cases h0 with
          | oel hbi hbo =>
            rename_i bb a
            rw [hbi] at m1; cases m1
            obtain ⟨hbd, _⟩ := getI_spec g1
            obtain ⟨w', k1, k2⟩ := st_unsafe (P := P) (pt := t) (it := t2) (ty := o.type) hu (Nat.eq_of_beq_eq_true hb.2) h2 (Mem.atom m3) hbo (fun e => by subst e; simp at hbd)
            rw [setAt_app (at_lt m3)] at k2
            have ea : (a.add ((Int.ofNat 0).toNat * (TC.int IntKind.u8).size)).add 0 = a := by simp [Addr.add]
            rw [ea] at hgv
            subst hnl
            refine ⟨_, _, g4, .value _, _, w', e, _, ?_, .inl rfl, ⟨.rfl, ExtM.set hB (fun T cs hh => by cases hh), fun hh => absurd hh (by simp)⟩, .str _, h1.set hbi .gone, k2⟩
            simp [execOp, ho, resolve, invoke, builtin, hgv, hy, k1]
      · cases h
    · rename_i v n hs hn
      cases hb : isNilP v with
      | false => rw [hb] at h; cases h
      | true =>
        rw [hb] at h
        obtain ⟨_, g3, g4⟩ := bind_some h
        have hnl : n = 0 := lenC_spec g3
        have hv := isNilP_eq hb
        subst hv hnl
        obtain ⟨h0, _⟩ := evS_is h1 k hs
        have hy := i64S_is h1 k hn
        generalize hgv : ev flv x = gv at h0
        cases h0
        refine ⟨_, _, g4, .value _, _, w, e, As, ?_, .inl rfl, .refl, .str _, h1, h2⟩
        have hr := Lib.run_unsafeString_none (P := P) w t t2 o.type none
        simp [execOp, ho, resolve, invoke, builtin, hgv, hy, hr]
    · cases h
  · cases h
end Go.K
namespace Go.K
open Go.Sl Go.Sx
variable {e e' : KE} {σ : List Blk} {As L0 L : List Atom} {P : Program} {w : World} {N : Nat} {fl : SFL} {flv : FL} {ρ : Type} {h : Zone}
theorem st_turn (s : St h L w) {j r : Nat} {A B : Atom} {o o' : Obj} (hj : L[j]? = some A) (hA : ∀ z, A.P h z → z = Hp.one r o) (hB : B.P h (Hp.one r o')) : w.heap[r]? = some o ∧ St h (L.set j B) { w with heap := w.heap.setIfInBounds r o' } := by
  obtain ⟨x, hx, hxw, _, hset⟩ := s.focus hj
  have hx' := hA x hx
  subst hx'
  have h1 : w.heap[r]? = some o := Hp.one_le.1 hxw
  have h2 := MapKept.heap_set (o' := o') h1
  refine ⟨h1, hset _ _ _ hB (Hp.one_le.2 h2.1) (fun k _ hne => h2.2 k fun e => ?_) (fun k o'' hk => ?_) rfl rfl rfl⟩
  · subst e; simp [Hp.one] at hne
  · right; unfold Hp.one at hk ⊢; split at hk <;> simp_all
def toCV : SV → Option CV
  | .int k n => some (.int k n) | .str s => some (.str s) | .fn f [] [] => some (.fn f) | _ => none
theorem toCV_is {s : SV} {c : CV} {v : Value} (h : toCV s = some c) (k : Is e s v) : v = c.v := by
  unfold toCV at h
  split at h
  · cases h; cases k; rfl
  · cases h; cases k; rfl
  · cases h
    cases k with
    | fn h1 h2 => cases h1; cases h2; rfl
  · cases h
def isKeyC : TypeDesc → CV → Bool
  | .int k, .int k' _ => decide (k' = k)
  | .string, .str _ => true
  | _, _ => false
theorem isKeyC_ok {d : TypeDesc} {c : CV} (h : isKeyC d c = true) : MapKept.IsKey d c.v := by
  unfold isKeyC at h
  split at h
  · simpa [MapKept.IsKey, CV.v] using h
  · trivial
  · cases h
theorem cv_inj {d : TypeDesc} {a b : CV} (ha : isKeyC d a = true) (hb : isKeyC d b = true) (h : a.v = b.v) : a = b := by
  unfold isKeyC at ha hb
  split at ha
  · split at hb
    · simp only [CV.v, Value.int.injEq] at h; rw [h.1, h.2]
    · rename_i he; cases he
    · cases hb
  · split at hb
    · rename_i he; cases he
    · simp only [CV.v, Value.string.injEq] at h; rw [h]
    · cases hb
  · cases ha
def litC : CV → CV → Bool
  | .int k n, .int k' n' => decide (k = k') && decide (n = n')
  | .str s, .str t => s.data.toList == t.data.toList
  | _, _ => true
theorem litC_ok {a b : CV} (h : litC a b = false) : a ≠ b := by
  intro e
  subst e
  cases a <;> simp [litC] at h
theorem find_new {d : TypeDesc} {k : CV} (hk : isKeyC d k = true) : ∀ {es : CMap} (i j : Nat), (es.all fun p => isKeyC d p.1 && !litC p.1 k) = true → Instr.findNow d k.v (centL es i) j = some none
  | [], _, _, _ => rfl
  | (k', v') :: es, i, j, h => by
    simp only [List.all_cons, Bool.and_eq_true, Bool.not_eq_true'] at h
    obtain ⟨⟨h1, h2⟩, h3⟩ := h
    obtain ⟨r, hr, hiff⟩ := MapKept.sameNow_of_keys (isKeyC_ok hk) (isKeyC_ok h1)
    cases r with
    | true => exact absurd (cv_inj hk h1 (hiff.1 rfl)).symm (litC_ok h2)
    | false => simp [centL, Instr.findNow, hr, find_new hk (i + 1) (j + 1) h3]
def mapX (P : Program) (m : KM) (fl : SFL) (o : Oper) (k : SV → KM → Option ρ) : Option ρ := match o.op with
  | .makeMap t none => k (.mp m.σ.length) ⟨.map [] :: m.σ, m.lg⟩
  | .insert t x kx vx => match evS m.σ fl x, (evS m.σ fl kx).bind toCV, (evS m.σ fl vx).bind toCV with
    | some (.mp id), some kc, some vc => match at' m.σ id, P.underlying t with
      | some (.map es), some (.map kt et) => match P.underlying kt with
        | some d => bif isKeyC d kc && es.all (fun p => isKeyC d p.1 && !litC p.1 kc) then k (.raw undef) ⟨setAt m.σ id (.map (es ++ [(kc, vc)])), (id, 0) :: m.lg⟩ else none
        | none => none
      | _, _ => none
    | _, _, _ => none
  | _ => none
theorem mapX_ok {m : KM} (h1 : Mem e m.σ As) (h2 : St e.z (As ++ L0) w) (k : FLIs e fl flv) {o : Oper} {K : SV → KM → Option ρ} {r : ρ} (h : mapX P m fl o K = some r) : ∃ s m', K s m' = some r ∧ Out P e As L0 flv o w m s m' := by
  unfold mapX at h
  split at h
  · rename_i t ho
    have hle := KE.le_push e ⟨w.heap.size, none, 0, 0⟩
    have hn := h2.new (mapC w.heap.size []) (.map #[] 0) rfl
    refine ⟨_, _, h, .value (.map (some w.heap.size)), _, w.alloc (.map #[] 0), e.push ⟨w.heap.size, none, 0, 0⟩, _, ?_, .inl rfl, ⟨hle, ExtM.push m _, fun _ => ⟨[_], rfl⟩⟩, .mp (i := ⟨w.heap.size, none, 0, 0⟩) ?_, h1.push (i := ⟨w.heap.size, none, 0, 0⟩) .map, hn⟩
    · simp [execOp, ho, Instr.makeMap, newObj, Sem.run]
    · show at' (_ :: e.bs) m.σ.length = _
      rw [h1.lb]; exact at_new
  · rename_i t x kx vx ho
    split at h
    · rename_i id kc vc hx hkc hvc
      split at h
      · rename_i es kt et hB hu
        split at h
        · rename_i d hd
          cases hb : (isKeyC d kc && es.all (fun p => isKeyC d p.1 && !litC p.1 kc)) with
          | false => rw [hb] at h; cases h
          | true =>
            rw [hb] at h
            simp only [cond_true] at h
            simp only [Bool.and_eq_true] at hb
            obtain ⟨sk, hk1, hk2⟩ := bind_some hkc
            obtain ⟨sv, hv1, hv2⟩ := bind_some hvc
            have ek := toCV_is hk2 (evS_is h1 k hk1).1
            have ev' := toCV_is hv2 (evS_is h1 k hv1).1
            obtain ⟨h0, _⟩ := evS_is h1 k hx
            generalize hgv : ev flv x = gv at h0
            obtain ⟨i, A, m1, m2, m3⟩ := h1.get hB
            cases h0 with
            | mp hi =>
              rw [hi] at m1; cases m1
              cases m3 with
              | map =>
                obtain ⟨g1, g2⟩ := st_turn h2 (Mem.atom m2) (r := i.b) (o := cobj es) (o' := cobj (es ++ [(kc, vc)])) (B := mapC i.b (es ++ [(kc, vc)])) (fun z hz => hz) rfl
                rw [setAt_app (at_lt m2)] at g2
                have hf := find_new hb.1 0 0 hb.2
                have hlist : ∀ l : List MapEntry, l.toArray.toList = l := fun l => by simp
                have hrun : (Instr.mapUpdate t (.map (some i.b)) kc.v vc.v).run P w = .ok () { w with heap := w.heap.setIfInBounds i.b (cobj (es ++ [(kc, vc)])) } := by
                  have hb2 : w.heap[i.b]? = some (.map (centL es 0).toArray es.length) := g1
                  unfold Instr.mapUpdate
                  simp only [Sem.run_bind, run_underlying hu, Result.andThen_ok, MapKept.run_getObj_map hb2, hlist, MapKept.run_checkKey hd (isKeyC_ok hb.1), MapKept.run_findKey hd hf, MapKept.run_setObj_map _ hb2]
                  have : (centL es 0).toArray.push { key := kc.v, val := vc.v, born := es.length } = (centL (es ++ [(kc, vc)]) 0).toArray := by
                    rw [centL_app]
                    simp
                  rw [this]
                  simp [cobj]
                refine ⟨_, _, h, .skip, undef, _, e, _, ?_, .inr ⟨rfl, rfl⟩, ⟨.rfl, ExtM.set hB (fun T cs hh => by cases hh), fun hh => absurd hh (by simp)⟩, .raw _, h1.set hi .map, g2⟩
                simp [execOp, ho, hgv, ek, ev', hrun]
        · cases h
      · cases h
    · cases h
  · cases h
end Go.K
namespace Go.K
open Go.Sl Go.Sx
variable {e e' : KE} {σ : List Blk} {As L0 L : List Atom} {P : Program} {w : World} {N : Nat} {fl : SFL} {flv : FL} {ρ : Type} {h : Zone} {a : Act} {ds : List Deferred} {R : Array Oper} {mL : List Nat} {S : World → Prop} {K : Act → World → Prop}
def eop (P : Program) (m : KM) (fl : SFL) (o : Oper) (k : SV → KM → Option ρ) : Option ρ := match o.op with
  | .box .. => boxX P m fl o k
  | .alloc .. => boxX P m fl o k
  | .store .. => storeX P m fl o k
  | .makeSlice .. => makeX P m fl o k
  | .buildSlice .. => buildSX P m fl o k
  | .call { callee := .builtin .append, .. } => bif isTxt P o then appTX P m fl o k else appX P m fl o k
  | .makeMap .. => mapX P m fl o k
  | .insert .. => mapX P m fl o k
  | .call { callee := .builtin .unsafeSliceData, .. } => unsX P m fl o k
  | .call { callee := .builtin .unsafeString, .. } => unsX P m fl o k
  | _ => none
theorem eop_ok {m : KM} (h1 : Mem e m.σ As) (h2 : St e.z (As ++ L0) w) (k : FLIs e fl flv) {o : Oper} {K : SV → KM → Option ρ} {r : ρ} (h : eop P m fl o K = some r) : ∃ s m', K s m' = some r ∧ Out P e As L0 flv o w m s m' := by
  unfold eop at h
  split at h
  · exact boxX_ok h1 h2 k h
  · exact boxX_ok h1 h2 k h
  · exact storeX_ok h1 h2 k h
  · exact makeX_ok h1 h2 k h
  · exact buildSX_ok h1 h2 k h
  · cases hb : isTxt P o with
    | true => rw [hb] at h; exact appTX_ok h1 h2 k h
    | false => rw [hb] at h; exact appX_ok h1 h2 k h
  · exact mapX_ok h1 h2 k h
  · exact mapX_ok h1 h2 k h
  · exact unsX_ok h1 h2 k h
  · exact unsX_ok h1 h2 k h
  · cases h
def putS (fl : SFL) : Option Nat → SV → SFL
  | none, _ => fl
  | some d, s => (d, s) :: fl
theorem FLIs.put {s : SV} {v : Value} (k : FLIs e fl flv) (h : Is e s v) (d : Option Nat) : FLIs e (putS fl d s) (putF flv d v) := by
  cases d with
  | none => exact k
  | some d => exact ⟨rfl, h, k⟩
def FX (fl : SFL) (flv : FL) (fl' : SFL) (flv' : FL) : Prop := ∃ d dv, fl' = d ++ fl ∧ flv' = dv ++ flv ∧ d.length = dv.length
theorem FX.refl : FX fl flv fl flv := ⟨[], [], rfl, rfl, rfl⟩
theorem FX.trans {fl1 fl2 : SFL} {flv1 flv2 : FL} : FX fl flv fl1 flv1 → FX fl1 flv1 fl2 flv2 → FX fl flv fl2 flv2 := fun ⟨d, dv, h1, h2, h3⟩ ⟨d', dv', k1, k2, k3⟩ => ⟨d' ++ d, dv' ++ dv, by rw [k1, h1, List.append_assoc], by rw [k2, h2, List.append_assoc], by simp [h3, k3]⟩
theorem FX.put (d : Option Nat) (s : SV) (v : Value) : FX fl flv (putS fl d s) (putF flv d v) := by
  cases d with
  | none => exact .refl
  | some d => exact ⟨[(d, s)], [(d, v)], rfl, rfl, rfl⟩
def knS (fl : SFL) : Operand → Bool
  | .tmp t => (lookS fl t).isSome
  | _ => true
theorem knS_is (k : FLIs e fl flv) {x : Operand} (h : knS fl x = true) : knownX flv x = true := by
  cases x with
  | tmp t =>
    simp only [knS] at h
    cases hl : lookS fl t with
    | none => rw [hl] at h; cases h
    | some s => obtain ⟨v, h1, _⟩ := k.look hl; simp [knownX, h1]
  | _ => rfl
def opsOk (fl : SFL) (o : Oper) : Bool := o.op.operands.toList.all (knS fl) && noSel o
theorem opsOk_is (k : FLIs e fl flv) {o : Oper} (h : opsOk fl o = true) : known flv o = true := by
  simp only [opsOk, Bool.and_eq_true, List.all_eq_true] at h
  simp only [known, Bool.and_eq_true, List.all_eq_true]
  exact ⟨fun x hx => knS_is k (h.1 x hx), h.2⟩
def dstOk (N : Nat) (o : Oper) : Bool := match o.dst with | some d => Nat.blt d N | none => true
def isBoolV : Value → Bool | .bool _ => true | _ => false
def grd (R : Array Oper) (fl : SFL) (o : Oper) (run skip : SFL → Option ρ) : Option ρ := match o.guard with
  | none => run fl
  | some (j, b) => match (R[j]?).bind (·.dst) with
    | none => none
    | some d => match lookS fl d with
      | some (.bool c) => cond c (cond b (run ((d, .bool true) :: fl)) (skip ((d, .bool true) :: fl))) (cond b (skip ((d, .bool false) :: fl)) (run ((d, .bool false) :: fl)))
      | some (.raw v) => bif isBoolV v then none else skip fl
      | _ => none
theorem grd_ok (hf : Fr a N flv ds) (k : FLIs e fl flv) {o : Oper} {run skip : SFL → Option ρ} {r : ρ} (h : grd R fl o run skip = some r) :
    ∃ fl' flv', FX fl flv fl' flv' ∧ Fr a N flv' ds ∧ FLIs e fl' flv' ∧ ((wantedF R flv' o = some true ∧ run fl' = some r) ∨ (wantedF R flv' o = some false ∧ skip fl' = some r)) := by
  unfold grd at h
  unfold wantedF
  cases hg : o.guard with
  | none => rw [hg] at h; exact ⟨fl, flv, .refl, hf, k, .inl ⟨rfl, h⟩⟩
  | some g =>
    obtain ⟨j, b⟩ := g
    rw [hg] at h
    simp only at h ⊢
    cases hd : (R[j]?).bind (·.dst) with
    | none => rw [hd] at h; cases h
    | some d =>
      rw [hd] at h
      simp only at h ⊢
      split at h
      · rename_i c hl
        obtain ⟨v, h1, h2⟩ := k.look hl
        cases h2
        have hfx : FX fl flv ((d, .bool c) :: fl) ((d, .bool c) :: flv) := FX.put (some d) (.bool c) (.bool c)
        have hfr : Fr a N ((d, .bool c) :: flv) ds := ⟨hf.size, hf.defers, fun t u hh => by
          simp only [Sx.look] at hh
          cases hb : Nat.beq d t with
          | true => rw [hb] at hh; have := Nat.eq_of_beq_eq_true hb; subst this; cases hh; exact hf.look _ _ h1
          | false => rw [hb] at hh; exact hf.look _ _ hh⟩
        have hk : FLIs e ((d, .bool c) :: fl) ((d, .bool c) :: flv) := ⟨rfl, .bool c, k⟩
        have hlk : Sx.look ((d, .bool c) :: flv) d = some (.bool c) := by simp [Sx.look]
        refine ⟨_, _, hfx, hfr, hk, ?_⟩
        rw [hlk]
        cases c <;> cases b <;> simp only [cond_true, cond_false] at h <;> first | exact .inl ⟨rfl, h⟩ | exact .inr ⟨rfl, h⟩
      · rename_i v hl
        obtain ⟨u, h1, h2⟩ := k.look hl
        cases hb : isBoolV v with
        | true => rw [hb] at h; cases h
        | false =>
          rw [hb] at h
          cases h2
          refine ⟨fl, flv, .refl, hf, k, .inr ⟨?_, h⟩⟩
          rw [h1]
          cases v <;> first | rfl | simp [isBoolV] at hb
      · cases h
end Go.K
namespace Go.K
open Go.Sl Go.Sx
variable {e e' : KE} {σ : List Blk} {As L0 L : List Atom} {P : Program} {w : World} {N : Nat} {fl : SFL} {flv : FL} {ρ : Type} {h : Zone} {a : Act} {ds : List Deferred} {R : Array Oper} {mL : List Nat} {S : World → Prop} {K : Act → World → Prop}
inductive CR where
  | val (s : SV) | pan (s : SV)
abbrev CallF (ρ : Type) := FuncId → List SV → KM → (CR → KM → Option ρ) → Option ρ
abbrev pch (v : Value) : List PanicEntry := [{ v := v, recovered := false }]
def CallEnd (e : KE) : CR → Ending → Prop
  | .val s, en => ∃ v, en = .returned v ∧ Is e s v
  | .pan s, en => ∃ v, en = .panicked (pch v) ∧ Is e s v
def CallR {ρ : Type} (L0 : List Atom) (e : KE) (As : List Atom) (m : KM) (k : CR → KM → Option ρ) (r : ρ) (en : Ending) (w' : World) : Prop :=
  ∃ c m' e' As', k c m' = some r ∧ CallEnd e' c en ∧ Go1 e As m e' As' m' ∧ Mem e' m'.σ As' ∧ St e'.z (As' ++ L0) w'
def CallOk (P : Program) (L0 : List Atom) (call : CallF ρ) : Prop := ∀ {g : FuncId} {args : List SV} {vs : List Value} {m : KM} {e : KE} {As : List Atom} {w : World} {k : CR → KM → Option ρ} {r : ρ},
  call g args m k = some r → Mem e m.σ As → St e.z (As ++ L0) w → IsL e args vs → Calls P g vs.toArray w (CallR L0 e As m k r)
def callOK (P : Program) (g : FuncId) : Bool := match P.funcs[g]? with
  | some fn => !(fn.name == "runtime.NumGoroutine") && fn.body.isSome
  | none => false
def callOp (P : Program) (σ : List Blk) (fl : SFL) (o : Oper) : Option (FuncId × List SV) := match o.op with
  | .call { callee := .value f, args, .. } => match evS σ fl f, evL σ fl args.toList with
    | some (.fn g x c), some l => bif callOK P g then some (g, x ++ l ++ c) else none
    | _, _ => none
  | _ => none
theorem callOp_ok (m : Mem e σ As) (k : FLIs e fl flv) {o : Oper} {g : FuncId} {args : List SV} (h : callOp P σ fl o = some (g, args)) : ∃ vs, IsL e args vs ∧ (execOp (ev flv) o).run P w = .ok (.enter g vs.toArray) w := by
  unfold callOp at h
  split at h
  · rename_i f az ts ho
    split at h
    · rename_i g' x c l hf hl
      cases hb : callOK P g' with
      | false => rw [hb] at h; cases h
      | true =>
        rw [hb] at h
        simp only [cond_true, Option.some.injEq, Prod.mk.injEq] at h
        obtain ⟨rfl, rfl⟩ := h
        obtain ⟨h0, _⟩ := evS_is m k hf
        have hl' := evL_is m k hl
        generalize hgv : ev flv f = gv at h0
        unfold callOK at hb
        split at hb
        · rename_i fn hfn
          simp only [Bool.and_eq_true, Bool.not_eq_true'] at hb
          have hbody : fn.body.isNone = false := by cases hx : fn.body <;> simp_all
          cases h0 with
          | fn hx hc =>
            rename_i vs us
            refine ⟨_, (hx.app hl').app hc, ?_⟩
            have hargs : (vs.toArray ++ az.map (ev flv)) ++ us.toArray = (vs ++ List.map (ev flv) az.toList ++ us).toArray := by
              apply Array.ext'; simp
            have hn : ¬ fn.name = "runtime.NumGoroutine" := by simpa using hb.1
            have hnb : ¬ fn.body = none := fun e => by simp [e] at hbody
            simp [execOp, ho, resolve, hgv, Deferred.ofValue, invoke, callFunc, hfn, hn, hnb]
        · cases hb
    · cases h
  · cases h
def nilCall (σ : List Blk) (fl : SFL) (o : Oper) : Bool := match o.op with
  | .call { callee := .value f, .. } => (match evS σ fl f with
    | some (.raw .nilFunc) => true
    | _ => false)
  | _ => false
def isNf (σ : List Blk) (fl : SFL) (o : Oper) : Bool := match o.op with
  | .load _ x => (match evS σ fl x with
    | some (.oel _ u _ _) => !u.flat
    | _ => false)
  | _ => false
def ldN (P : Program) (m : KM) (fl : SFL) (o : Oper) (k : SV → KM → Option ρ) : Option ρ := match o.op with
  | .load t x => match evS m.σ fl x with
    | some (.oel id u i off) => match at' m.σ id with
      | some (.own u' E xs) => if u' = u then (getI xs i).bind fun y => match ld P t (u'.exp y) off with
          | some v => k v m
          | none => none
        else none
      | _ => none
    | _ => none
  | _ => none
theorem ldN_ok {m : KM} (h1 : Mem e m.σ As) (h2 : St e.z (As ++ L0) w) (k : FLIs e fl flv) {o : Oper} {K : SV → KM → Option ρ} {r : ρ} (h : ldN P m fl o K = some r) : ∃ s v, K s m = some r ∧ Is e s v ∧ (execOp (ev flv) o).run P w = .ok (.value v) w := by
  unfold ldN at h
  split at h
  · rename_i t x ho
    split at h
    · rename_i id u i off hs
      obtain ⟨h0, _⟩ := evS_is h1 k hs
      generalize hgv : ev flv x = gv at h0
      split at h
      · rename_i u' E xs hB
        split at h
        · rename_i hu
          obtain ⟨y, g1, g2⟩ := bind_some h
          split at g2
          · rename_i v hv
            subst hu
            obtain ⟨bi, A, m1, m2, m3⟩ := h1.get hB
            cases m3 with
            | own hn =>
              cases h0 with
              | oel hb ho' =>
                rename_i bb a
                rw [hb] at m1; cases m1
                obtain ⟨a', e1, _, cs, h3, h4⟩ := h2.ownGet (Mem.atom m2) g1
                rw [ho'] at e1
                cases e1
                obtain ⟨q, k1, k2⟩ := ld_run hv (exp_is u' h3) (a.add (i.toNat * u'.size))
                rw [u'.size_eq] at h4
                exact ⟨v, q, g2, k1, load_run ho hgv (k2 w fun j u hj => h4 j u hj)⟩
          · cases g2
        · cases h
      · cases h
    · cases h
  · cases h
noncomputable def opX (P : Program) (call : CallF ρ) (fl : SFL) (m : KM) (o : Oper) (k kp : SV → KM → Option ρ) : Option ρ :=
  bif isNf m.σ fl o then ldN P m fl o k else bif isQ o then qop P m.σ fl o (fun s => k s m) else match o.op with
    | .panic x => match evS m.σ fl x with
      | some (.ifc T s) => kp (.ifc T s) m
      | _ => none
    | _ => match callOp P m.σ fl o with
      | some (g, args) => call g args m (fun c m' => match c with
        | .val s => k s m'
        | .pan s => kp s m')
      | none => bif nilCall m.σ fl o then outI else eop P m fl o k
theorem isLd_wm {W : World → Prop} (h : ∀ w, W w → WM e As L0 w) {o : Oper} : isLd o = true → ∀ w, W w → WM e As L0 w := fun _ => h
theorem p_enter2 {ε : Px} {pl : List (Nat × Bool)} {i : Nat} {o : Oper} {f : FuncId} {args : Array Value} (hf : Fr a N flv ds) (ho : opAt R N pl flv = some (i, o)) (hrun : (execOp (ev flv) o).run P w = .ok (.enter f args) w)
    (hc : Calls P f args w fun en w' => (∃ v, en = .returned v ∧ ∀ a', Fr a' N (putF flv o.dst v) ds → (mL.contains i = false → S w') ∧ wpPlan ε P R mL S K pl.tail a' w') ∨ (∃ ch, en = .panicked ch ∧ ε ch a w')) : wpPlan ε P R mL S K pl a w := by
  obtain ⟨rest, rfl, hR, hw, hk, hd⟩ := opAt_spec ho
  show wpOp P R (pex ε) i (fun a' w' => (mL.contains i = false → S w') ∧ wpPlan ε P R mL S K rest a' w') a w
  unfold wpOp
  simp only [hR, wantedF_sound hf hw, if_true]
  refine .inl ?_
  unfold Oper.wp
  rw [hf.exec hk, hrun]
  refine Calls.mono hc ?_
  rintro en w' (⟨v, rfl, h⟩ | ⟨ch, rfl, h⟩)
  · exact h _ (hf.put hd v)
  · exact h
theorem p_panic2 {ε : Px} {pl : List (Nat × Bool)} {i : Nat} {o : Oper} {v : Value} (hf : Fr a N flv ds) (ho : opAt R N pl flv = some (i, o)) (hrun : (execOp (ev flv) o).run P w = .halt (.panic v) w)
    (hc : ε (pch v) a w) : wpPlan ε P R mL S K pl a w := by
  obtain ⟨rest, rfl, hR, hw, hk, hd⟩ := opAt_spec ho
  show wpOp P R (pex ε) i (fun a' w' => (mL.contains i = false → S w') ∧ wpPlan ε P R mL S K rest a' w') a w
  unfold wpOp
  simp only [hR, wantedF_sound hf hw, if_true]
  refine .inl ?_
  unfold Oper.wp
  rw [hf.exec hk, hrun]
  exact hc
theorem opX_ok {ε : Px} {call : CallF ρ} (hc : CallOk P L0 call) {m : KM} (hf : Fr a N flv ds) (k : FLIs e fl flv) (h1 : Mem e m.σ As) (h2 : St e.z (As ++ L0) w) {i : Nat} {o : Oper} (hR : R[i]? = some o) (hw : wantedF R flv o = some true)
    (hd : dstOk N o = true) (ho : opsOk fl o = true) {rest : List (Nat × Bool)} {Kx Kp : SV → KM → Option ρ} {r : ρ} (h : opX P call fl m o Kx Kp = some r)
    (hk : ∀ s v m' e' As' w' a', Kx s m' = some r → Go1 e As m e' As' m' → Is e' s v → Mem e' m'.σ As' → St e'.z (As' ++ L0) w' → Fr a' N (putF flv o.dst v) ds → (mL.contains i = false → S w') ∧ wpPlan ε P R mL S K rest a' w')
    (hp : ∀ s v m' e' As' w', Kp s m' = some r → Go1 e As m e' As' m' → Is e' s v → Mem e' m'.σ As' → St e'.z (As' ++ L0) w' → ε (pch v) a w') :
    wpPlan ε P R mL S K ((i, false) :: rest) a w := by
  have hop : opAt R N ((i, false) :: rest) flv = some (i, o) := by
    have hkn := opsOk_is k ho
    unfold opAt
    simp only [hR, hw, hkn]
    unfold dstOk at hd
    cases hdst : o.dst with
    | none => rfl
    | some d => rw [hdst] at hd; simp only at hd ⊢; rw [hd]; rfl
  have hwm : WM e As L0 w := ⟨e.z, Zone.le_refl _, h2⟩
  unfold opX at h
  cases hnf : isNf m.σ fl o with
  | true =>
    rw [hnf] at h
    obtain ⟨s, v, g1, g2, g3⟩ := ldN_ok h1 h2 k h
    exact p_val hf hop g3 fun a' hf' => hk s v m e As w a' g1 .refl g2 h1 h2 hf'
  | false =>
  rw [hnf] at h
  simp only [cond_false] at h
  cases hq : isQ o with
  | true =>
    rw [hq] at h
    obtain ⟨s, g1, v, g2, g3⟩ := qop_ok (W := WM e As L0) h1 k hwm (isLd_wm fun w h => h) h
    exact p_val hf hop (g3 w hwm) fun a' hf' => hk s v m e As w a' g1 .refl g2 h1 h2 hf'
  | false =>
    rw [hq] at h
    simp only [cond_false] at h
    split at h
    · rename_i x hox
      split at h
      · rename_i T s hs
        obtain ⟨h0, _⟩ := evS_is h1 k hs
        generalize hgv : ev flv x = gv at h0
        have h0' := h0
        cases h0 with
        | ifc hv =>
          refine p_panic2 hf hop ?_ (hp _ _ m e As w h .refl h0' h1 h2)
          simp only [execOp, hox, hgv]; rfl
      · cases h
    · split at h
      · rename_i g args hcl
        obtain ⟨vs, g1, g2⟩ := callOp_ok (w := w) h1 k hcl
        refine p_enter2 hf hop g2 (Calls.mono (hc h h1 h2 g1) ?_)
        rintro en w' ⟨c, m', e', As', k1, k2, k3, k4, k5⟩
        cases c with
        | val s => obtain ⟨v, rfl, hv⟩ := k2; exact .inl ⟨v, rfl, fun a' hf' => hk s v m' e' As' w' a' k1 k3 hv k4 k5 hf'⟩
        | pan s => obtain ⟨v, rfl, hv⟩ := k2; exact .inr ⟨_, rfl, hp s v m' e' As' w' k1 k3 hv k4 k5⟩
      · cases hnc : nilCall m.σ fl o with
        | true => rw [hnc] at h; simp [outI] at h
        | false =>
        rw [hnc] at h
        simp only [cond_false] at h
        obtain ⟨s, m', g1, n, v, w', e', As', g2, g3, g4, g5, g6, g7⟩ := eop_ok h1 h2 k h
        rcases g3 with rfl | ⟨rfl, rfl⟩
        · exact p_val hf hop g2 fun a' hf' => hk s v m' e' As' w' a' g1 g4 g5 g6 g7 hf'
        · exact p_skip hf hop g2 fun a' hf' => hk s undef m' e' As' w' a' g1 g4 g5 g6 g7 hf'
noncomputable def seqX (P : Program) (call : CallF ρ) (R : Array Oper) (N : Nat) (kp : SFL → SV → KM → Option ρ) : List Nat → SFL → KM → (SFL → KM → Option ρ) → Option ρ
  | [], fl, m, k => k fl m
  | i :: is, fl, m, k => match R[i]? with
    | none => none
    | some o => bif dstOk N o then grd R fl o (fun fl => bif opsOk fl o then opX P call fl m o (fun s m' => seqX P call R N kp is (putS fl o.dst s) m' k) (kp fl) else none) (fun fl => seqX P call R N kp is (putS fl o.dst (.raw undef)) m k) else none
theorem seqX_ok {ε : Px} {call : CallF ρ} {kp : SFL → SV → KM → Option ρ} (hc : CallOk P L0 call) : ∀ (is : List Nat) {fl : SFL} {flv : FL} {m : KM} {e : KE} {As : List Atom} {a : Act} {w : World} {k : SFL → KM → Option ρ} {r : ρ},
    seqX P call R N kp is fl m k = some r → Fr a N flv ds → FLIs e fl flv → Mem e m.σ As → St e.z (As ++ L0) w →
    (∀ fl' flv' m' e' As' a' w', k fl' m' = some r → FX fl flv fl' flv' → Go1 e As m e' As' m' → Fr a' N flv' ds → FLIs e' fl' flv' → Mem e' m'.σ As' → St e'.z (As' ++ L0) w' → K a' w') →
    (∀ s v fl' flv' m' e' As' a' w', kp fl' s m' = some r → FX fl flv fl' flv' → Go1 e As m e' As' m' → Fr a' N flv' ds → FLIs e' fl' flv' → Is e' s v → Mem e' m'.σ As' → St e'.z (As' ++ L0) w' → ε (pch v) a' w') →
    wpPlan ε P R [] (fun _ => True) K (is.map fun i => (i, false)) a w
  | [], fl, flv, m, e, As, a, w, k, r, h, hf, hl, h1, h2, hk, hp => hk fl flv m e As a w h .refl .refl hf hl h1 h2
  | i :: is, fl, flv, m, e, As, a, w, k, r, h, hf, hl, h1, h2, hk, hp => by
    simp only [seqX] at h
    cases hR : R[i]? with
    | none => rw [hR] at h; cases h
    | some o =>
      rw [hR] at h
      simp only at h
      cases hd : dstOk N o with
      | false => rw [hd] at h; cases h
      | true =>
        rw [hd] at h
        simp only [cond_true] at h
        obtain ⟨fl1, flv1, fx, hf1, hl1, hor⟩ := grd_ok hf hl h
        rcases hor with ⟨hw, hrun⟩ | ⟨hw, hrun⟩
        · cases ho : opsOk fl1 o with
          | false => rw [ho] at hrun; cases hrun
          | true =>
            rw [ho] at hrun
            simp only [cond_true] at hrun
            refine opX_ok hc hf1 hl1 h1 h2 hR hw hd ho hrun (fun s v m' e' As' w' a' g1 g2 g3 g4 g5 g6 => ⟨fun _ => trivial, ?_⟩) (fun s v m' e' As' w' g1 g2 g3 g4 g5 => hp s v fl1 flv1 m' e' As' a w' g1 fx g2 hf1 (hl1.mono g2.le) g3 g4 g5)
            exact seqX_ok hc is g1 g6 ((hl1.mono g2.le).put g3 o.dst) g4 g5 (fun fl2 flv2 m2 e2 As2 a2 w2 q1 q2 q3 => hk fl2 flv2 m2 e2 As2 a2 w2 q1 (fx.trans ((FX.put o.dst s v).trans q2)) (g2.trans q3))
              (fun s2 v2 fl2 flv2 m2 e2 As2 a2 w2 q1 q2 q3 => hp s2 v2 fl2 flv2 m2 e2 As2 a2 w2 q1 (fx.trans ((FX.put o.dst s v).trans q2)) (g2.trans q3))
        · show wpOp P R _ i (fun a' w' => (([] : List Nat).contains i = false → True) ∧ wpPlan ε P R [] (fun _ => True) K (is.map fun i => (i, false)) a' w') a w
          unfold wpOp
          simp only [hR, wantedF_sound hf1 hw, Bool.false_eq_true, if_false]
          refine ⟨fun _ => trivial, ?_⟩
          exact seqX_ok hc is hrun (hf1.put hd undef) (hl1.put (.raw undef) o.dst) h1 h2 (fun fl2 flv2 m2 e2 As2 a2 w2 q1 q2 q3 => hk fl2 flv2 m2 e2 As2 a2 w2 q1 (fx.trans ((FX.put o.dst (.raw undef) undef).trans q2)) q3)
            (fun s2 v2 fl2 flv2 m2 e2 As2 a2 w2 q1 q2 q3 => hp s2 v2 fl2 flv2 m2 e2 As2 a2 w2 q1 (fx.trans ((FX.put o.dst (.raw undef) undef).trans q2)) q3)
end Go.K
namespace Go.K
open Go.Sl Go.Sx
variable {e e' e0 : KE} {σ : List Blk} {As As0 L0 L : List Atom} {P : Program} {w : World} {N : Nat} {fl : SFL} {flv : FL} {ρ : Type} {h : Zone} {a : Act} {ds : List Deferred} {R : Array Oper} {mL : List Nat} {S : World → Prop} {K : Act → World → Prop}
def isWr (calls : Bool) (pu : List Nat) (o : Oper) : Bool := match o.op with
  | .store .. => true
  | .call { callee := .value (.func f), .. } => calls && !pu.contains f
  | .call { callee := .value _, .. } => calls
  | .call { callee := .builtin .unsafeSliceData, .. } => false
  | .call { callee := .builtin .len, .. } => false
  | .call { callee := .builtin .min, .. } => false
  | .call { callee := .builtin .max, .. } => false
  | .call _ => true
  | .mapUpdate .. => true
  | .insert .. => true
  | .mapEntry .. => true
  | .entryStore .. => true
  | .next .. => true
  | _ => false
def lateOf (calls : Bool) (pu : List Nat) (R : Array Oper) : List Nat :=
  let W := (List.range R.size).filter fun i => match R[i]? with | some o => isWr calls pu o | none => false
  bif W.isEmpty then [] else (List.range R.size).filter fun j => W.contains j || (aheadL .any R j).any (W.contains ·)
inductive PT where
  | nil | fr (i : Nat) (t : PT) | one (i : Nat) (t : PT) | two (i : Nat) (t : PT) (j : Nat) (u : PT) | three (i : Nat) (t : PT) (j : Nat) (u : PT) (l : Nat) (v : PT)
def planG (R : Array Oper) (mL : List Nat) : Nat → Array Bool → PT
  | 0, _ => .nil
  | n + 1, listed =>
    let rd := Region.ready .any R listed
    match rd.find? (fun i => Region.free .any R listed i && (!mL.contains i && (match R[i]? with | some o => isQ o && (!isLd o || lateB .any R mL i) | none => false))) with
    | some i => .fr i (planG R mL n (listed.setIfInBounds i true))
    | none => match rd with
      | [i] => .one i (planG R mL n (listed.setIfInBounds i true))
      | [i, j] => .two i (planG R mL n (listed.setIfInBounds i true)) j (planG R mL n (listed.setIfInBounds j true))
      | [i, j, l] => .three i (planG R mL n (listed.setIfInBounds i true)) j (planG R mL n (listed.setIfInBounds j true)) l (planG R mL n (listed.setIfInBounds l true))
      | _ => .nil
def normT (ops : Array Oper) (m : List Nat) : Nat → PT → Array Bool → Bool
  | 0, .nil, listed => (Region.ready .any ops listed).isEmpty
  | n + 1, .fr i t, listed => (Region.ready .any ops listed).contains i && Region.free .any ops listed i && !m.contains i && normT ops m n t (listed.setIfInBounds i true)
  | n + 1, .one i t, listed => (match Region.ready .any ops listed with | [j] => Nat.beq i j | _ => false) && normT ops m n t (listed.setIfInBounds i true)
  | n + 1, .two i t j u, listed => (match Region.ready .any ops listed with | [a, b] => Nat.beq i a && Nat.beq j b | _ => false) && (normT ops m n t (listed.setIfInBounds i true) && normT ops m n u (listed.setIfInBounds j true))
  | n + 1, .three i t j u l v, listed => (match Region.ready .any ops listed with | [a, b, c] => Nat.beq i a && (Nat.beq j b && Nat.beq l c) | _ => false) && (normT ops m n t (listed.setIfInBounds i true) && (normT ops m n u (listed.setIfInBounds j true) && normT ops m n v (listed.setIfInBounds l true)))
  | _, _, _ => false
def drawT (c : Code) (pl : PT) (m : List Nat) : Bool :=
  (isReg true c && noDefer (cops c)) && (Region.noSelect (cops c) && normT (cops c) m (cops c).size pl (Array.replicate (cops c).size false))
def wpPlanS (ε : Px) (P : Program) (ops : Array Oper) (m : List Nat) (K : Act → World → Prop) : PT → Bool → (World → Prop) → Act → World → Prop
  | .nil, _, _, a, w => K a w
  | .fr i rest, q, S, a, w => ∃ o v, ops[i]? = some o ∧ ((YieldsIf P ops S o v a ∧ S w ∧ lateB .any ops m i = true) ∨ YieldsIf P ops (fun _ => True) o v a) ∧ wpPlanS ε P ops m K rest q S (a.put o.dst v) w
  | .one i rest, q, S, a, w => wpOp P ops (pex ε) i (fun a' w' => ∃ S2 : World → Prop, (∀ w, S2 w → S w) ∧ (q = true → m.contains i = false → S2 w') ∧ wpPlanS ε P ops m K rest (q && !m.contains i) S2 a' w') a w
  | .two i t j u, q, S, a, w => wpOp P ops (pex ε) i (fun a' w' => ∃ S2 : World → Prop, (∀ w, S2 w → S w) ∧ (q = true → m.contains i = false → S2 w') ∧ wpPlanS ε P ops m K t (q && !m.contains i) S2 a' w') a w ∧
    wpOp P ops (pex ε) j (fun a' w' => ∃ S2 : World → Prop, (∀ w, S2 w → S w) ∧ (q = true → m.contains j = false → S2 w') ∧ wpPlanS ε P ops m K u (q && !m.contains j) S2 a' w') a w
  | .three i t j u l v, q, S, a, w => wpOp P ops (pex ε) i (fun a' w' => ∃ S2 : World → Prop, (∀ w, S2 w → S w) ∧ (q = true → m.contains i = false → S2 w') ∧ wpPlanS ε P ops m K t (q && !m.contains i) S2 a' w') a w ∧
    (wpOp P ops (pex ε) j (fun a' w' => ∃ S2 : World → Prop, (∀ w, S2 w → S w) ∧ (q = true → m.contains j = false → S2 w') ∧ wpPlanS ε P ops m K u (q && !m.contains j) S2 a' w') a w ∧
    wpOp P ops (pex ε) l (fun a' w' => ∃ S2 : World → Prop, (∀ w, S2 w → S w) ∧ (q = true → m.contains l = false → S2 w') ∧ wpPlanS ε P ops m K v (q && !m.contains l) S2 a' w') a w)
theorem wpAnyK_sub {P : Program} {md : Region.Mode} {ops : Array Oper} {Q : Exit → Act → World → Prop} {m : List Nat} {S S2 : World → Prop} (hs : ∀ w, S2 w → S w) : ∀ (fuel : Nat) (listed : Array Bool) (a : Act) (w : World), wpAnyK P md ops Q m S2 fuel listed a w → wpAnyK P md ops Q m S fuel listed a w
  | 0, _, _, _, h => h
  | fuel + 1, _, _, _, h => ⟨h.1, fun i hi => wpOp_mono (fun a' w' h' => ⟨fun hn => hs _ (h'.1 hn), wpAnyK_sub hs fuel _ a' w' h'.2⟩) (h.2 i hi)⟩
theorem wpAnyK_planS {ε : Px} {P : Program} {ops : Array Oper} {K : Act → World → Prop} {m : List Nat} (hs : Region.noSelect ops = true) (hε : PxOK ops ε) :
    ∀ (n : Nat) (pl : PT) (q : Bool) (S : World → Prop) (listed : Array Bool) (a : Act) (w : World), Closed .any ops listed → listed.size = ops.size → (noLate m listed → S w) → (noLate m listed → q = true) → normT ops m n pl listed = true → wpPlanS ε P ops m K pl q S a w →
      wpAnyK P .any ops (qK ε K) m S n listed a w
  | 0, .nil, q, S, listed, a, w, _, _, _, _, hB, h => ⟨by simpa [normT] using hB, h⟩
  | n + 1, .fr i rest, q, S, listed, a, w, hcl, hsz, h0, hq, hB, h => by
    simp only [normT, Bool.and_eq_true] at hB
    obtain ⟨⟨⟨hr, hf⟩, him⟩, hB'⟩ := hB
    have hr' : i ∈ Region.ready .any ops listed := by simpa using hr
    have him' : i ∉ m := by simpa using him
    obtain ⟨o, v, hi, hy, hrest⟩ := h
    have hrec := wpAnyK_planS hs hε n rest q S _ _ _ (hcl.set hr') (by simp [hsz]) (fun h => h0 h.unset) (fun h => hq h.unset) hB' hrest
    rcases hy with ⟨hy, hS, hl⟩ | hy
    · exact wpAnyK_first hl hi (Region.noSelect_spec hs) (fun c a w h => hε i o v c a w hi h) n listed a w hcl hsz (Region.free_spec hi hf) hr' hy hS hrec
    · exact wpAnyK_firstP him' hi (Region.noSelect_spec hs) (fun c a w h => hε i o v c a w hi h) n listed a w (Region.free_spec hi hf) hr' hy h0 hrec
  | n + 1, .one i rest, q, S, listed, a, w, hcl, hsz, h0, hq, hB, h => by
    simp only [normT, Bool.and_eq_true] at hB
    obtain ⟨hr, hB'⟩ := hB
    have hready : Region.ready .any ops listed = [i] := by
      split at hr
      · rename_i j hj; have := Nat.eq_of_beq_eq_true hr; subst this; exact hj
      · cases hr
    refine ⟨fun h0 => (by rw [hready] at h0; cases h0), fun j hj => ?_⟩
    have hj0 := hj
    rw [hready] at hj
    simp only [List.mem_singleton] at hj
    subst hj
    have h2 := wpOp_post (Q' := qK ε K) pex_qK (show wpOp P ops (pex ε) j _ a w from h)
    refine wpOp_mono (fun a' w' h3 => ?_) h2
    obtain ⟨S2, hsub, h4, h5⟩ := h3
    have hni : noLate m (listed.setIfInBounds j true) → m.contains j = false := fun hn => by
      have := hn.not_mem (unlisted_lt (mem_ready.1 hj0).1)
      simpa using this
    have hS' : noLate m (listed.setIfInBounds j true) → S2 w' := fun hn => h4 (hq hn.unset) (hni hn)
    exact ⟨fun hn => hsub _ (hS' hn), wpAnyK_sub hsub _ _ _ _ (wpAnyK_planS hs hε n rest _ S2 _ _ _ (hcl.set hj0) (by simp [hsz]) hS' (fun hn => by rw [hq hn.unset, hni hn]; rfl) hB' h5)⟩
  | n + 1, .two i t j u, q, S, listed, a, w, hcl, hsz, h0, hq, hB, h => by
    simp only [normT, Bool.and_eq_true] at hB
    obtain ⟨hr, hBt, hBu⟩ := hB
    have hready : Region.ready .any ops listed = [i, j] := by
      split at hr
      · rename_i a b hj
        simp only [Bool.and_eq_true] at hr
        have h1 := Nat.eq_of_beq_eq_true hr.1
        have h2 := Nat.eq_of_beq_eq_true hr.2
        subst h1 h2; exact hj
      · cases hr
    refine ⟨fun h0 => (by rw [hready] at h0; cases h0), fun k hk => ?_⟩
    have hk0 := hk
    rw [hready] at hk
    have key : ∀ (t : PT), k = k → normT ops m n t (listed.setIfInBounds k true) = true → wpOp P ops (pex ε) k (fun a' w' => ∃ S2 : World → Prop, (∀ w, S2 w → S w) ∧ (q = true → m.contains k = false → S2 w') ∧ wpPlanS ε P ops m K t (q && !m.contains k) S2 a' w') a w →
        wpOp P ops (qK ε K) k (fun a' w' => (noLate m (listed.setIfInBounds k true) → S w') ∧ wpAnyK P .any ops (qK ε K) m S n (listed.setIfInBounds k true) a' w') a w := by
      intro t _ hBt h
      have h2 := wpOp_post (Q' := qK ε K) pex_qK h
      refine wpOp_mono (fun a' w' h3 => ?_) h2
      obtain ⟨S2, hsub, h4, h5⟩ := h3
      have hni : noLate m (listed.setIfInBounds k true) → m.contains k = false := fun hn => by
        have := hn.not_mem (unlisted_lt (mem_ready.1 hk0).1)
        simpa using this
      have hS' : noLate m (listed.setIfInBounds k true) → S2 w' := fun hn => h4 (hq hn.unset) (hni hn)
      exact ⟨fun hn => hsub _ (hS' hn), wpAnyK_sub hsub _ _ _ _ (wpAnyK_planS hs hε n t _ S2 _ _ _ (hcl.set hk0) (by simp [hsz]) hS' (fun hn => by rw [hq hn.unset, hni hn]; rfl) hBt h5)⟩
    simp only [List.mem_cons, List.not_mem_nil, or_false] at hk
    rcases hk with rfl | rfl
    · exact key t rfl hBt h.1
    · exact key u rfl hBu h.2
  | n + 1, .three i t j u l v, q, S, listed, a, w, hcl, hsz, h0, hq, hB, h => by
    simp only [normT, Bool.and_eq_true] at hB
    obtain ⟨hr, hBt, hBu, hBv⟩ := hB
    have hready : Region.ready .any ops listed = [i, j, l] := by
      split at hr
      · rename_i a b c hj
        simp only [Bool.and_eq_true] at hr
        have h1 := Nat.eq_of_beq_eq_true hr.1
        have h2 := Nat.eq_of_beq_eq_true hr.2.1
        have h3 := Nat.eq_of_beq_eq_true hr.2.2
        subst h1 h2 h3; exact hj
      · cases hr
    refine ⟨fun h0 => (by rw [hready] at h0; cases h0), fun k hk => ?_⟩
    have hk0 := hk
    rw [hready] at hk
    have key : ∀ (t : PT), k = k → normT ops m n t (listed.setIfInBounds k true) = true → wpOp P ops (pex ε) k (fun a' w' => ∃ S2 : World → Prop, (∀ w, S2 w → S w) ∧ (q = true → m.contains k = false → S2 w') ∧ wpPlanS ε P ops m K t (q && !m.contains k) S2 a' w') a w →
        wpOp P ops (qK ε K) k (fun a' w' => (noLate m (listed.setIfInBounds k true) → S w') ∧ wpAnyK P .any ops (qK ε K) m S n (listed.setIfInBounds k true) a' w') a w := by
      intro t _ hBt h
      have h2 := wpOp_post (Q' := qK ε K) pex_qK h
      refine wpOp_mono (fun a' w' h3 => ?_) h2
      obtain ⟨S2, hsub, h4, h5⟩ := h3
      have hni : noLate m (listed.setIfInBounds k true) → m.contains k = false := fun hn => by
        have := hn.not_mem (unlisted_lt (mem_ready.1 hk0).1)
        simpa using this
      have hS' : noLate m (listed.setIfInBounds k true) → S2 w' := fun hn => h4 (hq hn.unset) (hni hn)
      exact ⟨fun hn => hsub _ (hS' hn), wpAnyK_sub hsub _ _ _ _ (wpAnyK_planS hs hε n t _ S2 _ _ _ (hcl.set hk0) (by simp [hsz]) hS' (fun hn => by rw [hq hn.unset, hni hn]; rfl) hBt h5)⟩
    simp only [List.mem_cons, List.not_mem_nil, or_false] at hk
    rcases hk with rfl | rfl | rfl
    · exact key t rfl hBt h.1
    · exact key u rfl hBu h.2.1
    · exact key v rfl hBv h.2.2
  | 0, .fr _ _, _, _, _, _, _, _, _, _, _, hB, _ => by simp [normT] at hB
  | 0, .one _ _, _, _, _, _, _, _, _, _, _, hB, _ => by simp [normT] at hB
  | 0, .two _ _ _ _, _, _, _, _, _, _, _, _, _, hB, _ => by simp [normT] at hB
  | 0, .three _ _ _ _ _ _, _, _, _, _, _, _, _, _, _, hB, _ => by simp [normT] at hB
  | _ + 1, .nil, _, _, _, _, _, _, _, _, _, hB, _ => by simp [normT] at hB
noncomputable def stpX (P : Program) (call : CallF ρ) (R : Array Oper) (N : Nat) (mL : List Nat) (kp : SFL → SV → KM → Option ρ) (i : Nat) (cl : Bool) (fl : SFL) (m : KM) (k : Bool → SFL → KM → Option ρ) : Option ρ := match R[i]? with
  | none => none
  | some o => bif dstOk N o then grd R fl o
      (fun fl => bif opsOk fl o then opX P call fl m o (fun s m' => bif mL.contains i then k false (putS fl o.dst s) m' else
        bif cl then (bif Nat.beq m'.lg.length m.lg.length then k cl (putS fl o.dst s) m' else none) else k cl (putS fl o.dst s) m') (kp fl) else none)
      (fun fl => k cl (putS fl o.dst (.raw undef)) m) else none
noncomputable def drwX (P : Program) (call : CallF ρ) (R : Array Oper) (N : Nat) (mL : List Nat) (kp : SFL → SV → KM → Option ρ) : PT → Bool → SFL → KM → (SFL → KM → Option ρ) → Option ρ
  | .nil, _, fl, m, k => k fl m
  | .fr i pl, cl, fl, m, k => match R[i]? with
    | none => none
    | some o => bif dstOk N o then grd R fl o
        (fun fl => bif isQ o && (opsOk fl o && (!isLd o || (cl && lateB .any R mL i))) then qop P m.σ fl o (fun s => drwX P call R N mL kp pl cl (putS fl o.dst s) m k) else none)
        (fun fl => drwX P call R N mL kp pl cl (putS fl o.dst (.raw undef)) m k) else none
  | .one i pl, cl, fl, m, k => stpX P call R N mL kp i cl fl m fun cl fl m => drwX P call R N mL kp pl cl fl m k
  | .two i t j u, cl, fl, m, k => agree (stpX P call R N mL kp i cl fl m fun cl fl m => drwX P call R N mL kp t cl fl m k) (stpX P call R N mL kp j cl fl m fun cl fl m => drwX P call R N mL kp u cl fl m k)
  | .three i t j u l v, cl, fl, m, k => agree (stpX P call R N mL kp i cl fl m fun cl fl m => drwX P call R N mL kp t cl fl m k) (agree (stpX P call R N mL kp j cl fl m fun cl fl m => drwX P call R N mL kp u cl fl m k) (stpX P call R N mL kp l cl fl m fun cl fl m => drwX P call R N mL kp v cl fl m k))
theorem WM.sub {l : List Atom} (hle : e.le e') (h : WM e' (l ++ As) L0 w) : WM e As L0 w := by
  obtain ⟨z', h1, h2⟩ := h
  exact ⟨z', Zone.le_trans hle.z h1, St.mid h2⟩
theorem stpX_ok {ε : Px} {call : CallF ρ} {kp : SFL → SV → KM → Option ρ} (hc : CallOk P L0 call) {i : Nat} {pl : PT} {kk : Bool → SFL → KM → Option ρ} {q : Bool} {S : World → Prop} {cl : Bool} {fl : SFL} {flv : FL} {m : KM} {e : KE} {As : List Atom} {a : Act} {w : World} {r : ρ}
    (h : stpX P call R N mL kp i cl fl m kk = some r) (hcl : cl = true → S = WM e As L0) (hq : q = true → cl = true) (hf : Fr a N flv ds) (hl : FLIs e fl flv) (h1 : Mem e m.σ As) (h2 : St e.z (As ++ L0) w)
    (hk : ∀ cl' S' fl' flv' m' e' As' a' w', kk cl' fl' m' = some r → (cl' = true → S' = WM e' As' L0) → ((q && !mL.contains i) = true → cl' = true) → FX fl flv fl' flv' → Go1 e As m e' As' m' → Fr a' N flv' ds → FLIs e' fl' flv' → Mem e' m'.σ As' → St e'.z (As' ++ L0) w' → wpPlanS ε P R mL K pl (q && !mL.contains i) S' a' w')
    (hp : ∀ s v fl' flv' m' e' As' a' w', kp fl' s m' = some r → FX fl flv fl' flv' → Go1 e As m e' As' m' → Fr a' N flv' ds → FLIs e' fl' flv' → Is e' s v → Mem e' m'.σ As' → St e'.z (As' ++ L0) w' → ε (pch v) a' w') :
    wpOp P R (pex ε) i (fun a' w' => ∃ S2 : World → Prop, (∀ w, S2 w → S w) ∧ (q = true → mL.contains i = false → S2 w') ∧ wpPlanS ε P R mL K pl (q && !mL.contains i) S2 a' w') a w := by
    unfold stpX at h
    cases hR : R[i]? with
    | none => rw [hR] at h; cases h
    | some o =>
      rw [hR] at h
      simp only at h
      cases hd : dstOk N o with
      | false => rw [hd] at h; cases h
      | true =>
        rw [hd] at h
        simp only [cond_true] at h
        obtain ⟨fl1, flv1, fx, hf1, hl1, hor⟩ := grd_ok hf hl h
        rcases hor with ⟨hw, hrun⟩ | ⟨hw, hrun⟩
        · cases ho : opsOk fl1 o with
          | false => rw [ho] at hrun; cases hrun
          | true =>
            rw [ho] at hrun
            simp only [cond_true] at hrun
            have hop := opX_ok (ε := ε) (mL := []) (S := fun _ => True) (rest := []) (K := fun a' w' => ∃ S2 : World → Prop, (∀ w, S2 w → S w) ∧ (q = true → mL.contains i = false → S2 w') ∧ wpPlanS ε P R mL K pl (q && !mL.contains i) S2 a' w') (a := a) hc hf1 hl1 h1 h2 hR hw hd ho hrun (fun s v m' e' As' w' a' g1 g2 g3 g4 g5 g6 => ⟨fun _ => trivial, ?_⟩) (fun s v m' e' As' w' g1 g2 g3 g4 g5 => hp s v fl1 flv1 m' e' As' a w' g1 fx g2 hf1 (hl1.mono g2.le) g3 g4 g5)
            · exact wpOp_mono (fun a' w' hh => hh.2) (show wpOp P R (pex ε) i _ a w from hop)
            · cases hm : mL.contains i with
              | true =>
                rw [hm] at g1
                refine ⟨S, fun _ h => h, (fun _ hh => by cases hh), ?_⟩
                rw [← hm]
                exact hk false S _ _ m' e' As' a' w' g1 (fun hh => by cases hh) (fun hh => by rw [hm] at hh; simp at hh) (fx.trans (FX.put o.dst s v)) g2 g6 ((hl1.mono g2.le).put g3 o.dst) g4 g5
              | false =>
                rw [hm] at g1
                simp only [cond_false] at g1
                rw [← hm]
                cases hcl' : cl with
                | false =>
                  rw [hcl'] at g1
                  simp only [cond_false] at g1
                  have hqf : q = false := by
                    cases hq0 : q with
                    | false => rfl
                    | true => have := hq hq0; rw [hcl'] at this; cases this
                  refine ⟨S, fun _ h => h, (fun hh => by rw [hqf] at hh; cases hh), ?_⟩
                  exact hk false S _ _ m' e' As' a' w' g1 (fun hh => by cases hh) (fun hh => by rw [hqf] at hh; simp at hh) (fx.trans (FX.put o.dst s v)) g2 g6 ((hl1.mono g2.le).put g3 o.dst) g4 g5
                | true =>
                  rw [hcl'] at g1
                  simp only [cond_true] at g1
                  cases hb : Nat.beq m'.lg.length m.lg.length with
                  | false => rw [hb] at g1; cases g1
                  | true =>
                    rw [hb] at g1
                    simp only [cond_true] at g1
                    have hSe := hcl hcl'
                    subst hSe
                    obtain ⟨l', rfl⟩ := g2.az (Nat.eq_of_beq_eq_true hb)
                    refine ⟨WM e' (l' ++ As) L0, fun w hw => hw.sub g2.le, fun _ _ => ⟨e'.z, Zone.le_refl _, g5⟩, ?_⟩
                    exact hk true _ _ _ m' e' (l' ++ As) a' w' g1 (fun _ => rfl) (fun _ => rfl) (fx.trans (FX.put o.dst s v)) g2 g6 ((hl1.mono g2.le).put g3 o.dst) g4 g5
        · unfold wpOp
          simp only [hR, wantedF_sound hf1 hw, Bool.false_eq_true, if_false]
          refine ⟨S, fun _ h => h, fun hh _ => ?_, ?_⟩
          · have hSe := hcl (hq hh)
            subst hSe
            exact ⟨e.z, Zone.le_refl _, h2⟩
          · exact hk cl S _ _ m e As _ w hrun hcl (fun hh => hq (by simp only [Bool.and_eq_true] at hh; exact hh.1)) (fx.trans (FX.put o.dst (.raw undef) undef)) .refl (hf1.put hd undef) (hl1.put (.raw undef) o.dst) h1 h2
theorem drwX_ok {ε : Px} {call : CallF ρ} {kp : SFL → SV → KM → Option ρ} (hc : CallOk P L0 call) : ∀ (pl : PT) {q : Bool} {S : World → Prop} {cl : Bool} {fl : SFL} {flv : FL} {m : KM} {e : KE} {As : List Atom} {a : Act} {w : World} {k : SFL → KM → Option ρ} {r : ρ},
    drwX P call R N mL kp pl cl fl m k = some r → (cl = true → S = WM e As L0) → (q = true → cl = true) → Fr a N flv ds → FLIs e fl flv → Mem e m.σ As → St e.z (As ++ L0) w →
    (∀ fl' flv' m' e' As' a' w', k fl' m' = some r → FX fl flv fl' flv' → Go1 e As m e' As' m' → Fr a' N flv' ds → FLIs e' fl' flv' → Mem e' m'.σ As' → St e'.z (As' ++ L0) w' → K a' w') →
    (∀ s v fl' flv' m' e' As' a' w', kp fl' s m' = some r → FX fl flv fl' flv' → Go1 e As m e' As' m' → Fr a' N flv' ds → FLIs e' fl' flv' → Is e' s v → Mem e' m'.σ As' → St e'.z (As' ++ L0) w' → ε (pch v) a' w') →
    wpPlanS ε P R mL K pl q S a w
  | .nil, q, S, cl, fl, flv, m, e, As, a, w, k, r, h, hcl, hq0, hf, hl, h1, h2, hk, hp => hk fl flv m e As a w h .refl .refl hf hl h1 h2
  | .fr i pl, q, S, cl, fl, flv, m, e, As, a, w, k, r, h, hcl, hq0, hf, hl, h1, h2, hk, hp => by
    simp only [drwX] at h
    cases hR : R[i]? with
    | none => rw [hR] at h; cases h
    | some o =>
      rw [hR] at h
      simp only at h
      cases hd : dstOk N o with
      | false => rw [hd] at h; cases h
      | true =>
        rw [hd] at h
        simp only [cond_true] at h
        obtain ⟨fl1, flv1, fx, hf1, hl1, hor⟩ := grd_ok hf hl h
        rcases hor with ⟨hw, hrun⟩ | ⟨hw, hrun⟩
        · cases hb : (isQ o && (opsOk fl1 o && (!isLd o || (cl && lateB .any R mL i)))) with
          | false => rw [hb] at hrun; cases hrun
          | true =>
            rw [hb] at hrun
            simp only [cond_true] at hrun
            simp only [Bool.and_eq_true] at hb
            obtain ⟨hq, ho, hld⟩ := hb
            have hwm : WM e As L0 w := ⟨e.z, Zone.le_refl _, h2⟩
            have hwa := wantedF_sound hf1 hw
            have hex := hf1.exec (opsOk_is hl1 ho)
            cases hL : isLd o with
            | false =>
              obtain ⟨s, g1, v, g2, g3⟩ := qop_ok (W := fun _ => True) h1 hl1 hwm (fun hh => by rw [hL] at hh; cases hh) hrun
              refine ⟨o, v, hR, .inr (.inl ⟨hwa, fun w' _ => by rw [hex]; exact g3 w' trivial⟩), ?_⟩
              exact drwX_ok hc pl g1 hcl hq0 (hf1.put hd v) (hl1.put g2 o.dst) h1 h2 (fun fl2 flv2 m2 e2 As2 a2 w2 q1 q2 q3 => hk fl2 flv2 m2 e2 As2 a2 w2 q1 (fx.trans ((FX.put o.dst s v).trans q2)) q3) (fun s2 v2 fl2 flv2 m2 e2 As2 a2 w2 q1 q2 q3 => hp s2 v2 fl2 flv2 m2 e2 As2 a2 w2 q1 (fx.trans ((FX.put o.dst s v).trans q2)) q3)
            | true =>
              rw [hL] at hld
              simp only [Bool.not_true, Bool.false_or, Bool.and_eq_true] at hld
              obtain ⟨hcl1, hlate⟩ := hld
              have hSe := hcl hcl1
              subst hSe
              obtain ⟨s, g1, v, g2, g3⟩ := qop_ok (W := WM e As L0) h1 hl1 hwm (isLd_wm fun w h => h) hrun
              refine ⟨o, v, hR, .inl ⟨.inl ⟨hwa, fun w' hw' => by rw [hex]; exact g3 w' hw'⟩, hwm, hlate⟩, ?_⟩
              exact drwX_ok hc pl g1 hcl hq0 (hf1.put hd v) (hl1.put g2 o.dst) h1 h2 (fun fl2 flv2 m2 e2 As2 a2 w2 q1 q2 q3 => hk fl2 flv2 m2 e2 As2 a2 w2 q1 (fx.trans ((FX.put o.dst s v).trans q2)) q3) (fun s2 v2 fl2 flv2 m2 e2 As2 a2 w2 q1 q2 q3 => hp s2 v2 fl2 flv2 m2 e2 As2 a2 w2 q1 (fx.trans ((FX.put o.dst s v).trans q2)) q3)
        · refine ⟨o, undef, hR, .inr (.inr ⟨wantedF_sound hf1 hw, rfl⟩), ?_⟩
          exact drwX_ok hc pl hrun hcl hq0 (hf1.put hd undef) (hl1.put (.raw undef) o.dst) h1 h2 (fun fl2 flv2 m2 e2 As2 a2 w2 q1 q2 q3 => hk fl2 flv2 m2 e2 As2 a2 w2 q1 (fx.trans ((FX.put o.dst (.raw undef) undef).trans q2)) q3) (fun s2 v2 fl2 flv2 m2 e2 As2 a2 w2 q1 q2 q3 => hp s2 v2 fl2 flv2 m2 e2 As2 a2 w2 q1 (fx.trans ((FX.put o.dst (.raw undef) undef).trans q2)) q3)
  | .one i pl, q, S, cl, fl, flv, m, e, As, a, w, k, r, h, hcl, hq0, hf, hl, h1, h2, hk, hp => by
    simp only [drwX] at h
    exact stpX_ok hc h hcl hq0 hf hl h1 h2 (fun cl' S' fl' flv' m' e' As' a' w' g1 g2 gq g3 g4 g5 g6 g7 g8 => drwX_ok hc pl g1 g2 gq g5 g6 g7 g8 (fun fl2 flv2 m2 e2 As2 a2 w2 q1 q2 q3 => hk fl2 flv2 m2 e2 As2 a2 w2 q1 (g3.trans q2) (g4.trans q3)) (fun s2 v2 fl2 flv2 m2 e2 As2 a2 w2 q1 q2 q3 => hp s2 v2 fl2 flv2 m2 e2 As2 a2 w2 q1 (g3.trans q2) (g4.trans q3))) hp
  | .two i t j u, q, S, cl, fl, flv, m, e, As, a, w, k, r, h, hcl, hq0, hf, hl, h1, h2, hk, hp => by
    simp only [drwX] at h
    obtain ⟨ha, hb⟩ := agree_ok h
    exact ⟨stpX_ok hc ha hcl hq0 hf hl h1 h2 (fun cl' S' fl' flv' m' e' As' a' w' g1 g2 gq g3 g4 g5 g6 g7 g8 => drwX_ok hc t g1 g2 gq g5 g6 g7 g8 (fun fl2 flv2 m2 e2 As2 a2 w2 q1 q2 q3 => hk fl2 flv2 m2 e2 As2 a2 w2 q1 (g3.trans q2) (g4.trans q3)) (fun s2 v2 fl2 flv2 m2 e2 As2 a2 w2 q1 q2 q3 => hp s2 v2 fl2 flv2 m2 e2 As2 a2 w2 q1 (g3.trans q2) (g4.trans q3))) hp,
      stpX_ok hc hb hcl hq0 hf hl h1 h2 (fun cl' S' fl' flv' m' e' As' a' w' g1 g2 gq g3 g4 g5 g6 g7 g8 => drwX_ok hc u g1 g2 gq g5 g6 g7 g8 (fun fl2 flv2 m2 e2 As2 a2 w2 q1 q2 q3 => hk fl2 flv2 m2 e2 As2 a2 w2 q1 (g3.trans q2) (g4.trans q3)) (fun s2 v2 fl2 flv2 m2 e2 As2 a2 w2 q1 q2 q3 => hp s2 v2 fl2 flv2 m2 e2 As2 a2 w2 q1 (g3.trans q2) (g4.trans q3))) hp⟩
  | .three i t j u l v, q, S, cl, fl, flv, m, e, As, a, w, k, r, h, hcl, hq0, hf, hl, h1, h2, hk, hp => by
    simp only [drwX] at h
    obtain ⟨ha, hb0⟩ := agree_ok h
    obtain ⟨hb, hb2⟩ := agree_ok hb0
    exact ⟨stpX_ok hc ha hcl hq0 hf hl h1 h2 (fun cl' S' fl' flv' m' e' As' a' w' g1 g2 gq g3 g4 g5 g6 g7 g8 => drwX_ok hc t g1 g2 gq g5 g6 g7 g8 (fun fl2 flv2 m2 e2 As2 a2 w2 q1 q2 q3 => hk fl2 flv2 m2 e2 As2 a2 w2 q1 (g3.trans q2) (g4.trans q3)) (fun s2 v2 fl2 flv2 m2 e2 As2 a2 w2 q1 q2 q3 => hp s2 v2 fl2 flv2 m2 e2 As2 a2 w2 q1 (g3.trans q2) (g4.trans q3))) hp,
      stpX_ok hc hb hcl hq0 hf hl h1 h2 (fun cl' S' fl' flv' m' e' As' a' w' g1 g2 gq g3 g4 g5 g6 g7 g8 => drwX_ok hc u g1 g2 gq g5 g6 g7 g8 (fun fl2 flv2 m2 e2 As2 a2 w2 q1 q2 q3 => hk fl2 flv2 m2 e2 As2 a2 w2 q1 (g3.trans q2) (g4.trans q3)) (fun s2 v2 fl2 flv2 m2 e2 As2 a2 w2 q1 q2 q3 => hp s2 v2 fl2 flv2 m2 e2 As2 a2 w2 q1 (g3.trans q2) (g4.trans q3))) hp,
      stpX_ok hc hb2 hcl hq0 hf hl h1 h2 (fun cl' S' fl' flv' m' e' As' a' w' g1 g2 gq g3 g4 g5 g6 g7 g8 => drwX_ok hc v g1 g2 gq g5 g6 g7 g8 (fun fl2 flv2 m2 e2 As2 a2 w2 q1 q2 q3 => hk fl2 flv2 m2 e2 As2 a2 w2 q1 (g3.trans q2) (g4.trans q3)) (fun s2 v2 fl2 flv2 m2 e2 As2 a2 w2 q1 q2 q3 => hp s2 v2 fl2 flv2 m2 e2 As2 a2 w2 q1 (g3.trans q2) (g4.trans q3))) hp⟩
end Go.K
namespace Go.K
open Go.Sl Go.Sx
variable {e e' e0 : KE} {σ : List Blk} {As As0 L0 L : List Atom} {P : Program} {w : World} {N : Nat} {fl : SFL} {flv : FL} {ρ : Type} {h : Zone} {a : Act} {ds : List Deferred}
theorem FLIs.back {e e' : KE} (h : e.le e') : ∀ {l : SFL} {m m' : FL}, FLIs e l m → FLIs e' l m' → FLIs ⟨e'.z, e.bs⟩ l m'
  | [], [], [], _, _ => trivial
  | (_, _) :: _, (_, _) :: _, (_, _) :: _, ⟨_, h2, h3⟩, ⟨k1, k2, k3⟩ => ⟨k1, h2.back h k2, h3.back h k3⟩
  | [], _ :: _, _, h, _ => h.elim
  | _ :: _, [], _, h, _ => h.elim
  | [], [], _ :: _, _, k => k.elim
  | _ :: _, _ :: _, [], _, k => k.elim
abbrev DF := FuncId × List SV
structure KS where
  fl : SFL
  m : KM
  ds : List DF := []
  rg : Bool := false
def DsIs (e : KE) : List DF → List Deferred → Prop
  | [], [] => True
  | (f, c) :: r, d :: r' => (∃ vs, d = { target := .fn (.func f) vs.toArray, args := #[] } ∧ IsL e c vs) ∧ DsIs e r r'
  | _, _ => False
theorem DsIs.mono (h : e.le e') : ∀ {l : List DF} {m : List Deferred}, DsIs e l m → DsIs e' l m
  | [], [], _ => trivial
  | (_, _) :: _, _ :: _, ⟨⟨vs, h1, h2⟩, h3⟩ => ⟨⟨vs, h1, h2.mono h⟩, h3.mono h⟩
  | [], _ :: _, h => h.elim
  | _ :: _, [], h => h.elim
theorem DsIs.len : ∀ {l : List DF} {m : List Deferred}, DsIs e l m → l.length = m.length
  | [], [], _ => rfl
  | (_, _) :: _, _ :: _, ⟨_, h3⟩ => by simp [h3.len]
  | [], _ :: _, h => h.elim
  | _ :: _, [], h => h.elim
def mkD (d : Deferred) : Option Nat := match d.target with
  | .collected r => some r
  | _ => none
def marksOf (dv : List Deferred) : List Nat := dv.filterMap mkD
def noMk (dv : List Deferred) : List Deferred := dv.filter fun d => (mkD d).isNone
def mkA (dv : List Deferred) : List Atom := (marksOf dv).map defA
theorem noMk_app (a b : List Deferred) : noMk (a ++ b) = noMk a ++ noMk b := List.filter_append ..
def DX (ds ds' : List Deferred) : Prop := ∃ q, ds' = q ++ ds
theorem DX.refl : DX ds ds := ⟨[], rfl⟩
theorem DX.trans {a b c : List Deferred} : DX a b → DX b c → DX a c := fun ⟨q, h⟩ ⟨q', h'⟩ => ⟨q' ++ q, by rw [h', h, List.append_assoc]⟩
theorem DX.same {a b : List Deferred} (h : DX a b) (hl : (noMk b).length = (noMk a).length) : noMk b = noMk a := by
  obtain ⟨q, rfl⟩ := h
  rw [noMk_app] at hl ⊢
  have : noMk q = [] := by
    cases hq : noMk q with
    | nil => rfl
    | cons => rw [hq] at hl; simp at hl; omega
  rw [this]; rfl
structure KR (N : Nat) (L0 : List Atom) (e : KE) (As : List Atom) (flv : FL) (dv : List Deferred) (s : KS) (a : Act) (w : World) : Prop where
  fr : Fr a N flv dv
  fl : FLIs e s.fl flv
  mem : Mem e s.m.σ As
  st : St e.z (As ++ (mkA dv ++ L0)) w
  dI : DsIs e s.ds (noMk dv)
  rI : s.rg = false → marksOf dv = []
inductive Pl where
  | slot (t : Nat) | cell (t j : Nat) (is : List Nat := [])
inductive Kd where
  | dat (u : TC) | agg (u : TC) | own (u : TC) (E : TypeId)
abbrev Kd.ty : Kd → Type
  | .dat u => u.den | .agg u => u.den | .own u _ => List u.den
abbrev Vr := Pl × Kd
abbrev vty : List Vr → Type
  | [] => Unit
  | [v] => v.2.ty
  | v :: v' :: l => v.2.ty × vty (v' :: l)
def wlk : List Nat → SV → Nat → Option (Nat × Nat)
  | [], .ptr id off, j => some (id, off + j)
  | i :: is, .fn _ _ caps, j => match caps[i]? with
    | some v => wlk is v j
    | none => none
  | i :: is, .yld _ fr, j => match fr[i]? with
    | some v => wlk is v j
    | none => none
  | _, _, _ => none
def plc (fl : SFL) (t j : Nat) (is : List Nat) : Option (Nat × Nat) := match lookS fl t with
  | some v => wlk is v j
  | none => none
def rdP (fl : SFL) (s : KS) : Pl → Option SV
  | .slot t => match lookS s.fl t with
    | some v => some (res s.m.σ v)
    | none => none
  | .cell t j is => match plc fl t j is with
    | some (id, q) => match at' s.m.σ id with
      | some (.cells _ cs) => match cs[q]? with
        | some v => some (res s.m.σ v)
        | none => none
      | _ => none
    | none => none
def takeK (n : Nat) (gone : List Nat) (σ : List Blk) : (k : Kd) → SV → Option (k.ty × List Blk)
  | .dat u, s => match u.ofL [s] with
    | some (x, []) => some (x, σ)
    | _ => none
  | .agg u, .agg cs => match u.ofL cs with
    | some (x, []) => some (x, σ)
    | _ => none
  | .own u E, .own id => match at' σ id with
    | some (.own u' E' xs) => bif Nat.beq E' E && (Nat.ble n id || gone.contains id) then (if h : u' = u then some (h ▸ xs, setAt σ id .gone) else none) else none
    | _ => none
  | .own u E, .raw v => bif isNil v then some ([], σ) else none
  | _, _ => none
def giveK (σ : List Blk) : (k : Kd) → k.ty → SV × List Blk
  | .dat u, x => ((u.exp x).headD .any, σ)
  | .agg u, x => (.agg (u.exp x), σ)
  | .own u E, xs => (.own σ.length, .own u E xs :: σ)
def putP (fl0 : SFL) (s : SV) (fl : SFL) (σ : List Blk) : Pl → SFL × List Blk
  | .slot t => ((t, s) :: fl, σ)
  | .cell t j is => match plc fl0 t j is with
    | some (id, q) => match at' σ id with
      | some (.cells T cs) => (fl, setAt σ id (.cells T (cs.set q s)))
      | _ => (fl, σ)
    | none => (fl, σ)
def getV (fl : SFL) (n : Nat) (gone : List Nat) : (l : List Vr) → KS → Option (vty l)
  | [], _ => some ()
  | [v], s => match rdP fl s v.1 with
    | some x => match takeK n gone s.m.σ v.2 x with
      | some (y, _) => some y
      | none => none
    | none => none
  | v :: v' :: l, s => match rdP fl s v.1 with
    | some x => match takeK n gone s.m.σ v.2 x with
      | some (y, σ') => match getV fl n gone (v' :: l) ⟨s.fl, ⟨σ', s.m.lg⟩, s.ds, s.rg⟩ with
        | some z => some (y, z)
        | none => none
      | none => none
    | none => none
def putV (fl0 : SFL) : (l : List Vr) → vty l → SFL → List Blk → SFL × List Blk
  | [], _, fl, σ => (fl, σ)
  | [v], y, fl, σ => match giveK σ v.2 y with
    | (x, σ') => putP fl0 x fl σ' v.1
  | v :: v' :: l, y, fl, σ => match giveK σ v.2 y.1 with
    | (x, σ') => match putP fl0 x fl σ' v.1 with
      | (fl', σ'') => putV fl0 (v' :: l) y.2 fl' σ''
structure Mid (N : Nat) (ds : List Deferred) (L0 : List Atom) (e : KE) (n : Nat) (gone : List Nat) (fl0 : SFL) (flv0 : FL) (a : Act) (w : World)
    (e' : KE) (A' : List Atom) (flv' : FL) (s' : KS) (c : KE) (F : List Atom) (flvc : FL) (flc : SFL) (σc : List Blk) : Prop where
  le : e.le e'
  hn : n = e.bs.length
  m' : Mem e' s'.m.σ A'
  f' : FLIs e' s'.fl flv'
  fr' : Fr a N flv' ds
  cz : c.z = e'.z
  cb : ∃ l, c.bs = l ++ e.bs
  mc : Mem c σc (F ++ A'.drop (A'.length - n))
  hg : ∀ id, gone.contains id = true → id < n → at' σc id = some .gone
  fc : FLIs c flc flvc
  frc : Fr a N flvc ds
  fx : FX fl0 flv0 flc flvc
  f0 : FLIs e fl0 flv0
  st : St e'.z (F ++ A' ++ L0) w
  big : n ≤ A'.length
variable {n : Nat} {gone : List Nat} {fl0 : SFL} {flv0 : FL} {A' F : List Atom} {flv' flvc : FL} {s' : KS} {c : KE} {flc : SFL} {σc : List Blk}
theorem rep_is {c : KE} (hz : c.z = e'.z) (u : TC) {x : u.den} {cs : List Value} (h : u.ty.rep e'.z cs x) : IsL c (u.exp x) cs := by
  rw [← hz] at h; exact exp_is u h
theorem box_inj {b b' : Nat} {vs vs' : List Value} {T T' : TypeId} (h : box b vs T = box b' vs' T') : b = b' ∧ vs = vs' ∧ T = T' := by
  have h1 : (box b vs T).P (Zone.all default) (Hp.one b (.cells vs.toArray T (0, 0))) := rfl
  rw [h] at h1
  have h2 : Hp.one b (.cells vs.toArray T (0, 0)) = Hp.one b' (.cells vs'.toArray T' (0, 0)) := h1
  have h3 := congrFun h2 b
  unfold Hp.one at h3
  simp only [if_true] at h3
  split at h3
  · rename_i e
    simp only [Option.some.injEq, Obj.cells.injEq] at h3
    exact ⟨e, by simpa using h3.1, h3.2.1⟩
  · cases h3
theorem at_drop {α : Type} {l : List α} {n id : Nat} {x : α} (hn : n ≤ l.length) (h : at' (l.drop (l.length - n)) id = some x) : at' l id = some x := by
  have := at_app h (l.take (l.length - n))
  rwa [List.take_append_drop] at this
theorem drop_len {α : Type} {l : List α} {n : Nat} (hn : n ≤ l.length) : (l.drop (l.length - n)).length = n := by simp; omega
theorem Mid.base (h : Mid N ds L0 e n gone fl0 flv0 a w e' A' flv' s' c F flvc flc σc) {id : Nat} (hid : id < n) {A : Atom} (hA : at' (F ++ A'.drop (A'.length - n)) id = some A) : at' A' id = some A := by
  have hl := drop_len h.big
  obtain ⟨B, hB⟩ := at_some (l := A'.drop (A'.length - n)) (id := id) (by rw [hl]; exact hid)
  have := at_app hB F
  rw [this] at hA; cases hA
  exact at_drop h.big hB
theorem Mid.put_slot (h : Mid N ds L0 e n gone fl0 flv0 a w e' A' flv' s' c F flvc flc σc) {t : Nat} {x : SV} {v : Value} (hv : Sx.look flv' t = some v) (hx : Is c x v) :
    Mid N ds L0 e n gone fl0 flv0 a w e' A' flv' s' c F ((t, v) :: flvc) ((t, x) :: flc) σc :=
  { h with
    fc := ⟨rfl, hx, h.fc⟩
    frc := ⟨h.frc.size, h.frc.defers, fun q u hq => by
      simp only [Sx.look] at hq
      cases hb : Nat.beq t q with
      | true => rw [hb] at hq; have := Nat.eq_of_beq_eq_true hb; subst this; cases hq; exact h.fr'.look _ _ hv
      | false => rw [hb] at hq; exact h.frc.look _ _ hq⟩
    fx := h.fx.trans (FX.put (some t) x v) }
theorem wlk_lt : ∀ {is : List Nat} {s : SV} {v : Value} {j id q : Nat}, Is e s v → wlk is s j = some (id, q) → id < e.bs.length
  | [], .ptr id' off, v, j, id, q, h, hp => by
    cases hp
    cases h with
    | ptr hi => exact at_lt hi
  | i :: is, .fn f a caps, v, j, id, q, h, hp => by
    simp only [wlk] at hp
    split at hp
    · rename_i s' hs
      cases h with
      | fn h1 h2 =>
        obtain ⟨u, _, hu⟩ := h2.get hs
        exact wlk_lt hu hp
    · cases hp
  | i :: is, .yld id' fr, v, j, id, q, h, hp => by
    simp only [wlk] at hp
    split at hp
    · rename_i s' hs
      cases h with
      | yld h1 h2 =>
        obtain ⟨u, _, hu⟩ := h2.get hs
        exact wlk_lt hu hp
    · cases hp
  | [], .int .., _, _, _, _, _, hp => by simp [wlk] at hp
  | [], .bool .., _, _, _, _, _, hp => by simp [wlk] at hp
  | [], .str .., _, _, _, _, _, hp => by simp [wlk] at hp
  | [], .raw .., _, _, _, _, _, hp => by simp [wlk] at hp
  | [], .own .., _, _, _, _, _, hp => by simp [wlk] at hp
  | [], .sl .., _, _, _, _, _, hp => by simp [wlk] at hp
  | [], .el .., _, _, _, _, _, hp => by simp [wlk] at hp
  | [], .oel .., _, _, _, _, _, hp => by simp [wlk] at hp
  | [], .agg .., _, _, _, _, _, hp => by simp [wlk] at hp
  | [], .tup .., _, _, _, _, _, hp => by simp [wlk] at hp
  | [], .fn .., _, _, _, _, _, hp => by simp [wlk] at hp
  | [], .ifc .., _, _, _, _, _, hp => by simp [wlk] at hp
  | [], .nilp .., _, _, _, _, _, hp => by simp [wlk] at hp
  | [], .yld .., _, _, _, _, _, hp => by simp [wlk] at hp
  | [], .mp .., _, _, _, _, _, hp => by simp [wlk] at hp
  | [], .nsl .., _, _, _, _, _, hp => by simp [wlk] at hp
  | [], .mpc .., _, _, _, _, _, hp => by simp [wlk] at hp
  | [], .any, _, _, _, _, _, hp => by simp [wlk] at hp
  | _ :: _, .int .., _, _, _, _, _, hp => by simp [wlk] at hp
  | _ :: _, .bool .., _, _, _, _, _, hp => by simp [wlk] at hp
  | _ :: _, .str .., _, _, _, _, _, hp => by simp [wlk] at hp
  | _ :: _, .raw .., _, _, _, _, _, hp => by simp [wlk] at hp
  | _ :: _, .ptr .., _, _, _, _, _, hp => by simp [wlk] at hp
  | _ :: _, .own .., _, _, _, _, _, hp => by simp [wlk] at hp
  | _ :: _, .sl .., _, _, _, _, _, hp => by simp [wlk] at hp
  | _ :: _, .el .., _, _, _, _, _, hp => by simp [wlk] at hp
  | _ :: _, .oel .., _, _, _, _, _, hp => by simp [wlk] at hp
  | _ :: _, .agg .., _, _, _, _, _, hp => by simp [wlk] at hp
  | _ :: _, .tup .., _, _, _, _, _, hp => by simp [wlk] at hp
  | _ :: _, .ifc .., _, _, _, _, _, hp => by simp [wlk] at hp
  | _ :: _, .nilp .., _, _, _, _, _, hp => by simp [wlk] at hp
  | _ :: _, .mp .., _, _, _, _, _, hp => by simp [wlk] at hp
  | _ :: _, .nsl .., _, _, _, _, _, hp => by simp [wlk] at hp
  | _ :: _, .mpc .., _, _, _, _, _, hp => by simp [wlk] at hp
  | _ :: _, .any, _, _, _, _, _, hp => by simp [wlk] at hp
theorem plc_lt (h : FLIs e fl0 flv0) {t j id q : Nat} {is : List Nat} (hp : plc fl0 t j is = some (id, q)) : id < e.bs.length := by
  unfold plc at hp
  split at hp
  · rename_i s hl
    obtain ⟨v, _, hv⟩ := h.look hl
    exact wlk_lt hv hp
  · cases hp
theorem list_set_same {α : Type} {l : List α} {i : Nat} {x : α} (h : l[i]? = some x) : l.set i x = l := by
  apply List.ext_getElem?
  intro j
  by_cases hj : i = j
  · subst hj
    have hlt := (List.getElem?_eq_some_iff.1 h).1
    rw [List.getElem?_set_self hlt, h]
  · rw [List.getElem?_set_ne hj]
theorem Mid.put_cell (h : Mid N ds L0 e n gone fl0 flv0 a w e' A' flv' s' c F flvc flc σc) {t j id q : Nat} {is : List Nat} (hp : plc fl0 t j is = some (id, q)) {T' : TypeId} {cs' : List SV} {sv : SV} {v : Value} {i' : BI} {vs' : List Value}
    (hi' : at' A' id = some (box i'.b vs' T')) (hv : vs'[q]? = some v) {x : SV} (hx : Is c x v) :
    Mid N ds L0 e n gone fl0 flv0 a w e' A' flv' s' c F flvc (putP fl0 x flc σc (.cell t j is)).1 (putP fl0 x flc σc (.cell t j is)).2 := by
  have hid : id < n := by rw [h.hn]; exact plc_lt h.f0 hp
  simp only [putP, hp]
  split
  · rename_i T cs hB
    obtain ⟨i, A, m1, m2, m3⟩ := h.mc.get hB
    have hA := h.base hid m2
    rw [hi'] at hA
    cases m3 with
    | cells hl hone =>
      rename_i vs
      obtain ⟨rb, rfl, rT⟩ := box_inj (Option.some.inj hA)
      have hset : IsL c (cs.set q x) vs' := by
        have := hl.set hx q
        rwa [list_set_same hv] at this
      have hm := h.mc.set (B := .cells T (cs.set q x)) m1 (.cells hset hone)
      have e1 : setAt (F ++ A'.drop (A'.length - n)) id (box i.b vs' T) = F ++ A'.drop (A'.length - n) := by
        unfold setAt
        exact list_set_same (at_pos m2)
      rw [e1] at hm
      refine { h with mc := hm, hg := fun g hg1 hg2 => ?_ }
      have hne : id ≠ g := fun e => by subst e; rw [h.hg id hg1 hg2] at hB; cases hB
      show at' (setAt σc id _) g = _
      rw [at_set_ne (at_lt hB) hne]
      exact h.hg g hg1 hg2
  · exact h
theorem Mid.push (h : Mid N ds L0 e n gone fl0 flv0 a w e' A' flv' s' c F flvc flc σc) {u : TC} {E : TypeId} {xs : List u.den} {i : BI} (hn : xs.length = i.n) {A1 : List Atom} {σ1 : List Blk}
    (hm : Mem e' σ1 A1) (hst : St e'.z (ownS u.ty E i.o i.c xs :: (F ++ A1 ++ L0)) w) (hl : A1.length = A'.length) (hmc : Mem c σc (F ++ A1.drop (A1.length - n))) :
    Mid N ds L0 e n gone fl0 flv0 a w e' A1 flv' ⟨s'.fl, ⟨σ1, s'.m.lg⟩, s'.ds, s'.rg⟩ (c.push i) (ownS u.ty E i.o i.c xs :: F) flvc flc (.own u E xs :: σc) :=
  { h with
    m' := hm
    cb := by
      obtain ⟨l, e1⟩ := h.cb
      exact ⟨i :: l, by simp [KE.push, e1]⟩
    mc := hmc.push (.own hn)
    hg := fun id h1 h2 => at_cons (h.hg id h1 h2)
    fc := h.fc.mono (KE.le_push c i)
    st := hst
    big := by rw [hl]; exact h.big }
theorem Mid.own (h : Mid N ds L0 e n gone fl0 flv0 a w e' A' flv' s' c F flvc flc σc) {u : TC} {E : TypeId} {id : Nat} {xs : List u.den} (hB : at' s'.m.σ id = some (.own u E xs)) (hid : (Nat.ble n id || gone.contains id) = true) :
    ∃ i, at' e'.bs id = some i ∧ id < A'.length ∧ Mid N ds L0 e n gone fl0 flv0 a w e' (setAt A' id emp) flv' ⟨s'.fl, ⟨setAt s'.m.σ id .gone, s'.m.lg⟩, s'.ds, s'.rg⟩ (c.push i) (ownS u.ty E i.o i.c xs :: F) flvc flc (.own u E xs :: σc) := by
  obtain ⟨i, m1, m2, m3⟩ := h.m'.len hB
  have hlt := at_lt m3
  refine ⟨i, m1, hlt, h.push m2 (h.m'.set m1 .gone) ?_ (len_setAt _ _ _) ?_⟩
  · have hpos : (F ++ A' ++ L0)[F.length + (A'.length - 1 - id)]? = some (ownS u.ty E i.o i.c xs) := by
      rw [List.append_assoc, List.getElem?_append_right (by omega), show F.length + (A'.length - 1 - id) - F.length = A'.length - 1 - id by omega]
      exact Mem.atom m3
    have hset : (F ++ A' ++ L0).set (F.length + (A'.length - 1 - id)) (ownS u.ty E i.o i.c xs) = F ++ A' ++ L0 := list_set_same hpos
    have h1 := h.st
    rw [← hset] at h1
    have h2 := st_front h1 (by simp; omega)
    have h3 : (F ++ A' ++ L0).set (F.length + (A'.length - 1 - id)) emp = F ++ setAt A' id emp ++ L0 := by
      rw [List.append_assoc, List.set_append_right _ _ (by omega), show F.length + (A'.length - 1 - id) - F.length = A'.length - 1 - id by omega, setAt_app hlt, List.append_assoc]
    rw [h3] at h2
    exact h2
  · rw [len_setAt]
    rcases Nat.lt_or_ge id n with hl | hg
    · have hgo : gone.contains id = true := by
        rcases Bool.or_eq_true_iff.1 hid with h1 | h1
        · have := Nat.le_of_ble_eq_true h1; omega
        · exact h1
      have hgone := h.hg id hgo hl
      obtain ⟨i2, A2, k1, k2, k3⟩ := h.mc.get hgone
      have hm := h.mc.set (B := .gone) (A := emp) k1 .gone
      have e1 : setAt σc id .gone = σc := by unfold setAt; exact list_set_same (at_pos hgone)
      have hdl := drop_len h.big
      have e2 : setAt (F ++ A'.drop (A'.length - n)) id emp = F ++ (setAt A' id emp).drop (A'.length - n) := by
        unfold setAt
        have hbig := h.big
        rw [List.length_append, hdl, List.set_append_right _ _ (by omega), List.drop_set, if_neg (by omega), show F.length + n - 1 - id - F.length = A'.length - 1 - id - (A'.length - n) by omega]
      rw [e1, e2] at hm
      exact hm
    · have e1 : (setAt A' id emp).drop (A'.length - n) = A'.drop (A'.length - n) := by
        unfold setAt
        rw [List.drop_set_of_lt (by omega)]
      rw [e1]; exact h.mc
theorem Mid.nil (h : Mid N ds L0 e n gone fl0 flv0 a w e' A' flv' s' c F flvc flc σc) (u : TC) (E : TypeId) :
    Mid N ds L0 e n gone fl0 flv0 a w e' A' flv' s' (c.push ⟨0, none, 0, 0⟩) (ownS u.ty E none 0 [] :: F) flvc flc (.own u E [] :: σc) :=
  h.push (i := ⟨0, none, 0, 0⟩) rfl h.m' (h.st.ownNil u.ty E) rfl h.mc
end Go.K
namespace Go.K
open Go.Sl Go.Sx
variable {e e' e0 : KE} {σ : List Blk} {As As0 L0 L : List Atom} {P : Program} {w : World} {N : Nat} {fl : SFL} {flv : FL} {ρ : Type} {h : Zone} {a : Act} {ds : List Deferred}
variable {n : Nat} {gone : List Nat} {fl0 : SFL} {flv0 : FL} {A' F : List Atom} {flv' flvc : FL} {s' : KS} {c : KE} {flc : SFL} {σc : List Blk}
theorem one_is {c : KE} {u : TC} {y : u.den} {v : Value} (k : IsL c (u.exp y) [v]) : Is c ((u.exp y).headD .any) v := by
  generalize u.exp y = l at k
  cases k with
  | cons h1 h2 => exact h1
theorem kd_step (h : Mid N ds L0 e n gone fl0 flv0 a w e' A' flv' s' c F flvc flc σc) {kd : Kd} {sv : SV} {v : Value} (hv : Is e' sv v) {y : kd.ty} {σ1 : List Blk} (ht : takeK n gone s'.m.σ kd sv = some (y, σ1)) :
    ∃ c' F' A1, Mid N ds L0 e n gone fl0 flv0 a w e' A1 flv' ⟨s'.fl, ⟨σ1, s'.m.lg⟩, s'.ds, s'.rg⟩ c' F' flvc flc (giveK σc kd y).2 ∧ Is c' (giveK σc kd y).1 v ∧ ∀ {jd T cs}, at' s'.m.σ jd = some (.cells T cs) → at' A1 jd = at' A' jd := by
  unfold takeK at ht
  split at ht
  · rename_i u
    split at ht
    · rename_i x hx
      simp only [Option.some.injEq, Prod.mk.injEq] at ht
      obtain ⟨rfl, rfl⟩ := ht
      obtain ⟨v1, v2, q1, q2, q3⟩ := ofL_is u hx (.cons hv .nil)
      cases q3
      rw [List.append_nil] at q1
      subst q1
      exact ⟨c, F, A', h, one_is (rep_is h.cz u q2), fun _ => rfl⟩
    · cases ht
  · rename_i u cs
    split at ht
    · rename_i x hx
      simp only [Option.some.injEq, Prod.mk.injEq] at ht
      obtain ⟨rfl, rfl⟩ := ht
      cases hv with
      | agg hl =>
        obtain ⟨v1, v2, q1, q2, q3⟩ := ofL_is u hx hl
        cases q3
        rw [List.append_nil] at q1
        subst q1
        exact ⟨c, F, A', h, .agg (rep_is h.cz u q2), fun _ => rfl⟩
    · cases ht
  · rename_i u E id
    split at ht
    · rename_i u' E' xs hB
      cases hb : (Nat.beq E' E && (Nat.ble n id || gone.contains id)) with
      | false => rw [hb] at ht; cases ht
      | true =>
        rw [hb] at ht
        simp only [cond_true] at ht
        simp only [Bool.and_eq_true] at hb
        have hE := Nat.eq_of_beq_eq_true hb.1
        subst hE
        split at ht
        · rename_i hu
          subst hu
          simp only [Option.some.injEq, Prod.mk.injEq] at ht
          obtain ⟨rfl, rfl⟩ := ht
          cases hv with
          | own hi =>
            rename_i i
            have hm' := h.m'
            obtain ⟨i2, m1, hlt, hM⟩ := h.own hB hb.2
            rw [hi] at m1; cases m1
            refine ⟨_, _, _, hM, ?_, fun {jd T cs} hj => ?_⟩
            · show Is _ (.own σc.length) _
              exact .own (by
                have hlb := h.mc.lb
                show at' (_ :: c.bs) σc.length = _
                rw [hlb]; exact at_new)
            · exact at_set_ne hlt fun e => by subst e; rw [hB] at hj; cases hj
        · cases ht
    · cases ht
  · rename_i u E v'
    cases hn : isNil v' with
    | false => rw [hn] at ht; cases ht
    | true =>
      rw [hn] at ht
      simp only [cond_true, Option.some.injEq, Prod.mk.injEq] at ht
      obtain ⟨rfl, rfl⟩ := ht
      have := isNil_eq hn
      subst this
      cases hv
      refine ⟨_, _, A', h.nil u E, ?_, fun _ => rfl⟩
      show Is _ (.own σc.length) _
      exact .own (i := ⟨0, none, 0, 0⟩) (by
        have hlb := h.mc.lb
        show at' (_ :: c.bs) σc.length = _
        rw [hlb]; exact at_new)
  · cases ht
theorem vr_step (h : Mid N ds L0 e n gone fl0 flv0 a w e' A' flv' s' c F flvc flc σc) {v : Vr} {sv : SV} (hr : rdP fl0 s' v.1 = some sv) {y : v.2.ty} {σ1 : List Blk} (ht : takeK n gone s'.m.σ v.2 sv = some (y, σ1)) :
    ∃ c' F' A1 flvc', Mid N ds L0 e n gone fl0 flv0 a w e' A1 flv' ⟨s'.fl, ⟨σ1, s'.m.lg⟩, s'.ds, s'.rg⟩ c' F' flvc' (putP fl0 (giveK σc v.2 y).1 flc (giveK σc v.2 y).2 v.1).1 (putP fl0 (giveK σc v.2 y).1 flc (giveK σc v.2 y).2 v.1).2 := by
  obtain ⟨p, kd⟩ := v
  cases p with
  | slot t =>
    simp only [rdP] at hr
    split at hr
    · rename_i s0 hl
      cases hr
      obtain ⟨u, h1, h2⟩ := h.f'.look hl
      obtain ⟨c', F', A1, hM, hx, _⟩ := kd_step h (res_is h.m' h2) ht
      exact ⟨c', F', A1, _, hM.put_slot h1 hx⟩
    · cases hr
  | cell t j =>
    simp only [rdP] at hr
    split at hr
    · rename_i id q hp
      split at hr
      · rename_i T cs hB
        split at hr
        · rename_i s0 hq
          cases hr
          obtain ⟨i, A, m1, m2, m3⟩ := h.m'.get hB
          cases m3 with
          | cells hl hone =>
            rename_i vs
            obtain ⟨u, h1, h2⟩ := hl.get hq
            obtain ⟨c', F', A1, hM, hx, hk⟩ := kd_step h (res_is h.m' h2) ht
            exact ⟨c', F', A1, flvc, hM.put_cell (cs' := cs) (sv := s0) hp ((hk hB).trans m2) h1 hx⟩
        · cases hr
      · cases hr
    · cases hr
theorem vr_all : ∀ {l : List Vr} {s' : KS} {A' : List Atom} {c : KE} {F : List Atom} {flvc : FL} {flc : SFL} {σc : List Blk} {y : vty l}, Mid N ds L0 e n gone fl0 flv0 a w e' A' flv' s' c F flvc flc σc → getV fl0 n gone l s' = some y →
    ∃ c' F' A1 flvc' s1, Mid N ds L0 e n gone fl0 flv0 a w e' A1 flv' s1 c' F' flvc' (putV fl0 l y flc σc).1 (putV fl0 l y flc σc).2
  | [], s', A', c, F, flvc, flc, σc, y, h, hg => ⟨c, F, A', flvc, s', h⟩
  | [v], s', A', c, F, flvc, flc, σc, y, h, hg => by
    simp only [getV] at hg
    split at hg
    · rename_i x hx
      split at hg
      · rename_i y' σ1 ht
        cases hg
        obtain ⟨c', F', A1, flvc', hM⟩ := vr_step h hx ht
        exact ⟨c', F', A1, flvc', _, hM⟩
      · cases hg
    · cases hg
  | v :: v' :: l, s', A', c, F, flvc, flc, σc, y, h, hg => by
    simp only [getV] at hg
    split at hg
    · rename_i x hx
      split at hg
      · rename_i y' σ1 ht
        split at hg
        · rename_i z hz
          cases hg
          obtain ⟨c', F', A1, flvc', hM⟩ := vr_step h hx ht
          have := vr_all (l := v' :: l) hM hz
          exact this
        · cases hg
      · cases hg
    · cases hg
end Go.K
namespace Go.K
open Go.Sl Go.Sx
variable {e e' e0 : KE} {σ σ' : List Blk} {As As0 L0 L : List Atom} {P : Program} {w : World} {N : Nat} {fl : SFL} {flv : FL} {ρ : Type} {h : Zone} {a : Act} {ds : List Deferred}
variable {n : Nat} {gone : List Nat} {fl0 : SFL} {flv0 : FL} {A' F : List Atom} {flv' flvc : FL} {s' : KS} {c : KE} {flc : SFL} {σc : List Blk}
structure EX (D : List (Nat × Nat)) (g : List Nat) (σ σ' : List Blk) : Prop where
  len : σ.length ≤ σ'.length
  cells : ∀ {id T cs}, at' σ id = some (.cells T cs) → ∃ cs', at' σ' id = some (.cells T cs') ∧ cs'.length = cs.length ∧ ∀ off, (id, off) ∉ D → cs'[off]? = cs[off]?
  other : ∀ {id B}, at' σ id = some B → (∀ T cs, B ≠ .cells T cs) → id ∉ g → at' σ' id = some B
theorem EX.refl {D : List (Nat × Nat)} {g : List Nat} : EX D g σ σ := ⟨Nat.le_refl _, fun h => ⟨_, h, rfl, fun _ _ => rfl⟩, fun h _ _ => h⟩
theorem EX.trans {D : List (Nat × Nat)} {g : List Nat} {x y z : List Blk} (h : EX D g x y) (k : EX D g y z) : EX D g x z :=
  ⟨Nat.le_trans h.len k.len, fun {id T cs} h1 => by
    obtain ⟨c1, a1, a2, a3⟩ := h.cells h1
    obtain ⟨c2, b1, b2, b3⟩ := k.cells a1
    exact ⟨c2, b1, by rw [b2, a2], fun off hn => by rw [b3 off hn, a3 off hn]⟩, fun h1 h2 h3 => k.other (h.other h1 h2 h3) h2 h3⟩
theorem EX.push {D : List (Nat × Nat)} {g : List Nat} (B : Blk) : EX D g σ (B :: σ) := ⟨by simp, fun h => ⟨_, at_cons h, rfl, fun _ _ => rfl⟩, fun h _ _ => at_cons h⟩
theorem EX.cell {D : List (Nat × Nat)} {g : List Nat} {id q : Nat} {T : TypeId} {cs : List SV} (hB : at' σ id = some (.cells T cs)) (hD : (id, q) ∈ D) (s : SV) : EX D g σ (setAt σ id (.cells T (cs.set q s))) := by
  have hl := at_lt hB
  refine ⟨by rw [len_setAt]; exact Nat.le_refl _, fun {j U us} hj => ?_, fun {j C} hj hC _ => ?_⟩
  · by_cases h1 : id = j
    · subst h1
      rw [hB] at hj; cases hj
      refine ⟨_, at_set hl, by simp, fun off hn => List.getElem?_set_ne fun e => by subst e; exact hn hD⟩
    · exact ⟨us, by rw [at_set_ne hl h1]; exact hj, rfl, fun _ _ => rfl⟩
  · have h1 : id ≠ j := fun e => by subst e; rw [hB] at hj; exact hC _ _ (Option.some.inj hj).symm
    rw [at_set_ne hl h1]; exact hj
theorem EX.gon {D : List (Nat × Nat)} {g : List Nat} {id : Nat} {B : Blk} (hB : at' σ id = some B) (hne : ∀ T cs, B ≠ .cells T cs) (hg : id ∈ g) : EX D g σ (setAt σ id .gone) := by
  have hl := at_lt hB
  refine ⟨by rw [len_setAt]; exact Nat.le_refl _, fun {j U us} hj => ?_, fun {j C} hj hC hn => ?_⟩
  · have h1 : id ≠ j := fun e => by subst e; rw [hB] at hj; exact hne _ _ (Option.some.inj hj)
    exact ⟨us, by rw [at_set_ne hl h1]; exact hj, rfl, fun _ _ => rfl⟩
  · have h1 : id ≠ j := fun e => by subst e; exact hn hg
    rw [at_set_ne hl h1]; exact hj
def anyC1 (σ : List Blk) (p : Nat × Nat) : List Blk := match at' σ p.1 with
  | some (.cells T cs) => setAt σ p.1 (.cells T (cs.set p.2 .any))
  | _ => σ
def goneC1 (σ : List Blk) (id : Nat) : List Blk := match at' σ id with
  | some (.cells _ _) => σ
  | some _ => setAt σ id .gone
  | none => σ
def anyC (D : List (Nat × Nat)) (σ : List Blk) : List Blk := D.foldl anyC1 σ
def goneC (g : List Nat) (σ : List Blk) : List Blk := g.foldl goneC1 σ
theorem anyC_ext {D0 : List (Nat × Nat)} {g : List Nat} : ∀ (D : List (Nat × Nat)) (σ : List Blk), (∀ p ∈ D, p ∈ D0) → EX D0 g σ (anyC D σ)
  | [], σ, _ => .refl
  | p :: D, σ, hD => by
    refine EX.trans (y := anyC1 σ p) ?_ (anyC_ext D _ fun q hq => hD q (List.mem_cons_of_mem _ hq))
    unfold anyC1
    split
    · rename_i T cs hB; exact EX.cell hB (hD _ (List.mem_cons_self ..)) _
    · exact .refl
theorem goneC_ext {D0 : List (Nat × Nat)} {g0 : List Nat} : ∀ (g : List Nat) (σ : List Blk), (∀ p ∈ g, p ∈ g0) → EX D0 g0 σ (goneC g σ)
  | [], σ, _ => .refl
  | p :: g, σ, hg => by
    refine EX.trans (y := goneC1 σ p) ?_ (goneC_ext g _ fun q hq => hg q (List.mem_cons_of_mem _ hq))
    unfold goneC1
    split
    · exact .refl
    · rename_i B hB hne; exact EX.gon hne (fun T cs e => hB T cs e) (hg _ (List.mem_cons_self ..))
    · exact .refl
theorem anyC_len (D : List (Nat × Nat)) : ∀ σ : List Blk, (anyC D σ).length = σ.length := by
  induction D with
  | nil => intro σ; rfl
  | cons p D ih =>
    intro σ
    show (anyC D (anyC1 σ p)).length = _
    rw [ih]
    unfold anyC1; split
    · exact len_setAt _ _ _
    · rfl
theorem goneC_len (g : List Nat) : ∀ σ : List Blk, (goneC g σ).length = σ.length := by
  induction g with
  | nil => intro σ; rfl
  | cons p g ih =>
    intro σ
    show (goneC g (goneC1 σ p)).length = _
    rw [ih]
    unfold goneC1; split
    · rfl
    · exact len_setAt _ _ _
    · rfl
theorem anyC_any : ∀ (D : List (Nat × Nat)) {σ : List Blk} {id : Nat} {T : TypeId} {cs cs1 : List SV}, at' σ id = some (.cells T cs1) → at' (anyC D σ) id = some (.cells T cs) →
    ∀ off sv, cs[off]? = some sv → sv = .any ∨ (cs1[off]? = some sv ∧ (id, off) ∉ D)
  | [], σ, id, T, cs, cs1, h1, h2, off, sv, hs => by
    have h3 : at' σ id = some (.cells T cs) := h2
    rw [h1] at h3; cases h3
    exact .inr ⟨hs, by simp⟩
  | p :: D, σ, id, T, cs, cs1, h1, h2, off, sv, hs => by
    have h3 : at' (anyC D (anyC1 σ p)) id = some (.cells T cs) := h2
    by_cases hid : p.1 = id
    · subst hid
      have hm : at' (anyC1 σ p) p.1 = some (.cells T (cs1.set p.2 .any)) := by
        unfold anyC1; rw [h1]; exact at_set (at_lt h1)
      rcases anyC_any D hm h3 off sv hs with h4 | ⟨h4, h5⟩
      · exact .inl h4
      · by_cases ho : p.2 = off
        · subst ho
          have hlt : p.2 < cs1.length := by have := (List.getElem?_eq_some_iff.1 h4).1; simpa using this
          rw [List.getElem?_set_self hlt] at h4
          exact .inl (Option.some.inj h4).symm
        · rw [List.getElem?_set_ne ho] at h4
          refine .inr ⟨h4, fun hm => ?_⟩
          rcases List.mem_cons.1 hm with e1 | e1
          · rw [← e1] at ho; exact ho rfl
          · exact h5 e1
    · have hm : at' (anyC1 σ p) id = some (.cells T cs1) := by
        unfold anyC1
        split
        · rename_i T' cs' hB; rw [at_set_ne (at_lt hB) hid]; exact h1
        · exact h1
      rcases anyC_any D hm h3 off sv hs with h4 | ⟨h4, h5⟩
      · exact .inl h4
      · refine .inr ⟨h4, fun hm => ?_⟩
        rcases List.mem_cons.1 hm with e1 | e1
        · rw [← e1] at hid; exact hid rfl
        · exact h5 e1
theorem goneC_gone : ∀ (g : List Nat) {σ : List Blk} {id : Nat} {B : Blk}, at' σ id = some B → (∀ T cs, B ≠ .cells T cs) → (id ∈ g → at' (goneC g σ) id = some .gone) ∧ (id ∉ g → at' (goneC g σ) id = some B)
  | [], σ, id, B, h1, h2 => ⟨(fun h => by cases h), fun _ => h1⟩
  | p :: g, σ, id, B, h1, h2 => by
    have hs : goneC (p :: g) σ = goneC g (goneC1 σ p) := rfl
    rw [hs]
    by_cases hid : p = id
    · subst hid
      have hm : at' (goneC1 σ p) p = some .gone := by
        unfold goneC1
        rw [h1]
        cases B <;> first | exact absurd rfl (h2 _ _) | exact at_set (at_lt h1)
      obtain ⟨k1, k2⟩ := goneC_gone g hm (fun T cs e => by cases e)
      refine ⟨fun _ => ?_, fun hn => absurd (List.mem_cons_self ..) hn⟩
      by_cases hg : p ∈ g
      · exact k1 hg
      · exact k2 hg
    · have hm : at' (goneC1 σ p) id = some B := by
        unfold goneC1
        split
        · exact h1
        · rename_i B' hB hne; rw [at_set_ne (at_lt hne) hid]; exact h1
        · exact h1
      obtain ⟨k1, k2⟩ := goneC_gone g hm h2
      exact ⟨fun h => k1 ((List.mem_cons.1 h).resolve_left fun e => hid e.symm), fun h => k2 fun hg => h (List.mem_cons_of_mem _ hg)⟩
theorem goneC_cells : ∀ (g : List Nat) {σ : List Blk} {id : Nat} {T : TypeId} {cs : List SV}, at' (goneC g σ) id = some (.cells T cs) → at' σ id = some (.cells T cs)
  | [], σ, id, T, cs, h => h
  | p :: g, σ, id, T, cs, h => by
    have h1 := goneC_cells g (σ := goneC1 σ p) h
    unfold goneC1 at h1
    split at h1
    · exact h1
    · rename_i B hB hne
      by_cases hid : p = id
      · subst hid; rw [at_set (at_lt hne)] at h1; cases h1
      · rwa [at_set_ne (at_lt hne) hid] at h1
    · exact h1
end Go.K
namespace Go.K
open Go.Sl Go.Sx
variable {e e' e0 : KE} {σ σ' : List Blk} {As As0 L0 L : List Atom} {P : Program} {w : World} {N : Nat} {fl : SFL} {flv : FL} {ρ : Type} {h : Zone} {a : Act} {ds : List Deferred}
variable {n : Nat} {fl0 : SFL} {flv0 : FL} {A' F : List Atom} {flv' flvc : FL} {s' : KS} {c : KE} {flc : SFL} {σc : List Blk}
def keysS (fl : SFL) : List Nat := fl.map (·.1)
theorem look_keys : ∀ {fl : SFL} {flv : FL} {t : Nat} {v : Value}, FLIs e fl flv → Sx.look flv t = some v → t ∈ keysS fl
  | [], [], t, v, _, h => by cases h
  | (k, s) :: r, (k', u) :: r', t, v, ⟨h1, _, h3⟩, h => by
    subst h1
    simp only [Sx.look] at h
    cases hb : Nat.beq k t with
    | true => have := Nat.eq_of_beq_eq_true hb; subst this; simp [keysS]
    | false => rw [hb] at h; have := look_keys h3 h; simp only [keysS, List.map_cons, List.mem_cons]; exact .inr this
  | [], _ :: _, _, _, h, _ => h.elim
  | _ :: _, [], _, _, h, _ => h.elim
theorem look_app {d : FL} {m : FL} {t : Nat} (h : t ∉ d.map (·.1)) : Sx.look (d ++ m) t = Sx.look m t := by
  induction d with
  | nil => rfl
  | cons p d ih =>
    simp only [List.map_cons, List.mem_cons, not_or] at h
    show (bif Nat.beq p.1 t then _ else _) = _
    have hb : Nat.beq p.1 t = false := by
      cases hb : Nat.beq p.1 t with
      | true => exact absurd (Nat.eq_of_beq_eq_true hb).symm h.1
      | false => rfl
    rw [hb]; exact ih h.2
theorem fl_keys : ∀ {d : SFL} {dv : FL} {m : SFL} {mv : FL}, FLIs e (d ++ m) (dv ++ mv) → d.length = dv.length → dv.map (·.1) = keysS d ∧ FLIs e m mv
  | [], [], m, mv, h, _ => ⟨rfl, h⟩
  | (k, s) :: d, (k', v) :: dv, m, mv, ⟨h1, _, h3⟩, hl => by
    obtain ⟨k1, k2⟩ := fl_keys h3 (by simpa using hl)
    subst h1
    exact ⟨by simp [keysS] at k1 ⊢; exact k1, k2⟩
  | [], _ :: _, _, _, _, hl => by simp at hl
  | _ :: _, [], _, _, _, hl => by simp at hl
def cellsD (fl0 : SFL) : List Vr → List (Nat × Nat)
  | [] => []
  | (.cell t j is, _) :: l => match plc fl0 t j is with
    | some p => p :: cellsD fl0 l
    | none => cellsD fl0 l
  | _ :: l => cellsD fl0 l
def goneD (s : KS) : List Vr → List Nat
  | [] => []
  | (p, _) :: l => match rdP s.fl s p with
    | some (.own id) => id :: goneD s l
    | _ => goneD s l
def T0fl (kill : List Nat) (fl : SFL) : SFL := kill.map (fun t => (t, SV.any)) ++ fl
def tmpl (kill : List Nat) (l : List Vr) (s : KS) (y : vty l) : KS :=
  let D := cellsD s.fl l
  let g := goneD s l
  let r := putV s.fl l y (T0fl kill s.fl) (goneC g (anyC D s.m.σ))
  ⟨r.1, ⟨r.2, (s.m.σ.length, 0) :: (g.map (fun i => (i, 0)) ++ (D ++ s.m.lg))⟩, s.ds, s.rg⟩
def isCells : Option Blk → Bool
  | some (.cells _ _) => true
  | _ => false
def chk0 (N : Nat) (kill : List Nat) (l : List Vr) (s : KS) : Bool :=
  kill.all (fun t => Nat.blt t N) && ((cellsD s.fl l).all (fun p => isCells (at' s.m.σ p.1)) && (goneD s l).all (fun i => !isCells (at' s.m.σ i) && Nat.blt i s.m.σ.length))
def chk (kill : List Nat) (l : List Vr) (s s' : KS) : Bool :=
  (Nat.beq s'.ds.length s.ds.length && (!s'.rg || s.rg)) && (((s'.fl.take (s'.fl.length - s.fl.length)).all fun p => !(keysS s.fl).contains p.1 || kill.contains p.1) &&
  ((s'.m.lg.take (s'.m.lg.length - s.m.lg.length)).all fun p => Nat.ble s.m.σ.length p.1 || ((cellsD s.fl l).contains p && isCells (at' s.m.σ p.1) || ((goneD s l).contains p.1 && Nat.beq p.2 0))))
def leaf (kill : List Nat) (l : List Vr) (s s' : KS) : Option (vty l) := bif chk kill l s s' then getV s.fl s.m.σ.length (goneD s l) l s' else none
theorem isCells_eq {x : Option Blk} (h : isCells x = true) : ∃ T cs, x = some (.cells T cs) := by
  unfold isCells at h
  split at h
  · exact ⟨_, _, rfl⟩
  · cases h
theorem IsL.of_get : ∀ {l : List SV} {m : List Value}, l.length = m.length → (∀ (i : Nat) (s : SV), l[i]? = some s → ∃ v, m[i]? = some v ∧ Is e s v) → IsL e l m
  | [], [], _, _ => .nil
  | s :: l, v :: m, hl, hk => by
    obtain ⟨v', h1, h2⟩ := hk 0 s rfl
    cases h1
    exact .cons h2 (IsL.of_get (by simpa using hl) fun i s hs => by simpa using hk (i + 1) s (by simpa using hs))
  | [], _ :: _, hl, _ => by simp at hl
  | _ :: _, [], hl, _ => by simp at hl
theorem EX.putP {D : List (Nat × Nat)} {g : List Nat} {p : Pl} {x : SV} (hp : ∀ t j is q, p = .cell t j is → plc fl0 t j is = some q → q ∈ D) : EX D g σ (putP fl0 x fl σ p).2 := by
  cases p with
  | slot t => exact .refl
  | cell t j =>
    simp only [K.putP]
    split
    · rename_i id q hpl
      split
      · rename_i T cs hB; exact EX.cell hB (hp t j _ _ rfl hpl) x
      · exact .refl
    · exact .refl
theorem EX.give {D : List (Nat × Nat)} {g : List Nat} (k : Kd) (y : k.ty) : EX D g σ (giveK σ k y).2 := by
  cases k with
  | dat u => exact .refl
  | agg u => exact .refl
  | own u E => exact EX.push _
theorem cellsD_mem {p : Pl} {k : Kd} {l : List Vr} : ∀ t j is q, p = .cell t j is → plc fl0 t j is = some q → q ∈ cellsD fl0 ((p, k) :: l) := by
  rintro t j is q rfl hq
  simp [cellsD, hq]
theorem cellsD_tail {v : Vr} {l : List Vr} {q : Nat × Nat} (h : q ∈ cellsD fl0 l) : q ∈ cellsD fl0 (v :: l) := by
  obtain ⟨p, k⟩ := v
  cases p with
  | slot t => exact h
  | cell t j =>
    simp only [cellsD]
    split
    · exact List.mem_cons_of_mem _ h
    · exact h
theorem EX.putV {g : List Nat} {D : List (Nat × Nat)} : ∀ (l : List Vr) {y : vty l} {fl : SFL} {σ : List Blk}, (∀ q ∈ cellsD fl0 l, q ∈ D) → EX D g σ (putV fl0 l y fl σ).2
  | [], _, _, _, _ => .refl
  | [v], y, fl, σ, hD => (EX.give v.2 y).trans (EX.putP fun t j is q h1 h2 => hD _ (cellsD_mem (k := v.2) t j is q h1 h2))
  | v :: v' :: l, y, fl, σ, hD => ((EX.give v.2 y.1).trans (EX.putP fun t j is q h1 h2 => hD _ (cellsD_mem (k := v.2) t j is q h1 h2))).trans (EX.putV (v' :: l) fun q hq => hD q (cellsD_tail hq))
theorem St.cut {z : Zone} {X Y Z W : List Atom} (h : St z (X ++ (Y ++ Z) ++ W) w) : St z (X ++ Z ++ W) w := by
  have p : (X ++ (Y ++ Z) ++ W).Perm (Y ++ (X ++ Z ++ W)) := by
    have h1 : (X ++ (Y ++ Z)).Perm (Y ++ (X ++ Z)) := by
      rw [← List.append_assoc, ← List.append_assoc]
      exact List.Perm.append_right _ List.perm_append_comm
    have := h1.append_right W
    rwa [List.append_assoc Y] at this
  have h2 := St.drop Y.length (h.perm p)
  rwa [List.drop_left] at h2
theorem meet {kill : List Nat} {l : List Vr} {s s' : KS} {a0 : Act} {w0 : World} {y : vty l} {ds' : List Deferred} (h0 : KR N L0 e As flv ds s a0 w0) (h1 : KR N L0 e' A' flv' ds' s' a w) (hdx : DX ds ds') (hx : FX s.fl flv s'.fl flv') (hg : Go1 e As s.m e' A' s'.m)
    (hc0 : chk0 N kill l s = true) (hy : leaf kill l s s' = some y) :
    ∃ c Ac flvc, KR N L0 c Ac flvc ds' (tmpl kill l s y) a w ∧ FX s.fl flv (tmpl kill l s y).fl flvc ∧ Go1 e As s.m c Ac (tmpl kill l s y).m := by
  unfold leaf at hy
  cases hc : chk kill l s s' with
  | false => rw [hc] at hy; cases hy
  | true =>
  rw [hc] at hy
  simp only [cond_true] at hy
  simp only [chk, Bool.and_eq_true, List.all_eq_true] at hc
  obtain ⟨⟨hcd, hcr⟩, hcf, hcm⟩ := hc
  have hds : noMk ds' = noMk ds := hdx.same (by rw [← h1.dI.len, ← h0.dI.len]; exact Nat.eq_of_beq_eq_true hcd)
  simp only [chk0, Bool.and_eq_true, List.all_eq_true] at hc0
  obtain ⟨hk0, hD0, hg0⟩ := hc0
  obtain ⟨d, dv, e1, e2, e3⟩ := hx
  have htake : s'.fl.take (s'.fl.length - s.fl.length) = d := by rw [e1]; simp
  rw [htake] at hcf
  obtain ⟨dl, hE⟩ := hg.ext
  have htake2 : s'.m.lg.take (s'.m.lg.length - s.m.lg.length) = dl := by rw [hE.lg]; simp
  rw [htake2] at hcm
  have hn : s.m.σ.length = e.bs.length := h0.mem.lb
  have hbig : s.m.σ.length ≤ A'.length := by rw [← h1.mem.la]; exact hE.len
  have hfl' := h1.fl
  rw [e1, e2] at hfl'
  obtain ⟨kd, _⟩ := fl_keys hfl' e3
  -- what is kept, at the start
  have mid : Mid N ds' (mkA ds' ++ L0) e s.m.σ.length (goneD s l) s.fl flv a w e' A' flv' s' ⟨e'.z, e.bs⟩ [] (kill.map (fun t => (t, a.tmps.getD t undef)) ++ flv) (T0fl kill s.fl) (goneC (goneD s l) (anyC (cellsD s.fl l) s.m.σ)) := by
    have hanyE := anyC_ext (D0 := cellsD s.fl l) (g := []) (cellsD s.fl l) s.m.σ fun p hp => hp
    have hle : e.le ⟨e'.z, e.bs⟩ := ⟨hg.le.z, [], rfl⟩
    refine ⟨hg.le, hn, h1.mem, h1.fl, h1.fr, rfl, ⟨[], rfl⟩, ⟨?_, ?_, ?_⟩, ?_, ?_, ?_, ?_, h0.fl, ?_, hbig⟩
    · rw [goneC_len, anyC_len]; exact hn
    · rw [goneC_len, anyC_len, List.nil_append, drop_len hbig]
    · intro id B hB
      have hid : id < s.m.σ.length := by have := at_lt hB; rwa [goneC_len, anyC_len] at this
      obtain ⟨B0, hB0⟩ := at_some hid
      obtain ⟨i0, A0, p1, p2, p3⟩ := h0.mem.get hB0
      obtain ⟨Ad, hAd⟩ := at_some (l := A'.drop (A'.length - s.m.σ.length)) (id := id) (by rw [drop_len hbig]; exact hid)
      have hAd' := at_drop hbig hAd
      have hlog : ∀ off, (id, off) ∈ dl → ((id, off) ∈ cellsD s.fl l ∧ isCells (some B0) = true) ∨ (id ∈ goneD s l ∧ off = 0) := fun off ho => by
        have := hcm _ ho
        simp only [Bool.or_eq_true, Bool.and_eq_true, hB0] at this
        rcases this with h5 | ⟨h5, h6⟩ | ⟨h5, h6⟩
        · have := Nat.le_of_ble_eq_true h5; omega
        · exact .inl ⟨List.contains_iff_mem.1 h5, h6⟩
        · exact .inr ⟨List.contains_iff_mem.1 h5, Nat.eq_of_beq_eq_true h6⟩
      have hgc : id ∈ goneD s l → isCells (some B0) = false := fun hi => by
        have := hg0 id hi
        rw [hB0] at this
        simp only [Bool.and_eq_true, Bool.not_eq_true'] at this
        exact this.1
      refine ⟨i0, Ad, p1, by simpa using hAd, ?_⟩
      by_cases hcell : isCells (some B0) = true
      · obtain ⟨T, cs, hTc⟩ := isCells_eq hcell
        cases hTc
        have hB1 : at' (anyC (cellsD s.fl l) s.m.σ) id = some B := by
          obtain ⟨csx, q1, q2, q3⟩ := hanyE.cells hB0
          have := (goneC_ext (D0 := []) (g0 := goneD s l) (goneD s l) (anyC (cellsD s.fl l) s.m.σ) fun p hp => hp).cells q1
          obtain ⟨csy, r1, r2, r3⟩ := this
          rw [hB] at r1; cases r1
          exact goneC_cells _ hB
        obtain ⟨csx, q1, q2, q3⟩ := hanyE.cells hB0
        rw [hB1] at q1; cases q1
        obtain ⟨cs', x1, x2, x3⟩ := hE.cells hB0
        obtain ⟨i1, A1, y1, y2, y3⟩ := h1.mem.get x1
        rw [hAd'] at y2; cases y2
        have hii := at_fun hg.le p1 y1
        subst hii
        cases y3 with
        | cells hl' hone =>
          rename_i vs
          cases p3 with
          | cells hl0 hone0 =>
            refine .cells ?_ hone
            refine IsL.of_get (by rw [q2, ← x2, hl'.len]) fun off sv hsv => ?_
            have hlen : off < cs'.length := by have := (List.getElem?_eq_some_iff.1 hsv).1; omega
            obtain ⟨v, hv1, hv2⟩ := hl'.get (List.getElem?_eq_getElem hlen)
            refine ⟨v, hv1, ?_⟩
            rcases anyC_any _ hB0 hB1 off sv hsv with rfl | ⟨hcs, hnD⟩
            · exact .any v
            · have hnd : (id, off) ∉ dl := fun ho => by
                rcases hlog off ho with ⟨h5, _⟩ | ⟨h5, _⟩
                · exact hnD h5
                · have := hgc h5; rw [hcell] at this; cases this
              have hcs' := x3 off hnd
              rw [hcs, List.getElem?_eq_getElem hlen] at hcs'
              have hsvE := Option.some.inj hcs'
              rw [hsvE] at hv2
              obtain ⟨v0, _, hv0⟩ := hl0.get hcs
              exact Is.back hg.le hv0 hv2
      · have hne : ∀ T cs, B0 ≠ .cells T cs := fun T cs e => by subst e; exact hcell rfl
        have hany := hanyE.other hB0 hne (by simp)
        obtain ⟨g1, g2⟩ := goneC_gone (goneD s l) hany hne
        by_cases hgid : id ∈ goneD s l
        · rw [g1 hgid] at hB; cases hB
          exact .gone
        · rw [g2 hgid] at hB; cases hB
          have hnd : (id, 0) ∉ dl := fun ho => by
            rcases hlog 0 ho with ⟨_, h6⟩ | ⟨h5, _⟩
            · exact hcell h6
            · exact hgid h5
          have x1 := hE.other hB0 hne hnd
          obtain ⟨i1, A1, y1, y2, y3⟩ := h1.mem.get x1
          rw [hAd'] at y2; cases y2
          have hii := at_fun hg.le p1 y1
          subst hii
          cases y3 with
          | gone => exact .gone
          | cells => exact absurd rfl (hne _ _)
          | own hn' => exact .own hn'
          | fz hn' hs => exact .fz hn' hs
          | defm => exact .defm
          | map => exact .map
          | fzm hb => exact .fzm hb
          | loop hfl2 =>
            cases p3 with
            | loop hfl1 => exact .loop (FLIs.back hg.le hfl1 hfl2)
    · intro id hgi hid
      have hmem := List.contains_iff_mem.1 hgi
      obtain ⟨B0, hB0⟩ := at_some hid
      have := hg0 id hmem
      rw [hB0] at this
      simp only [Bool.and_eq_true, Bool.not_eq_true'] at this
      have hne : ∀ T cs, B0 ≠ .cells T cs := fun T cs e => by subst e; simp [isCells] at this
      exact (goneC_gone (goneD s l) (hanyE.other hB0 hne (by simp)) hne).1 hmem
    · have key : ∀ k : List Nat, FLIs ⟨e'.z, e.bs⟩ (k.map (fun t => (t, SV.any)) ++ s.fl) (k.map (fun t => (t, a.tmps.getD t undef)) ++ flv) := by
        intro k
        induction k with
        | nil => exact h0.fl.mono hle
        | cons t k ih => exact ⟨rfl, .any _, ih⟩
      exact key kill
    · refine ⟨h1.fr.size, h1.fr.defers, fun t v hl => ?_⟩
      have key : ∀ k : List Nat, (∀ t ∈ k, Nat.blt t N = true) → (∀ t ∈ k, t ∈ kill) → Sx.look (k.map (fun t => (t, a.tmps.getD t undef)) ++ flv) t = some v → a.tmps[t]? = some v ∨ (t ∉ k ∧ Sx.look flv t = some v) := by
        intro k
        induction k with
        | nil => intro _ _ hh; exact .inr ⟨by simp, hh⟩
        | cons q k ih =>
          intro hb hs hh
          simp only [List.map_cons, List.cons_append, Sx.look] at hh
          cases hbq : Nat.beq q t with
          | true =>
            rw [hbq] at hh
            have := Nat.eq_of_beq_eq_true hbq
            subst this
            simp only [cond_true, Option.some.injEq] at hh
            have hlt : q < a.tmps.size := by rw [h1.fr.size]; simpa [Nat.blt_eq] using hb q (by simp)
            refine .inl ?_
            rw [← hh, Array.getD_eq_getD_getElem?, Array.getElem?_eq_getElem hlt]; rfl
          | false =>
            rw [hbq] at hh
            rcases ih (fun t ht => hb t (List.mem_cons_of_mem _ ht)) (fun t ht => hs t (List.mem_cons_of_mem _ ht)) hh with h5 | ⟨h5, h6⟩
            · exact .inl h5
            · refine .inr ⟨fun hm => ?_, h6⟩
              rcases List.mem_cons.1 hm with e5 | e5
              · subst e5; simp at hbq
              · exact h5 e5
      rcases key kill hk0 (fun t h => h) hl with h5 | ⟨h5, h6⟩
      · exact h5
      · have hks := look_keys h0.fl h6
        have hnd : t ∉ dv.map (·.1) := fun hm => by
          rw [kd] at hm
          obtain ⟨p, hp1, hp2⟩ := List.mem_map.1 hm
          have := hcf p hp1
          simp only [Bool.or_eq_true, Bool.not_eq_true', List.contains_iff_mem] at this
          rw [hp2] at this
          rcases this with h7 | h7
          · have := List.contains_iff_mem.2 hks; rw [this] at h7; cases h7
          · exact h5 h7
        refine h1.fr.look t v ?_
        rw [e2, look_app hnd]; exact h6
    · exact ⟨kill.map (fun t => (t, SV.any)), kill.map (fun t => (t, a.tmps.getD t undef)), rfl, rfl, by simp⟩
    · exact h1.st
  obtain ⟨c, F, A1, flvc, s1, hM⟩ := vr_all mid hy
  refine ⟨c, F ++ A1.drop (A1.length - s.m.σ.length), flvc, ⟨hM.frc, hM.fc, hM.mc, ?_, ?_, ?_⟩, hM.fx, ⟨?_, ⟨(s.m.σ.length, 0) :: ((goneD s l).map (fun i => (i, 0)) ++ cellsD s.fl l), ?_, ?_, ?_, ?_⟩, ?_⟩⟩
  · rw [hM.cz]
    have hst := hM.st
    rw [← List.take_append_drop (A1.length - s.m.σ.length) A1] at hst
    exact St.cut hst
  · obtain ⟨q, hq⟩ := hM.cb
    rw [hds]
    exact h0.dI.mono ⟨by rw [hM.cz]; exact hg.le.z, q, hq⟩
  · intro hh
    have hh' : s.rg = false := hh
    rw [hh'] at hcr
    exact h1.rI (by simpa using hcr)
  · obtain ⟨q, hq⟩ := hM.cb
    exact ⟨by rw [hM.cz]; exact hg.le.z, q, hq⟩
  · simp [tmpl]
  · exact ((anyC_ext (D0 := cellsD s.fl l) (g := goneD s l) _ _ fun p hp => hp).trans ((goneC_ext (g0 := goneD s l) _ _ fun p hp => hp).trans (EX.putV l fun q hq => hq))).len
  · intro id T cs hB
    obtain ⟨cs', r1, r2, r3⟩ := ((anyC_ext (D0 := cellsD s.fl l) (g := goneD s l) _ _ fun p hp => hp).trans ((goneC_ext (g0 := goneD s l) _ _ fun p hp => hp).trans (EX.putV (y := y) (fl := T0fl kill s.fl) l fun q hq => hq))).cells hB
    exact ⟨cs', r1, r2, fun off hnm => r3 off fun hm => hnm (by simp [hm])⟩
  · intro id B hB hne hnm
    refine ((anyC_ext (D0 := cellsD s.fl l) (g := goneD s l) _ _ fun p hp => hp).trans ((goneC_ext (g0 := goneD s l) _ _ fun p hp => hp).trans (EX.putV (y := y) (fl := T0fl kill s.fl) l fun q hq => hq))).other hB hne fun hm => hnm ?_
    simp [hm]
  · intro hh
    simp [tmpl] at hh
    omega
end Go.K
namespace Go.K
open Go.Sl Go.Sx
variable {P : Program} {ro : Option Nat} {R : Array Oper} {m : List Nat} {S : World → Prop} {Q : Exit → Act → World → Prop} {y : Nat} {c : Code} {a : Act} {w : World}
def wpAnyY (ro : Option Nat) (P : Program) (ops : Array Oper) (Q : Exit → Act → World → Prop) (y : Nat) (m : List Nat) (S : World → Prop) : Nat → Array Bool → Act → World → Prop
  | 0, listed, a, w => Region.ready .any ops listed = [] ∧ Q .normal a w
  | fuel + 1, listed, a, w =>
    (Region.ready .any ops listed = [] → Q .normal a w) ∧
    ∀ i ∈ Region.ready .any ops listed, (i = y → wpOpIn (WF ro) 0 P ops Q i (wpAnyIn (WF ro) 0 P .any ops Q fuel (listed.setIfInBounds i true)) a w) ∧
      (i ≠ y → wpOp P ops (fun _ _ _ => False) i (fun a' w' => (noLate m (listed.setIfInBounds i true) → S w') ∧ wpAnyY ro P ops Q y m S fuel (listed.setIfInBounds i true) a' w') a w)
theorem wpAnyIn_of_Y (hd : noDefer R = true) : ∀ (fuel : Nat) (listed : Array Bool) (a : Act) (w : World), wpAnyY ro P R Q y m S fuel listed a w → wpAnyIn (WF ro) 0 P .any R Q fuel listed a w
  | 0, _, _, _, h => h
  | fuel + 1, _, _, _, h => ⟨h.1, fun i hi => by
      by_cases he : i = y
      · exact (h.2 i hi).1 he
      · exact wpOpIn_of hd (fun _ _ q => q.elim) (fun _ _ q => q) (wpOp_mono (fun a' w' h' => wpAnyIn_of_Y hd fuel _ a' w' h'.2) ((h.2 i hi).2 he))⟩
theorem wpAnyY_sub {S2 : World → Prop} (hs : ∀ w, S2 w → S w) : ∀ (fuel : Nat) (listed : Array Bool) (a : Act) (w : World), wpAnyY ro P R Q y m S2 fuel listed a w → wpAnyY ro P R Q y m S fuel listed a w
  | 0, _, _, _, h => h
  | fuel + 1, _, _, _, h => ⟨h.1, fun i hi => ⟨(h.2 i hi).1, fun he => wpOp_mono (fun a' w' h' => ⟨fun hn => hs _ (h'.1 hn), wpAnyY_sub hs fuel _ a' w' h'.2⟩) ((h.2 i hi).2 he)⟩⟩
theorem wpAnyY_first {i : Nat} {oi : Oper} {v : Value} {T : World → Prop} (hi : R[i]? = some oi) (hsel : ∀ (j : Nat) (o : Oper) cs b, R[j]? = some o → o.op ≠ .select cs b) (hreach : (aheadL .any R y).contains i = true) (hiy : i ≠ y) (him : i ∉ m)
    (hT : (∀ w, T w) ∨ (lateB .any R m i = true ∧ ∀ w, S w → T w)) :
    ∀ (fuel : Nat) (listed : Array Bool) (a : Act) (w : World), Closed .any R listed → listed.size = R.size →
      (∀ j oj, R[j]? = some oj → j ≠ i → listed.getD j true = false → (∀ e ∈ oj.after, Region.binds .any e = true → e.on ≠ i) → oi.apart R oj = true) →
      i ∈ Region.ready .any R listed → YieldsIf P R T oi v a → T w → (noLate m listed → S w) →
      wpAnyY ro P R Q y m S fuel (listed.setIfInBounds i true) (a.put oi.dst v) w → wpAnyY ro P R Q y m S (fuel + 1) listed a w := by
  intro fuel
  induction fuel with
  | zero =>
    intro listed a w _ _ _ hr hy hT0 hS H
    refine ⟨fun h => (by rw [h] at hr; cases hr), fun j hj => ?_⟩
    by_cases hji : j = i
    · subst hji; exact ⟨fun e => absurd e hiy, fun _ => hy.wpOp hi hT0 ⟨fun h => hS h.unset, H⟩⟩
    · have := ready_mono hj hji
      rw [H.1] at this
      cases this
  | succ fuel ih =>
    intro listed a w hcl hsz hfree hr hy hT0 hS H
    refine ⟨fun h => (by rw [h] at hr; cases hr), fun j hj => ?_⟩
    by_cases hji : j = i
    · subst hji; exact ⟨fun e => absurd e hiy, fun _ => hy.wpOp hi hT0 ⟨fun h => hS h.unset, H⟩⟩
    · obtain ⟨hjun, oj, hoj, hall⟩ := mem_ready.1 hj
      have hiun := (mem_ready.1 hr).1
      refine ⟨fun e => ?_, fun hjy => ?_⟩
      · subst e
        have := reach_listed hcl hoj hall hreach
        rw [unlisted_false hiun] at this
        cases this
      · have h1 := (H.2 j (ready_mono hj hji)).2 hjy
        have hnot : ∀ e ∈ oj.after, Region.binds .any e = true → e.on ≠ i := fun e he hb heq => by
          have h1 := hall e he hb
          rw [heq, unlisted_false hiun] at h1
          cases h1
        have h2 := wpOp_putIf hoj (hfree j oj hoj hji hjun hnot) (fun cs b => hsel i oi cs b hi) (fun cs b => hsel j oj cs b hoj) (fun _ _ _ q => q) hy h1
        have hfree' : ∀ k ok, R[k]? = some ok → k ≠ i → (listed.setIfInBounds j true).getD k true = false →
            (∀ e ∈ ok.after, Region.binds .any e = true → e.on ≠ i) → oi.apart R ok = true := fun k ok hk hki hun hno => by
          refine hfree k ok hk hki ?_ hno
          by_cases hjk : j = k
          · subst hjk; exact hjun
          · rw [getD_set_ne true hjk] at hun; exact hun
        refine wpOp_mono (fun a' w' h3 => ?_) h2
        have hS' : noLate m (listed.setIfInBounds j true) → S w' := fun h => h3.2.1 (by
          rw [← Array.setIfInBounds_comm _ _ hji]
          exact h.set him)
        have hT' : T w' := by
          rcases hT with hT | ⟨hl, hT⟩
          · exact hT w'
          · exact hT w' (hS' ((lateB_none hl hcl hsz hiun).set (lateB_ready hl hcl hiun hj)))
        refine ⟨hS', ih (listed.setIfInBounds j true) a' w' (hcl.set hj) (by simp [hsz]) hfree' (ready_mono hr (Ne.symm hji)) h3.1 hT' hS' ?_⟩
        rw [Array.setIfInBounds_comm _ _ hji]
        exact h3.2.2
def normYS (ops : Array Oper) (m : List Nat) (y : Nat) (pl2 : PT) : Nat → PT → Array Bool → Bool
  | n + 1, .nil, listed => (match Region.ready .any ops listed with | [j] => Nat.beq y j | _ => false) && normT ops [y] n pl2 (listed.setIfInBounds y true)
  | n + 1, .fr i t, listed => ((Region.ready .any ops listed).contains i && Region.free .any ops listed i && !m.contains i) && ((aheadL .any ops y).contains i && !Nat.beq i y && normYS ops m y pl2 n t (listed.setIfInBounds i true))
  | n + 1, .one i t, listed => (match Region.ready .any ops listed with | [j] => Nat.beq i j | _ => false) && (!Nat.beq i y && normYS ops m y pl2 n t (listed.setIfInBounds i true))
  | _, _, _ => false
theorem wpAnyY_planS {pl2 : PT} (hs : Region.noSelect R = true) (hd : noDefer R = true) :
    ∀ (n : Nat) (pl : PT) (q : Bool) (S : World → Prop) (listed : Array Bool) (a : Act) (w : World), Closed .any R listed → listed.size = R.size → (noLate m listed → S w) → (noLate m listed → q = true) → normYS R m y pl2 n pl listed = true →
      wpPlanS noP P R m (fun a w => wpOpIn (WF ro) 0 P R Q y (fun a w => wpPlanS noP P R [y] (fun a w => Q .normal a w) pl2 false (fun _ => True) a w) a w) pl q S a w →
      wpAnyY ro P R Q y m S n listed a w
  | n + 1, .nil, q, S, listed, a, w, hcl, hsz, h0, hq, hB, h => by
    simp only [normYS, Bool.and_eq_true] at hB
    obtain ⟨hr, hB'⟩ := hB
    have hready : Region.ready .any R listed = [y] := by
      split at hr
      · rename_i j hj; have := Nat.eq_of_beq_eq_true hr; subst this; exact hj
      · cases hr
    refine ⟨fun h0 => (by rw [hready] at h0; cases h0), fun j hj => ?_⟩
    have hj0 := hj
    rw [hready] at hj
    simp only [List.mem_singleton] at hj
    subst hj
    refine ⟨fun _ => ?_, fun e => absurd rfl e⟩
    have h' : wpOpIn (WF ro) 0 P R Q j (fun a w => wpPlanS noP P R [j] (fun a w => Q .normal a w) pl2 false (fun _ => True) a w) a w := h
    refine wpOpIn_mono (fun a' w' h3 => wpAnyIn_of_K (ε := noP) hd (fun _ _ q => q) (fun _ _ _ h => h.elim) _ _ _ _ (wpAnyK_planS (ε := noP) hs noP_ok n pl2 false (fun _ => True) _ a' w' (hcl.set hj0) (by simp [hsz]) (fun _ => trivial) (fun hn => ?_) hB' h3)) h'
    exact absurd (List.mem_cons_self ..) (hn.not_mem (unlisted_lt (mem_ready.1 hj0).1))
  | n + 1, .fr i rest, q, S, listed, a, w, hcl, hsz, h0, hq, hB, h => by
    simp only [normYS, Bool.and_eq_true] at hB
    obtain ⟨⟨⟨hr, hf⟩, him⟩, ⟨hre, hne⟩, hB'⟩ := hB
    have hr' : i ∈ Region.ready .any R listed := by simpa using hr
    have him' : i ∉ m := by simpa using him
    have hiy : i ≠ y := fun e => by subst e; simp [Nat.beq_refl] at hne
    obtain ⟨o, v, hi, hy, hrest⟩ := h
    have hrec := wpAnyY_planS hs hd n rest q S _ _ _ (hcl.set hr') (by simp [hsz]) (fun h => h0 h.unset) (fun h => hq h.unset) hB' hrest
    rcases hy with ⟨hy, hS, hl⟩ | hy
    · exact wpAnyY_first (T := S) hi (Region.noSelect_spec hs) hre hiy him' (.inr ⟨hl, fun _ h => h⟩) n listed a w hcl hsz (Region.free_spec hi hf) hr' hy hS h0 hrec
    · exact wpAnyY_first (T := fun _ => True) hi (Region.noSelect_spec hs) hre hiy him' (.inl fun _ => trivial) n listed a w hcl hsz (Region.free_spec hi hf) hr' hy trivial h0 hrec
  | n + 1, .one i rest, q, S, listed, a, w, hcl, hsz, h0, hq, hB, h => by
    simp only [normYS, Bool.and_eq_true] at hB
    obtain ⟨hr, hne, hB'⟩ := hB
    have hready : Region.ready .any R listed = [i] := by
      split at hr
      · rename_i j hj; have := Nat.eq_of_beq_eq_true hr; subst this; exact hj
      · cases hr
    have hiy : i ≠ y := fun e => by subst e; simp [Nat.beq_refl] at hne
    refine ⟨fun h0 => (by rw [hready] at h0; cases h0), fun j hj => ?_⟩
    have hj0 := hj
    rw [hready] at hj
    simp only [List.mem_singleton] at hj
    subst hj
    refine ⟨fun e => absurd e hiy, fun _ => ?_⟩
    have h2 : wpOp P R (pex noP) j _ a w := h
    refine wpOp_mono (fun a' w' h3 => ?_) (wpOp_post (Q' := fun _ _ _ => False) (fun e a w hh => by cases e <;> first | exact hh.elim | exact hh) h2)
    obtain ⟨S2, hsub, h4, h5⟩ := h3
    have hni : noLate m (listed.setIfInBounds j true) → m.contains j = false := fun hn => by
      have := hn.not_mem (unlisted_lt (mem_ready.1 hj0).1)
      simpa using this
    have hS' : noLate m (listed.setIfInBounds j true) → S2 w' := fun hn => h4 (hq hn.unset) (hni hn)
    exact ⟨fun hn => hsub _ (hS' hn), wpAnyY_sub hsub _ _ _ _ (wpAnyY_planS hs hd n rest _ S2 _ _ _ (hcl.set hj0) (by simp [hsz]) hS' (fun hn => by rw [hq hn.unset, hni hn]; rfl) hB' h5)⟩
  | _ + 1, .two _ _ _ _, _, _, _, _, _, _, _, _, _, hB, _ => by simp [normYS] at hB
  | _ + 1, .three _ _ _ _ _ _, _, _, _, _, _, _, _, _, _, hB, _ => by simp [normYS] at hB
  | 0, .nil, _, _, _, _, _, _, _, _, _, hB, _ => by simp [normYS] at hB
  | 0, .fr _ _, _, _, _, _, _, _, _, _, _, hB, _ => by simp [normYS] at hB
  | 0, .one _ _, _, _, _, _, _, _, _, _, _, hB, _ => by simp [normYS] at hB
  | 0, .two _ _ _ _, _, _, _, _, _, _, _, _, _, hB, _ => by simp [normYS] at hB
  | 0, .three _ _ _ _ _ _, _, _, _, _, _, _, _, _, _, hB, _ => by simp [normYS] at hB
def drawYS (c : Code) (y : Nat) (pl pl2 : PT) (m : List Nat) : Bool :=
  (isReg true c && noDefer (cops c)) && (Region.noSelect (cops c) && normYS (cops c) m y pl2 (cops c).size pl (Array.replicate (cops c).size false))
theorem w_regDYS (hm : P.follows .mixedOrders = true) (y : Nat) (pl pl2 : PT) (m : List Nat) (S : World → Prop) (hB : drawYS c y pl pl2 m = true) (hS0 : S w.drew)
    (k : wpPlanS noP P (cops c) m (fun a w => wpOpIn (WF ro) 0 P (cops c) Q y (fun a w => wpPlanS noP P (cops c) [y] (fun a w => Q .normal a w) pl2 false (fun _ => True) a w) a w) pl true S a w.drew) : c.cw ro P Q a w := by
  simp only [drawYS, Bool.and_eq_true] at hB
  obtain ⟨⟨hc, hd⟩, hs, hn⟩ := hB
  cases c <;> simp [isReg] at hc
  rename_i id ops b
  subst hc
  have k1 := wpAnyY_planS (ro := ro) (Q := Q) hs hd _ pl true S _ a w.drew (Closed.none _) (by simp [cops]) (fun _ => hS0) (fun _ => rfl) hn k
  exact wpIn_region_any hm (wpAnyIn_of_Y (ro := ro) (Q := Q) hd _ _ _ _ k1)
def planTo (R : Array Oper) (mL : List Nat) (y : Nat) : Nat → Array Bool → PT × Array Bool × Nat
  | 0, listed => (.nil, listed, 0)
  | n + 1, listed =>
    let rd := Region.ready .any R listed
    match rd.find? (fun i => Region.free .any R listed i && (!mL.contains i && (match R[i]? with | some o => isQ o && (!isLd o || lateB .any R mL i) | none => false))) with
    | some i => match planTo R mL y n (listed.setIfInBounds i true) with
      | (t, l, k) => (.fr i t, l, k)
    | none => match rd with
      | [i] => bif Nat.beq i y then (.nil, listed.setIfInBounds i true, n) else match planTo R mL y n (listed.setIfInBounds i true) with
        | (t, l, k) => (.one i t, l, k)
      | _ => (.nil, listed, n)
def planY (R : Array Oper) (mL : List Nat) (y : Nat) : PT × PT := match planTo R mL y R.size (Array.replicate R.size false) with
  | (t, l, k) => (t, planG R [y] k l)
end Go.K
namespace Go.K
open Go.Sl Go.Sx
inductive KX where
  | nrm | ext (id : Nat) | ret | pan (s : SV)
def XIs (e : KE) : KX → Exit → Prop
  | .nrm, x => x = .normal
  | .ext id, x => x = .exit id
  | .ret, x => x = .ret
  | .pan s, x => ∃ v, x = .panic (pch v) ∧ Is e s v
structure Sp where
  joins : List (Nat × List Vr) := []
  loops : List (Nat × List Vr) := []
  wr : List Nat := []
  pu : List Nat := []
  fz : List (Nat × List Vr) := []
  nz : List (Nat × List Nat) := []
def findN {α : Type} : List (Nat × α) → Nat → Option α
  | [], _ => none
  | (k, v) :: r, n => bif Nat.beq k n then some v else findN r n
def keyOf : Code → Option Nat
  | .region id _ _ => some id
  | .seq a b => match keyOf a with | some k => some k | none => keyOf b
  | .cond _ a b => match keyOf a with | some k => some k | none => keyOf b
  | .block _ a => keyOf a
  | .loop a => keyOf a
  | .scope a => keyOf a
  | .rangeFunc _ _ a b => match keyOf a with | some k => some k | none => keyOf b
  | _ => none
def hasRng : Code → Bool
  | .seq a b => hasRng a || hasRng b
  | .cond _ a b => hasRng a || hasRng b
  | .block _ a => hasRng a
  | .loop a => hasRng a
  | .scope a => hasRng a
  | .rangeFunc .. => true
  | _ => false
def dstsOf : Code → List Nat
  | .region _ ops _ => ops.toList.filterMap (·.dst)
  | .seq a b => dstsOf a ++ dstsOf b
  | .cond _ a b => dstsOf a ++ dstsOf b
  | .block _ a => dstsOf a
  | .loop a => dstsOf a
  | .scope a => dstsOf a
  | _ => []
def killOf (c : Code) (s : KS) : List Nat := let ks := keysS s.fl; (dstsOf c).filter fun t => ks.contains t
def slotsV : List Vr → List Nat
  | [] => []
  | (.slot t, _) :: l => t :: slotsV l
  | _ :: l => slotsV l
def killL (l : List Vr) (s : KS) (k : List Nat) : List Nat := k ++ (slotsV l).filter fun t => (keysS s.fl).contains t && !k.contains t
def specOf (l : List (Nat × List Vr)) (c : Code) : Option (List Vr) := match keyOf c with
  | some k => findN l k
  | none => none
def iter {α ρ : Type} : Nat → (α → Option (α ⊕ ρ)) → α → Option ρ
  | 0, _, _ => none
  | n + 1, f, y => match f y with
    | some (.inl y') => iter n f y'
    | some (.inr r) => some r
    | none => none
def jn {α ρ : Type} (o : Option (α ⊕ ρ)) (f : α → Option ρ) : Option ρ := match o with
  | some (.inl y) => f y
  | some (.inr r) => some r
  | none => none
def outR {α ρ : Type} (o : Option ρ) : Option (α ⊕ ρ) := match o with
  | some r => some (.inr r)
  | none => none
def outL {α ρ : Type} (o : Option α) : Option (α ⊕ ρ) := match o with
  | some r => some (.inl r)
  | none => none
def frzV (fl0 : SFL) : List Vr → KS → KS
  | [], s => s
  | (p, .own _ _) :: l, s => frzV fl0 l s
  | (p, _) :: l, s => match rdP fl0 s p with
    | some v => frzV fl0 l ⟨s.fl, frzL s.m ((svC v).getD []), s.ds, s.rg⟩
    | none => frzV fl0 l s
structure Con where
  run : {ρ : Type} → List SV → KM → (CR → KM → Option ρ) → Option ρ
def argS (args : List SV) : SFL := args.zipIdx.map fun (v, i) => (i, v)
def resL (P : Program) (s : KS) : List ResultVar → Option (List SV)
  | [] => some []
  | .tmp t :: l => match lookS s.fl t, resL P s l with
    | some v, some r => some (res s.m.σ v :: r)
    | _, _ => none
  | .cell t ty :: l => match lookS s.fl t, resL P s l with
    | some (.ptr id off), some r => match at' s.m.σ id with
      | some (.cells _ cs) => match ld P ty cs off with
        | some v => some (res s.m.σ v :: r)
        | none => none
      | _ => none
    | _, _ => none
def resT : List SV → SV
  | [v] => v
  | l => .tup l
def resS (P : Program) (fn : Func) (s : KS) : Option SV := match resL P s fn.results.toList with
  | some l => some (resT l)
  | none => none
def isRecover (o : Oper) : Bool := (match o.guard with | none => true | _ => false) && (match o.op with
  | .call { callee := .builtin .recover, args := ⟨[]⟩, .. } => true
  | _ => false)
def recBody (fn : Func) : Option (Nat × Code) := match fn.body with
  | some (.seq (.region _ ⟨[o]⟩ false) rest) => bif isRecover o && fn.results.isEmpty then (match o.dst with
    | some d => some (d, rest)
    | none => none) else none
  | _ => none
def lastDef (ops : Array Oper) : Option Oper := match ops[ops.size - 1]? with
  | some o => match o.op, o.guard, o.dst with
    | .defer { callee := .value _, args := ⟨[]⟩, .. }, none, none => some o
    | _, _, _ => none
  | none => none
def defOf (σ : List Blk) (fl : SFL) (o : Oper) : Option DF := match o.op with
  | .defer { callee := .value f, .. } => match evS σ fl f with
    | some (.fn g [] c) => some (g, c)
    | _ => none
  | _ => none
abbrev RunY (ρ : Type) := Nat → List SV → KM → (Bool → KM → Option ρ) → Option ρ
def isP : SV → Bool
  | .ptr .. => true | .fn .. => true | .yld .. => true | _ => false
def ptrsF (fl : SFL) : List SV := (fl.map (·.2)).filter isP
def isY : SV → Bool
  | .yld .. => true | _ => false
def yIdx (ops : Array Oper) : Option Nat := (List.range ops.size).find? fun i => match ops[i]? with
  | some o => (match o.op with
    | .call { callee := .value (.tmp _), .. } => true
    | _ => false)
  | none => false
def yldOf (σ : List Blk) (fl : SFL) (o : Oper) : Option (Nat × List SV) := match o.op with
  | .call { callee := .value f, args, .. } => match evS σ fl f, evL σ fl args.toList with
    | some (.yld id _), some l => some (id, l)
    | _, _ => none
  | _ => none
def yFLS (ps : List Tmp) (args : List SV) (fl : SFL) : SFL := (ps.zip args).foldl (fun t p => (p.1, p.2) :: t) fl
def stepY {ρ : Type} (yr : RunY ρ) (R : Array Oper) (N i : Nat) (fl : SFL) (m : KM) (k : SFL → KM → Option ρ) : Option ρ := match R[i]? with
  | none => none
  | some o => bif dstOk N o then grd R fl o (fun fl => bif opsOk fl o then (match yldOf m.σ fl o with
      | some (id, l) => yr id l m (fun b m' => k (putS fl o.dst (.bool b)) m')
      | none => none) else none) (fun fl => k (putS fl o.dst (.raw undef)) m) else none
abbrev RunD (ρ : Type) := FuncId → List SV → SV → KM → (KM → Option ρ) → Option ρ
def endK {ρ : Type} (P : Program) (fn : Func) (rd : RunD ρ) (k : CR → KM → Option ρ) (x : KX) (s : KS) : Option ρ := match x with
  | .ext _ => none
  | .pan v => match s.ds with
    | [] => k (.pan v) s.m
    | [(f, c)] => rd f c v s.m (fun m => match resS P fn ⟨s.fl, m, [], false⟩ with
      | some v => k (.val v) m
      | none => none)
    | _ => none
  | _ => match s.ds with
    | [] => match resS P fn s with
      | some v => k (.val v) s.m
      | none => none
    | [(f, c)] => rd f c (.raw .nilIface) s.m (fun m => match resS P fn ⟨s.fl, m, [], false⟩ with
      | some v => k (.val v) m
      | none => none)
    | _ => none
def kpD {ρ : Type} (kill : List Nat) (s : KS) (k : KX → KS → Option ρ) (fl : SFL) (v : SV) (m : KM) : Option ρ :=
  bif (fl.take (fl.length - s.fl.length)).all (fun p => !(keysS s.fl).contains p.1 || kill.contains p.1) && kill.all (fun t => (keysS s.fl).contains t) then k (.pan v) ⟨T0fl kill s.fl, m, s.ds, s.rg⟩ else none
def neC {α : Type} (xs : List α) : Option Unit := match xs with
  | [] => none
  | _ :: _ => some ()
theorem neC_spec {α : Type} {xs : List α} {u : Unit} (h : neC xs = some u) : xs ≠ [] := by
  intro e; subst e; cases h
def nzS {ρ : Type} (σ : List Blk) : List Nat → SFL → (SFL → Option ρ) → Option ρ
  | [], fl, k => k fl
  | t :: ts, fl, k => match lookS fl t with
    | some v => match res σ v with
      | .sl u xs => (neC xs).bind fun _ => nzS σ ts ((t, .nsl u xs) :: fl) k
      | _ => none
    | none => none
theorem nzS_ok {e : KE} {σ : List Blk} {As : List Atom} {N : Nat} {a : Act} {ds : List Deferred} {ρ : Type} (m : Mem e σ As) : ∀ (l : List Nat) {fl : SFL} {flv : FL} {k : SFL → Option ρ} {r : ρ}, nzS σ l fl k = some r → Fr a N flv ds → FLIs e fl flv → ∃ fl' flv', FX fl flv fl' flv' ∧ Fr a N flv' ds ∧ FLIs e fl' flv' ∧ k fl' = some r
  | [], fl, flv, k, r, h, hf, hl => ⟨fl, flv, .refl, hf, hl, h⟩
  | t :: ts, fl, flv, k, r, h, hf, hl => by
    simp only [nzS] at h
    split at h
    · rename_i v hv
      obtain ⟨u0, h1, h2⟩ := hl.look hv
      have h3 := res_is m h2
      split at h
      · rename_i u xs hr
        rw [hr] at h3
        obtain ⟨_, hn, hk⟩ := bind_some h
        have hne := neC_spec hn
        have h4 : Is e (.nsl u xs) u0 := by
          cases h3 with
          | sl hs => exact .nsl hs fun e => absurd e hne
        have hf2 : Fr a N ((t, u0) :: flv) ds := ⟨hf.size, hf.defers, fun q x hh => by
          simp only [Sx.look] at hh
          cases hb : Nat.beq t q with
          | true => rw [hb] at hh; have := Nat.eq_of_beq_eq_true hb; subst this; cases hh; exact hf.look _ _ h1
          | false => rw [hb] at hh; exact hf.look _ _ hh⟩
        obtain ⟨fl', flv', k1, k2, k3, k4⟩ := nzS_ok m ts hk hf2 ⟨rfl, h4, hl⟩
        exact ⟨fl', flv', (FX.put (some t) (.nsl u xs) u0).trans k1, k2, k3, k4⟩
      · cases h
    · cases h
noncomputable def exec (P : Program) (C : FuncId → Option Con) (SP : FuncId → Sp) (lf : Nat) : Nat → {ρ : Type} → Bool → FuncId → Nat → Code → KS → (KX → KS → Option ρ) → Option ρ
  | 0, _, _, _, _, _, _, _ => none
  | n + 1, ρ, top, g, N, c, s, k =>
    let rd : RunD ρ := fun f caps v m k => match P.funcs[f]? with
      | some fn => match recBody fn with
        | some (d, rest) => let N' := caps.length + (fn.ntmps - caps.length)
          bif Nat.blt d N' && callOK P f then exec P C SP lf n true f N' rest ⟨(d, v) :: argS caps, m, [], false⟩ (fun x s' => match x with
            | .ext _ => none
            | .pan _ => none
            | _ => match s'.ds, s'.rg with
              | [], false => k s'.m
              | _, _ => none) else none
        | none => none
      | none => none
    let call : CallF ρ := fun f args m k => match C f with
      | some con => con.run args m k
      | none => match P.funcs[f]? with
        | some fn => match fn.body with
          | some body => exec P C SP lf n true f (args.length + (fn.ntmps - args.length)) body ⟨argS args, m, [], false⟩ (endK P fn rd k)
          | none => none
        | none => none
    let yr : RunY ρ := fun id args m k => match at' m.σ id with
      | some (.loop g' N' fl ps A B .ready) => bif Nat.beq args.length ps.size && ps.toList.all (fun t => Nat.blt t N') then
          exec P C SP lf n false g' N' A ⟨yFLS ps.toList args fl, ⟨setAt m.σ id .gone, m.lg⟩, [], false⟩ (fun x s1 => match x with
            | .nrm => exec P C SP lf n false g' N' B s1 (fun x s2 => match x with
              | .nrm => k true ⟨setAt s2.m.σ id (.loop g' N' fl ps A B .ready), s2.m.lg⟩
              | .ret => k false ⟨setAt s2.m.σ id (.loop g' N' fl ps A B (.done none)), (id, 0) :: s2.m.lg⟩
              | .ext i => k false ⟨setAt s2.m.σ id (.loop g' N' fl ps A B (.done (some i))), (id, 0) :: s2.m.lg⟩
              | .pan _ => none)
            | _ => none)
        else none
      | _ => none
    match c with
    | .rangeFunc (.tmp t) ps A B => bif top then (match lookS s.fl t with
      | some (.fn gf [] caps) => bif callOK P gf then
          call gf (.yld (s.m.σ.length + 1) (ptrsF s.fl) :: caps) ⟨.loop g N s.fl ps A B .ready :: .defm :: s.m.σ, s.m.lg⟩ (fun x m' => match x with
            | .val _ => match at' m'.σ (s.m.σ.length + 1), at' m'.σ s.m.σ.length with
              | some (.loop _ _ _ _ _ _ st), some .defm =>
                let s' : KS := ⟨s.fl, ⟨setAt (setAt m'.σ (s.m.σ.length + 1) .gone) s.m.σ.length .gone, (s.m.σ.length, 0) :: (s.m.σ.length + 1, 0) :: m'.lg⟩, s.ds, true⟩
                match st with
                | .ready => k .nrm s'
                | .done none => k .ret s'
                | .done (some i) => k (.ext i) s'
                | .busy => none
              | _, _ => none
            | .pan _ => none) else none
      | _ => none) else none
    | .skip => k .nrm s
    | .label _ => k .nrm s
    | .ret => k .ret s
    | .exit id => k (.ext id) s
    | .scope a => exec P C SP lf n top g N a s k
    | .block id a => exec P C SP lf n top g N a s (fun x s' => match x with
      | .ext i => bif Nat.beq i id then k .nrm s' else k (.ext i) s'
      | x => k x s')
    | .cond (.tmp t) a b => match lookS s.fl t with
      | some (.bool t) => cond t (exec P C SP lf n top g N a s k) (exec P C SP lf n top g N b s k)
      | _ => none
    | .seq a b => match specOf (SP g).joins b with
      | none => exec P C SP lf n top g N a s (fun x s' => match x with
        | .nrm => exec P C SP lf n top g N b s' k
        | x => k x s')
      | some l =>
        let s : KS := ⟨s.fl, s.m, s.ds, s.rg || hasRng a⟩
        let kill := killL l s (killOf a s)
        bif chk0 N kill l s then jn (exec P C SP lf n top g N a s (fun x s' => match x with
            | .nrm => outL (leaf kill l s (frzV s.fl l s'))
            | x => outR (k x s'))) (fun y => exec P C SP lf n top g N b (tmpl kill l s y) k) else none
    | .loop a => match specOf (SP g).loops a with
      | none => none
      | some l =>
        let s1 := frzV s.fl l ⟨s.fl, s.m, s.ds, s.rg || hasRng a⟩
        let kill := killL l s1 (killOf a s1)
        bif chk0 N kill l s1 then match leaf kill l s1 s1 with
          | some y0 => iter lf (fun y => exec P C SP lf n top g N a (tmpl kill l s1 y) (fun x s' => match x with
            | .nrm => outL (leaf kill l s1 (frzV s1.fl l s'))
            | x => outR (k x s'))) y0
          | none => none
        else none
    | .region id ops false => nzS s.m.σ ((findN (SP g).nz id).getD []) s.fl fun fl0 => bif noDefer ops then (match (bif fl0.any (fun p => isY p.2) then yIdx ops else none) with
      | some i => seqX P call ops N (fun _ _ _ => none) (List.range i) fl0 s.m (fun fl m => stepY yr ops N i fl m (fun fl m => seqX P call ops N (fun _ _ _ => none) (List.range' (i + 1) (ops.size - (i + 1))) fl m (fun fl m => k .nrm ⟨fl, m, s.ds, s.rg⟩)))
      | none => seqX P call ops N (fun fl v m => k (.pan v) ⟨fl, m, s.ds, s.rg⟩) (List.range ops.size) fl0 s.m (fun fl m => k .nrm ⟨fl, m, s.ds, s.rg⟩))
      else match lastDef ops with
        | some o => bif top then seqX P call ops N (fun _ _ _ => none) (List.range (ops.size - 1)) fl0 s.m (fun fl m => bif opsOk fl o then match defOf m.σ fl o with
          | some d => k .nrm ⟨fl, m, d :: s.ds, s.rg⟩
          | none => none else none) else none
        | none => none
    | .region id ops true =>
      let s := frzV s.fl ((findN (SP g).fz id).getD []) s
      let mL := lateOf ((SP g).wr.contains id) (SP g).pu ops
      match (bif s.fl.any (fun p => isY p.2) then yIdx ops else none) with
      | some i => bif drawYS (.region id ops true) i (planY ops mL i).1 (planY ops mL i).2 mL then drwX P call ops N mL (fun _ _ _ => none) (planY ops mL i).1 true s.fl s.m (fun fl m => stepY yr ops N i fl m (fun fl m => drwX P call ops N [i] (fun _ _ _ => none) (planY ops mL i).2 false fl m (fun fl m => k .nrm ⟨fl, m, s.ds, s.rg⟩))) else none
      | none =>
        let pl := planG ops mL ops.size (Array.replicate ops.size false)
        let kill := killOf c s
        bif drawT (.region id ops true) pl mL && kill.all (fun t => Nat.blt t N) then drwX P call ops N mL (kpD kill s k) pl true s.fl s.m (fun fl m => k .nrm ⟨fl, m, s.ds, s.rg⟩) else none
    | _ => none
end Go.K
namespace Go.Sx
open Go.Sl
variable {P : Program} {w : World} {R : Array Oper} {m : List Nat} {S : World → Prop} {K : Act → World → Prop}
theorem wpOpIn_of0 {ops : Array Oper} {i : Nat} {K : Act → World → Prop} {a : Act} {w : World} {Q : Exit → Act → World → Prop} (h : wpOp P ops (pex noP) i K a w) : wpOpIn (WF none) 0 P ops Q i K a w := by
  unfold wpOp at h
  unfold wpOpIn
  cases ho : ops[i]? with
  | none => rw [ho] at h; exact h
  | some o =>
    rw [ho] at h
    simp only at h ⊢
    cases hw : Region.wanted o (yielded ops a.tmps) with
    | false => rw [hw] at h; simp only [Bool.false_eq_true, if_false] at h ⊢; exact ⟨fun _ _ => trivial, h⟩
    | true =>
      rw [hw] at h
      simp only [if_true] at h ⊢
      have h1 : o.wp P a w K (pex noP) := h.resolve_right (fun ⟨_, _, _, hF⟩ => hF.elim)
      unfold Oper.wp at h1
      refine ⟨fun _ _ => trivial, ?_⟩
      show o.uponIn (WF none) 0 P a K Q ((execOp a.eval o).run P w)
      generalize (execOp a.eval o).run P w = r at *
      cases r with
      | ok x w' =>
        cases x <;> simp only [Oper.upon, Oper.uponIn] at h1 ⊢ <;>
          first
            | exact h1
            | exact h1.elim
            | exact ⟨WF_depth, callsIn_WF.2 (Calls.mono h1 fun e w'' he => by cases e <;> first | exact he | exact he.elim | exact (let ⟨_, _, hF⟩ := he; hF.elim))⟩
            | exact ⟨WF_depth, rowsIn_WF h1⟩
      | halt x w' => cases x <;> simp only [Oper.upon, Oper.uponIn] at h1 ⊢ <;> exact h1.elim
theorem wpOpsIn_app0 {Q : Exit → Act → World → Prop} (rest : List Nat) : ∀ (l : List Nat) (a : Act) (w : World), wpPlan noP P R m S K (l.map fun i => (i, false)) a w → (∀ a w, K a w → wpOpsIn (WF none) 0 P R Q rest a w) → wpOpsIn (WF none) 0 P R Q (l ++ rest) a w
  | [], a, w, k, hQ => hQ a w k
  | i :: l, a, w, k, hQ => by
    rw [List.cons_append, wpOpsIn_cons]
    have k' : wpOp P R (pex noP) i (fun a' w' => (m.contains i = false → S w') ∧ wpPlan noP P R m S K (l.map fun i => (i, false)) a' w') a w := k
    exact wpOpIn_mono (fun a' w' h3 => wpOpsIn_app0 rest l a' w' h3.2 hQ) (wpOpIn_of0 k')
theorem callsD_recover {f : FuncId} {fn : Func} {args : Array Value} {u u' : FrameMode} {R' : Ending → World → Prop} {v : Value} {d : Nat} {N : Nat} {rest : Code} {o : Oper} {id : Nat}
    (hfn : P.funcs[f]? = some fn) (hb : fn.body = some (.seq (.region id #[o] false) rest)) (hN : Nat.beq (args.size + (fn.ntmps - args.size)) N = true) (hd : o.dst = some d) (hdN : Nat.blt d N = true)
    (hg : o.guard = none) (hr : ∀ a : Act, (execOp a.eval o).run P w = .ok .recover w)
    (hrec : ∀ (c₀ : Frame) (cs : List Frame), c₀.mode = u → ((recoverD (c₀ :: cs) = some (v, { c₀ with mode := u' } :: cs)) ∨ (recoverD (c₀ :: cs) = none ∧ v = .nilIface ∧ u' = u)))
    (k : ∀ a, Fr a N ((d, v) :: argFL args) → rest.cw none P (fun e a' w' => match e with | .normal | .ret => a'.defers = [] ∧ ∃ x, (results fn a'.tmps).run P w' = .ok x w' ∧ R' (.returned x) w' | _ => False) a w) :
    CallsDIn (WF none) 0 P f args u w fun e v' w' => v' = u' ∧ R' e w' := by
  refine callsDIn_of_wpSIn hfn hb trivial fun c₀ cs hu => ?_
  let a0 : Act := { tmps := args ++ Array.replicate (fn.ntmps - args.size) undef, defers := [] }
  have hf0 : Fr a0 N (argFL args) := ⟨by simp [a0, Nat.eq_of_beq_eq_true hN], rfl, fun t x hl => by
    obtain ⟨_, h2⟩ := look_zipIdx args.toList 0 t x hl
    have hlt : t < args.size := by
      have := (List.getElem?_eq_some_iff.1 h2).1
      simpa using this
    simp only [Nat.sub_zero, Array.getElem?_toList] at h2
    simp only [a0, Array.getElem?_append, hlt, if_true]
    exact h2⟩
  refine wpSIn_seq (wpSIn_region ?_)
  have hw0 : Region.wanted o (yielded #[o] a0.tmps) = true := by
    simp [Region.wanted, hg]
  have fin : ∀ c1, (c1 = { c₀ with mode := u' }) → rest.wpSIn (WF none) 0 P (bodyPostS P fn c₀ cs fun e v' w' => v' = u' ∧ R' e w') (a0.put o.dst v) (c1 :: cs) w := fun c1 hc1 => by
    subst hc1
    refine wpSIn_of_wpIn rfl ?_
    have hput : Fr (a0.put o.dst v) N ((d, v) :: argFL args) := by
      have := hf0.put (d := o.dst) (by rw [hd]; exact hdN) v
      rw [hd] at this ⊢
      exact this
    refine wpIn_mono (k _ hput) ?_
    intro e a' w' q
    cases e with
    | normal => obtain ⟨h1, x, h2, h3⟩ := q; exact ⟨h1, u', rfl, x, h2, rfl, h3⟩
    | ret => obtain ⟨h1, x, h2, h3⟩ := q; exact ⟨h1, u', rfl, x, h2, rfl, h3⟩
    | _ => exact q.elim
  have h0 : (#[o] : Array Oper)[0]? = some o := rfl
  show wpOpsSIn (WF none) 0 P #[o] _ [0] a0 (c₀ :: cs) w
  simp only [wpOpsSIn, h0]
  refine ⟨fun _ _ => trivial, ?_⟩
  rw [hw0]
  simp only [if_true]
  rw [hr a0]
  simp only
  rcases hrec c₀ cs hu with e | ⟨e, rfl, rfl⟩
  · rw [e]; exact fin _ rfl
  · rw [e]; exact fin _ (by subst hu; rfl)
end Go.Sx
namespace Go.K
open Go.Sl Go.Sx
variable {e e' e0 : KE} {σ σ' : List Blk} {As As0 L0 L A' : List Atom} {P : Program} {w : World} {N : Nat} {fl : SFL} {flv flv' : FL} {ρ : Type} {h : Zone} {a : Act} {ds : List Deferred}
def ConOk (P : Program) (L0 : List Atom) (con : Con) (g : FuncId) : Prop := ∀ {ρ : Type} {args : List SV} {vs : List Value} {m : KM} {e : KE} {As : List Atom} {w : World} {k : CR → KM → Option ρ} {r : ρ},
  con.run args m k = some r → Mem e m.σ As → St e.z (As ++ L0) w → IsL e args vs → Calls P g vs.toArray w (CallR L0 e As m k r)
theorem argS_is : ∀ {l : List SV} {vs : List Value} (i : Nat), IsL e l vs → FLIs e ((l.zipIdx i).map fun (v, i) => (i, v)) ((vs.zipIdx i).map fun (v, i) => (i, v))
  | _, _, i, .nil => trivial
  | _, _, i, .cons h t => ⟨rfl, h, argS_is (i + 1) t⟩
theorem resL_ok {s : KS} (hf : Fr a N flv ds) (hl' : FLIs e s.fl flv) (hm : Mem e s.m.σ As) (hst : St e.z (As ++ L0) w) : ∀ {rs : List ResultVar} {l : List SV}, resL P s rs = some l → ∃ vs, IsL e l vs ∧ (rs.mapM (resOne a.tmps)).run P w = .ok vs w
  | [], l, h => by simp only [resL, Option.some.injEq] at h; subst h; exact ⟨[], .nil, rfl⟩
  | .tmp t :: rs, l, h => by
    simp only [resL] at h
    split at h
    · rename_i v r hl hrr
      cases h
      obtain ⟨u, h1, h2⟩ := hl'.look hl
      obtain ⟨vs, k1, k2⟩ := resL_ok hf hl' hm hst hrr
      refine ⟨u :: vs, .cons (res_is hm h2) k1, ?_⟩
      have h3 : (resOne a.tmps (.tmp t)).run P w = .ok u w := by simp only [resOne, Sem.run_pure, hf.getD h1]
      rw [List.mapM_cons, Sem.run_bind, h3, Result.andThen_ok, Sem.run_bind, k2]; rfl
    · cases h
  | .cell t ty :: rs, l, h => by
    simp only [resL] at h
    split at h
    · rename_i id off r hl hrr
      split at h
      · rename_i T cs hB
        split at h
        · rename_i v hv
          cases h
          obtain ⟨u, h1, h2⟩ := hl'.look hl
          obtain ⟨vs, k1, k2⟩ := resL_ok hf hl' hm hst hrr
          obtain ⟨i, A, m1, m2, m3⟩ := hm.get hB
          cases m3 with
          | cells hc hone =>
            rename_i us
            cases h2 with
            | ptr hi =>
              rw [hi] at m1; cases m1
              obtain ⟨q, q1, q2⟩ := ld_run (P := P) hv hc ⟨i.b, 0, none⟩
              have hw : WM e As L0 w := ⟨e.z, Zone.le_refl _, hst⟩
              have q3 := q2 w fun j x hj => by rw [add_of]; exact hw.box m2 hj
              rw [add_of] at q3
              refine ⟨q :: vs, .cons (res_is hm q1) k1, ?_⟩
              have h3 : (resOne a.tmps (.cell t ty)).run P w = .ok q w := by
                simp only [resOne, Sem.run_bind, hf.getD h1, asAddr, Sem.run_pure, Result.andThen_ok, q3]
              rw [List.mapM_cons, Sem.run_bind, h3, Result.andThen_ok, Sem.run_bind, k2]; rfl
        · cases h
      · cases h
    · cases h
theorem resT_is {l : List SV} {vs : List Value} (h : IsL e l vs) : Is e (resT l) (resV vs) := by
  cases h with
  | nil => exact Is.tup (vs := []) .nil
  | cons h1 h2 =>
    cases h2 with
    | nil => exact h1
    | cons h3 h4 => exact Is.tup (vs := _ :: _ :: _) (.cons h1 (.cons h3 h4))
theorem resS_ok {s : KS} {fn : Func} {v : SV} (hf : Fr a N flv ds) (hl' : FLIs e s.fl flv) (hm : Mem e s.m.σ As) (hst : St e.z (As ++ L0) w) (h : resS P fn s = some v) : ∃ u, Is e v u ∧ (results fn a.tmps).run P w = .ok u w := by
  unfold resS at h
  split at h
  · rename_i l hl
    cases h
    obtain ⟨vs, k1, k2⟩ := resL_ok hf hl' hm hst hl
    refine ⟨resV vs, resT_is k1, ?_⟩
    have h2 : (fn.results.mapM (resOne a.tmps)).run P w = .ok vs.toArray w := by
      rw [Array.mapM_eq_mapM_toList, map_eq_pure_bind, Sem.run_bind, k2]
      rfl
    have h3 : results fn a.tmps = (do let vs ← fn.results.mapM (resOne a.tmps); pure (if h : vs.size = 1 then vs[0] else .tuple vs)) := rfl
    rw [h3, Sem.run_bind, h2, Result.andThen_ok, Sem.run_pure, ← resV_eq]
  · cases h
theorem recBody_eq {fn : Func} {d : Nat} {rest : Code} (h : recBody fn = some (d, rest)) : ∃ id o, fn.body = some (.seq (.region id #[o] false) rest) ∧ o.dst = some d ∧ o.guard = none ∧ fn.results = #[] ∧ ∃ ts, o.op = .call { callee := .builtin .recover, args := #[], argTypes := ts } := by
  unfold recBody at h
  split at h
  · rename_i id o rest' hb
    cases hc : (isRecover o && fn.results.isEmpty) with
    | false => rw [hc] at h; cases h
    | true =>
      rw [hc] at h
      simp only [cond_true] at h
      simp only [Bool.and_eq_true] at hc
      split at h
      · rename_i d' hd
        cases h
        have h1 := hc.1
        simp only [isRecover, Bool.and_eq_true] at h1
        refine ⟨id, o, hb, hd, ?_, by simpa using hc.2, ?_⟩
        · cases hg : o.guard with
          | none => rfl
          | some => rw [hg] at h1; cases h1.1
        · have h2 := h1.2
          split at h2
          · rename_i ts hop; exact ⟨ts, hop⟩
          · cases h2
      · cases h
  · cases h
def RunDOk {ρ : Type} (P : Program) (L0 : List Atom) (rd : RunD ρ) : Prop := ∀ {f : FuncId} {caps : List SV} {sv : SV} {m : KM} {k : KM → Option ρ} {r : ρ}, rd f caps sv m k = some r → callOK P f = true ∧
  ∀ {e : KE} {As : List Atom} {w : World} {cs : List Value} {v : Value} {u u' : FrameMode}, Mem e m.σ As → St e.z (As ++ L0) w → IsL e caps cs → Is e sv v →
    (∀ (c₀ : Frame) (fs : List Frame), c₀.mode = u → ((recoverD (c₀ :: fs) = some (v, { c₀ with mode := u' } :: fs)) ∨ (recoverD (c₀ :: fs) = none ∧ v = .nilIface ∧ u' = u))) →
    CallsDIn (WF none) 0 P f cs.toArray u w fun en u2 w' => u2 = u' ∧ (en = .returned (.tuple #[]) ∧ ∃ m' e' As', k m' = some r ∧ Go1 e As m e' As' m' ∧ Mem e' m'.σ As' ∧ St e'.z (As' ++ L0) w')
theorem invoke_run {f : FuncId} {cs : List Value} (h : callOK P f = true) : (invoke (.fn (.func f) cs.toArray) #[]).run P w = .ok (.enter f cs.toArray) w := by
  unfold callOK at h
  split at h
  · rename_i fn hfn
    simp only [Bool.and_eq_true, Bool.not_eq_true'] at h
    have hn : ¬ fn.name = "runtime.NumGoroutine" := by simpa using h.1
    have hnb : ¬ fn.body = none := fun e => by simp [e] at h
    simp [invoke, callFunc, hfn, hn, hnb]
  · cases h
theorem out_def {fn : Func} {R' : Ending → World → Prop} {tmps : Array Value} {u u' : FrameMode} {f : FuncId} {cs : List Value} {dd : List Deferred} (hu : u ≠ .run) (hs : settle u' = .returning) (hok : callOK P f = true)
    (hcl : CallsDIn (WF none) 0 P f cs.toArray u w fun en u2 w' => u2 = u' ∧ (en = .returned (.tuple #[]) ∧ LeavesInM (WF none) 0 P fn tmps R' dd .returning w')) :
    LeavesInM (WF none) 0 P fn tmps R' ({ target := .fn (.func f) cs.toArray, args := #[] } :: dd) u w := by
  refine ⟨hu, .inr ⟨fun e => absurd (show false = true from e) (by decide), .func f, cs.toArray, f, cs.toArray, rfl, invoke_run hok, fun _ _ => trivial, ?_⟩⟩
  refine CallsDIn.mono hcl ?_
  rintro en u2 w' ⟨rfl, rfl, ho⟩
  show LeavesInM (WF none) 0 P fn tmps R' dd (settle u2) w'
  rw [hs]
  exact ho
theorem marks_out {fn : Func} {R' : Ending → World → Prop} {tmps : Array Value} {u : FrameMode} {z : Zone} (hu : u ≠ .run) : ∀ (m1 rest : List Deferred) {w : World}, noMk m1 = [] → St z (As ++ (mkA (m1 ++ rest) ++ L0)) w →
    (∀ w', St z (As ++ (mkA rest ++ L0)) w' → LeavesInM (WF none) 0 P fn tmps R' rest u w') → LeavesInM (WF none) 0 P fn tmps R' (m1 ++ rest) u w
  | [], rest, w, _, hs, k => k w hs
  | d :: m1, rest, w, hn, hs, k => by
    cases hd : mkD d with
    | none => simp [noMk, hd] at hn
    | some D =>
      have hn' : noMk m1 = [] := by simpa [noMk, hd] using hn
      have hA : mkA (d :: m1 ++ rest) = defA D :: mkA (m1 ++ rest) := by simp [mkA, marksOf, hd]
      rw [hA] at hs
      have hj : (As ++ (defA D :: mkA (m1 ++ rest) ++ L0))[As.length]? = some (defA D) := by simp
      have htg : d.target = .collected D := by
        unfold mkD at hd
        split at hd
        · rename_i r hr; cases hd; exact hr
        · cases hd
      obtain ⟨o, ho, hl, hput⟩ := hs.focus1 hj (l := D) (fun z hz => ⟨_, hz⟩)
      have he : o = .deferred (some []) := Hp.one_inj ho
      subst he
      refine ⟨hu, .inl ⟨D, _, htg, run_takeDeferred hl, marks_out hu m1 rest hn' ?_ k⟩⟩
      have h1 := hput ⟨fun _ z => z = Hp.one D (.deferred none), fun _ _ _ _ h => h⟩ (.deferred none) rfl
      have e2 : (As ++ (defA D :: mkA (m1 ++ rest) ++ L0)).set As.length ⟨fun _ z => z = Hp.one D (.deferred none), fun _ _ _ _ h => h⟩ = As ++ ([⟨fun _ z => z = Hp.one D (.deferred none), fun _ _ _ _ h => h⟩] ++ mkA (m1 ++ rest)) ++ L0 := by
        simp
      rw [e2] at h1
      have := St.cut h1
      rwa [List.append_assoc] at this
theorem noMk_one : ∀ {dv : List Deferred} {d : Deferred}, noMk dv = [d] → ∃ m1 m2, dv = m1 ++ d :: m2 ∧ noMk m1 = [] ∧ noMk m2 = [] ∧ mkD d = none
  | [], d, h => by cases h
  | x :: dv, d, h => by
    cases hx : mkD x with
    | some D =>
      have h' : noMk dv = [d] := by simpa [noMk, hx] using h
      obtain ⟨m1, m2, rfl, h1, h2, h3⟩ := noMk_one h'
      exact ⟨x :: m1, m2, rfl, by simp only [noMk, List.filter_cons, hx] at h1 ⊢; simpa using h1, h2, h3⟩
    | none =>
      have h' : x = d ∧ noMk dv = [] := by simpa [noMk, hx] using h
      obtain ⟨rfl, h'⟩ := h'
      exact ⟨[], dv, rfl, rfl, h', hx⟩
theorem noMk_nil {dv : List Deferred} (h : noMk dv = []) (k : marksOf dv = []) : dv = [] := by
  cases dv with
  | nil => rfl
  | cons d dv =>
    cases hd : mkD d with
    | none => simp [noMk, hd] at h
    | some D => simp [marksOf, hd] at k
theorem endK_ok {rd : RunD ρ} (hrd : ∀ ms : List Deferred, RunDOk P (mkA ms ++ L0) rd) {dv : List Deferred} {s : KS} {fn : Func} {k : CR → KM → Option ρ} {r : ρ} {x : KX} {X : Exit} {m0 : KM} {e0 : KE} {A0 : List Atom} (h : endK P fn rd k x s = some r) (hr : KR N L0 e As flv dv s a w) (hX : XIs e x X) (hg : Go1 e0 A0 m0 e As s.m) {R' : Ending → World → Prop}
    (hR : ∀ en w', CallR L0 e0 A0 m0 k r en w' → R' en w') : postM P fn R' X a w := by
  have key : ∀ {m2 : KM} {e2 : KE} {As2 : List Atom} {w2 : World} {q : List DF} {b : Bool} (v : SV), resS P fn ⟨s.fl, m2, q, b⟩ = some v → k (.val v) m2 = some r → e.le e2 → Mem e2 m2.σ As2 → St e2.z (As2 ++ L0) w2 → Go1 e0 A0 m0 e2 As2 m2 → LeavesInM (WF none) 0 P fn a.tmps R' [] .returning w2 := fun {m2 e2 As2 w2 q b} v h1 h2 h3 h4 h5 h6 => by
    obtain ⟨u, q1, q2⟩ := resS_ok (s := ⟨s.fl, m2, q, b⟩) hr.fr (hr.fl.mono h3) h4 h5 h1
    exact ⟨u, q2, hR _ _ ⟨.val v, _, _, _, h2, ⟨u, rfl, q1⟩, h6, h4, h5⟩⟩
  have keyD : ∀ {f : FuncId} {c : List SV} {sv : SV} {v : Value} {u u' : FrameMode} {cs : List Value} {m2 : List Deferred} {w : World}, rd f c sv s.m (fun m => match resS P fn ⟨s.fl, m, [], false⟩ with
      | some v => k (.val v) m
      | none => none) = some r → noMk m2 = [] → St e.z (As ++ (mkA m2 ++ L0)) w → IsL e c cs → Is e sv v → u ≠ .run → settle u' = .returning →
      (∀ (c₀ : Frame) (fs : List Frame), c₀.mode = u → ((recoverD (c₀ :: fs) = some (v, { c₀ with mode := u' } :: fs)) ∨ (recoverD (c₀ :: fs) = none ∧ v = .nilIface ∧ u' = u))) →
      LeavesInM (WF none) 0 P fn a.tmps R' ({ target := .fn (.func f) cs.toArray, args := #[] } :: m2) u w := fun {f c sv v u u' cs m2 w} hrun hm2 hst hc hv hu hs hrec => by
    obtain ⟨hok, hd⟩ := hrd m2 hrun
    refine out_def hu hs hok (CallsDIn.mono (hd hr.mem hst hc hv hrec) ?_)
    rintro en u2 w' ⟨h1, h2, m', e', As', k1, k2, k3, k4⟩
    refine ⟨h1, h2, ?_⟩
    have := marks_out (fn := fn) (R' := R') (tmps := a.tmps) (u := .returning) (P := P) (As := As') (L0 := L0) (z := e'.z) (by simp) m2 [] (w := w') hm2 (by rw [List.append_nil]; exact k4) (fun w'' k5 => ?_)
    · rwa [List.append_nil] at this
    · split at k1
      · rename_i q hq
        exact key (q := []) q hq k1 k2.le k3 k5 (hg.trans k2)
      · cases k1
  have ret : (match s.ds with
      | [] => match resS P fn s with
        | some v => k (.val v) s.m
        | none => none
      | [(f, c)] => rd f c (.raw .nilIface) s.m (fun m => match resS P fn ⟨s.fl, m, [], false⟩ with
        | some v => k (.val v) m
        | none => none)
      | _ => none) = some r → LeavesInM (WF none) 0 P fn a.tmps R' dv .returning w := fun h => by
    have hd := hr.dI
    split at h
    · rename_i hds
      rw [hds] at hd
      cases hdv : noMk dv with
      | nil =>
        split at h
        · rename_i v hv
          have := marks_out (fn := fn) (R' := R') (tmps := a.tmps) (u := .returning) (P := P) (As := As) (L0 := L0) (z := e.z) (by simp) dv [] (w := w) hdv (by rw [List.append_nil]; exact hr.st) (fun w'' k5 => key (m2 := s.m) (q := s.ds) (b := s.rg) v hv h .rfl hr.mem k5 hg)
          rwa [List.append_nil] at this
        · cases h
      | cons => rw [hdv] at hd; exact hd.elim
    · rename_i f c hds
      rw [hds] at hd
      match hdv : noMk dv, hd with
      | [d], ⟨⟨vs, h1, h2⟩, _⟩ =>
        obtain ⟨m1, m2, rfl, n1, n2, n3⟩ := noMk_one hdv
        refine marks_out (by simp) m1 (d :: m2) n1 hr.st fun w' k5 => ?_
        have hA : mkA (d :: m2) = mkA m2 := by simp [mkA, marksOf, n3]
        rw [hA] at k5
        subst h1
        exact keyD h n2 k5 h2 (.raw _) (by simp) rfl fun c₀ fs hu => .inr ⟨by simp [recoverD, hu], rfl, rfl⟩
      | [], hd => exact hd.elim
      | d :: d' :: _, ⟨_, hd⟩ => exact hd.elim
    · cases h
  cases x with
  | ext id => cases h
  | nrm =>
    have hX' : X = .normal := hX
    subst hX'
    show LeavesInM (WF none) 0 P fn a.tmps R' a.defers .returning w
    rw [hr.fr.defers]
    exact ret h
  | ret =>
    have hX' : X = .ret := hX
    subst hX'
    show LeavesInM (WF none) 0 P fn a.tmps R' a.defers .returning w
    rw [hr.fr.defers]
    exact ret h
  | pan sv =>
    obtain ⟨v, rfl, hv⟩ := hX
    show LeavesInM (WF none) 0 P fn a.tmps R' a.defers (.panicking (pch v)) w
    rw [hr.fr.defers]
    have hd := hr.dI
    simp only [endK] at h
    split at h
    · rename_i hds
      rw [hds] at hd
      cases hdv : noMk dv with
      | nil =>
        have := marks_out (fn := fn) (R' := R') (tmps := a.tmps) (u := .panicking (pch v)) (P := P) (As := As) (L0 := L0) (z := e.z) (by simp) dv [] (w := w) hdv (by rw [List.append_nil]; exact hr.st) (fun w'' k5 => hR _ _ ⟨.pan sv, s.m, e, As, h, ⟨v, rfl, hv⟩, hg, hr.mem, k5⟩)
        rwa [List.append_nil] at this
      | cons => rw [hdv] at hd; exact hd.elim
    · rename_i f c hds
      rw [hds] at hd
      match hdv : noMk dv, hd with
      | [d], ⟨⟨vs, h1, h2⟩, _⟩ =>
        obtain ⟨m1, m2, rfl, n1, n2, n3⟩ := noMk_one hdv
        refine marks_out (by simp) m1 (d :: m2) n1 hr.st fun w' k5 => ?_
        have hA : mkA (d :: m2) = mkA m2 := by simp [mkA, marksOf, n3]
        rw [hA] at k5
        subst h1
        exact keyD (u' := .panicking [{ v := v, recovered := true }]) h n2 k5 h2 hv (by simp) rfl fun c₀ fs hu => .inl (by simp [recoverD, hu])
      | [], hd => exact hd.elim
      | d :: d' :: _, ⟨_, hd⟩ => exact hd.elim
    · cases h
theorem frzV_ok {fl0 : SFL} : ∀ (l : List Vr) {s : KS} {e : KE} {As : List Atom}, KR N L0 e As flv ds s a w → (frzV fl0 l s).fl = s.fl ∧ (frzV fl0 l s).ds = s.ds ∧ ∃ e' As', Go1 e As s.m e' As' (frzV fl0 l s).m ∧ KR N L0 e' As' flv ds (frzV fl0 l s) a w
  | [], s, e, As, h => ⟨rfl, rfl, e, As, .refl, h⟩
  | (p, .own _ _) :: l, s, e, As, h => frzV_ok l h
  | (p, .dat u) :: l, s, e, As, h => by
    simp only [frzV]
    split
    · rename_i v hv
      obtain ⟨e1, A1, g1, g2, g3⟩ := frzL_ok ((svC v).getD []) h.mem h.st
      obtain ⟨k1, k2, e2, A2, g4, g5⟩ := frzV_ok l (s := ⟨s.fl, frzL s.m ((svC v).getD []), s.ds, s.rg⟩) ⟨h.fr, h.fl.mono g1.le, g2, g3, h.dI.mono g1.le, h.rI⟩
      exact ⟨k1, k2, e2, A2, g1.trans g4, g5⟩
    · exact frzV_ok l h
  | (p, .agg u) :: l, s, e, As, h => by
    simp only [frzV]
    split
    · rename_i v hv
      obtain ⟨e1, A1, g1, g2, g3⟩ := frzL_ok ((svC v).getD []) h.mem h.st
      obtain ⟨k1, k2, e2, A2, g4, g5⟩ := frzV_ok l (s := ⟨s.fl, frzL s.m ((svC v).getD []), s.ds, s.rg⟩) ⟨h.fr, h.fl.mono g1.le, g2, g3, h.dI.mono g1.le, h.rI⟩
      exact ⟨k1, k2, e2, A2, g1.trans g4, g5⟩
    · exact frzV_ok l h
theorem outL_inl {α : Type} {o : Option α} {y : α} (h : (outL o : Option (α ⊕ ρ)) = some (.inl y)) : o = some y := by
  unfold outL at h; split at h
  · cases h; rfl
  · cases h
theorem outL_inr {α : Type} {o : Option α} {y : ρ} (h : (outL o : Option (α ⊕ ρ)) = some (.inr y)) : False := by
  unfold outL at h; split at h <;> cases h
theorem outR_inr {α : Type} {o : Option ρ} {y : ρ} (h : (outR o : Option (α ⊕ ρ)) = some (.inr y)) : o = some y := by
  unfold outR at h; split at h
  · cases h; rfl
  · cases h
theorem outR_inl {α : Type} {o : Option ρ} {y : α} (h : (outR o : Option (α ⊕ ρ)) = some (.inl y)) : False := by
  unfold outR at h; split at h <;> cases h
variable {C : FuncId → Option Con} {SP : FuncId → Sp} {lf : Nat}
def ExecOk (P : Program) (C : FuncId → Option Con) (SP : FuncId → Sp) (lf : Nat) (Cl : List Atom → Prop) (n : Nat) : Prop := ∀ {L0 : List Atom}, Cl L0 → ∀ {ρ : Type} {top : Bool} {g : FuncId} {N : Nat} {c : Code} {s : KS} {k : KX → KS → Option ρ} {r : ρ}, exec P C SP lf n top g N c s k = some r →
  ∀ {dv : List Deferred} {e : KE} {As : List Atom} {flv : FL} {a : Act} {w : World} {Q : Exit → Act → World → Prop} {ro : Option Nat}, (top = true → ro = none) → KR N L0 e As flv dv s a w →
    (∀ x s' e' As' flv' dv' a' w' X, k x s' = some r → FX s.fl flv s'.fl flv' → DX dv dv' → Go1 e As s.m e' As' s'.m → KR N L0 e' As' flv' dv' s' a' w' → XIs e' x X → Q X a' w') → c.cw ro P Q a w
noncomputable def rdF (P : Program) (C : FuncId → Option Con) (SP : FuncId → Sp) (lf n : Nat) (ρ : Type) : RunD ρ := fun f caps v m k => match P.funcs[f]? with
      | some fn => match recBody fn with
        | some (d, rest) => let N' := caps.length + (fn.ntmps - caps.length)
          bif Nat.blt d N' && callOK P f then exec P C SP lf n true f N' rest ⟨(d, v) :: argS caps, m, [], false⟩ (fun x s' => match x with
            | .ext _ => none
            | .pan _ => none
            | _ => match s'.ds, s'.rg with
              | [], false => k s'.m
              | _, _ => none) else none
        | none => none
      | none => none
noncomputable def callF (P : Program) (C : FuncId → Option Con) (SP : FuncId → Sp) (lf n : Nat) (ρ : Type) : CallF ρ := fun f args m k => match C f with
      | some con => con.run args m k
      | none => match P.funcs[f]? with
        | some fn => match fn.body with
          | some body => exec P C SP lf n true f (args.length + (fn.ntmps - args.length)) body ⟨argS args, m, [], false⟩ (endK P fn (rdF P C SP lf n ρ) k)
          | none => none
        | none => none
theorem cl_app {Cl : List Atom → Prop} (hup : ∀ A L, Cl L → Cl (A :: L)) (h : Cl L0) : ∀ l : List Atom, Cl (l ++ L0)
  | [] => h
  | A :: l => hup A _ (cl_app hup h l)
theorem cl_marks {Cl : List Atom → Prop} (hup : ∀ A L, Cl L → Cl (A :: L)) (h : Cl L0) (ms : List Deferred) : Cl (mkA ms ++ L0) := cl_app hup h _
theorem rd_ok {Cl : List Atom → Prop} {n : Nat} (ih : ExecOk P C SP lf Cl n) (hcl : Cl L0) {ρ : Type} : RunDOk P L0 (rdF P C SP lf n ρ) := by
  intro f caps sv m k r h
  simp only [rdF] at h
  split at h
  · rename_i fn hfn
    split at h
    · rename_i d rest hb
      cases hc : (Nat.blt d (caps.length + (fn.ntmps - caps.length)) && callOK P f) with
      | false => rw [hc] at h; cases h
      | true =>
        rw [hc] at h
        simp only [cond_true] at h
        simp only [Bool.and_eq_true] at hc
        refine ⟨hc.2, fun {e As w cs v u u'} h1 h2 hl hv hrec => ?_⟩
        obtain ⟨id, o, b1, b2, b3, b4, ts, b5⟩ := recBody_eq hb
        have hlen := hl.len
        have hrun : ∀ a : Act, (execOp a.eval o).run P w = .ok .recover w := fun a => by simp [execOp, b5, resolve, invoke, builtin]
        refine CallsDIn.mono (callsD_recover (R' := fun en w' => en = .returned (.tuple #[]) ∧ ∃ m' e' As', k m' = some r ∧ Go1 e As m e' As' m' ∧ Mem e' m'.σ As' ∧ St e'.z (As' ++ L0) w') (N := caps.length + (fn.ntmps - caps.length)) hfn b1 (by simp [hlen]) b2 hc.1 b3 hrun hrec fun a hf => ?_) fun en u2 w' h => h
        have hkr : KR (caps.length + (fn.ntmps - caps.length)) L0 e As ((d, v) :: argFL cs.toArray) [] ⟨(d, sv) :: argS caps, m, [], false⟩ a w := ⟨hf, ⟨rfl, hv, argS_is 0 hl⟩, h1, h2, trivial, fun _ => rfl⟩
        refine ih hcl h (fun _ => rfl) hkr fun x s' e' As' flv' dv' a' w' X q1 q2 q3 q4 q5 q6 => ?_
        have fin : (match s'.ds, s'.rg with | [], false => k s'.m | _, _ => none) = some r → a'.defers = [] ∧ ∃ x, (results fn a'.tmps).run P w' = .ok x w' ∧ (Ending.returned x = .returned (.tuple #[]) ∧ ∃ m' e' As', k m' = some r ∧ Go1 e As m e' As' m' ∧ Mem e' m'.σ As' ∧ St e'.z (As' ++ L0) w') := fun hh => by
          have hd := q5.dI
          split at hh
          · rename_i hds hrg
            rw [hds] at hd
            cases hdv : noMk dv' with
            | nil =>
              have hdv' := noMk_nil hdv (q5.rI hrg)
              subst hdv'
              refine ⟨q5.fr.defers, .tuple #[], ?_, rfl, s'.m, e', As', hh, q4, q5.mem, q5.st⟩
              simp [results, b4]
            | cons => rw [hdv] at hd; exact hd.elim
          · cases hh
        cases x with
        | ext i => cases q1
        | pan s => cases q1
        | nrm => have hX : X = .normal := q6; subst hX; exact fin q1
        | ret => have hX : X = .ret := q6; subst hX; exact fin q1
    · cases h
  · cases h
theorem call_ok {Cl : List Atom → Prop} (hup : ∀ A L, Cl L → Cl (A :: L)) {n : Nat} (hC : ∀ L, Cl L → ∀ g con, C g = some con → ConOk P L con g) (ih : ExecOk P C SP lf Cl n) (hcl : Cl L0) {ρ : Type} : CallOk P L0 (callF P C SP lf n ρ) := by
  intro g args vs m e As w k r h h1 h2 hl
  simp only [callF] at h
  split at h
  · rename_i con hcon
    exact (hC L0 hcl g con hcon) h h1 h2 hl
  · split at h
    · rename_i fn hfn
      split at h
      · rename_i body hb
        have hlen := hl.len
        refine calls_intro (N := args.length + (fn.ntmps - args.length)) hfn (by simp [hb, hlen]) fun a hf => ?_
        have hbody : bodyOf fn = body := by simp [bodyOf, hb]
        rw [hbody]
        have hkr : KR (args.length + (fn.ntmps - args.length)) L0 e As (argFL vs.toArray) [] ⟨argS args, m, [], false⟩ a w := ⟨hf, argS_is 0 hl, h1, h2, trivial, fun _ => rfl⟩
        exact ih hcl h (fun _ => rfl) hkr fun x s' e' As' flv' dv' a' w' X q1 q2 q3 q4 q5 q6 => endK_ok (fun ms => rd_ok ih (cl_marks hup hcl ms)) q1 q5 q6 q4 fun _ _ h => h
      · cases h
    · cases h
theorem fr_kill {kill : List Nat} {e1 : KE} {fl fl' : SFL} {flv flv' : FL} {dv : List Deferred} (hf : Fr a N flv' dv) (h0 : FLIs e fl flv) (h1 : FLIs e1 fl' flv') (hx : FX fl flv fl' flv') (hk : ∀ t ∈ kill, Nat.blt t N = true)
    (hc : ∀ p ∈ fl'.take (fl'.length - fl.length), (!(keysS fl).contains p.1 || kill.contains p.1) = true) : Fr a N (kill.map (fun t => (t, a.tmps.getD t undef)) ++ flv) dv := by
  obtain ⟨d, dv', e1', e2, e3⟩ := hx
  have htake : fl'.take (fl'.length - fl.length) = d := by rw [e1']; simp
  rw [htake] at hc
  rw [e1', e2] at h1
  obtain ⟨kd, _⟩ := fl_keys h1 e3
  refine ⟨hf.size, hf.defers, fun t v hl => ?_⟩
  have key : ∀ k : List Nat, (∀ t ∈ k, Nat.blt t N = true) → Sx.look (k.map (fun t => (t, a.tmps.getD t undef)) ++ flv) t = some v → a.tmps[t]? = some v ∨ (t ∉ k ∧ Sx.look flv t = some v) := by
    intro k
    induction k with
    | nil => intro _ hh; exact .inr ⟨by simp, hh⟩
    | cons q k ih =>
      intro hb hh
      simp only [List.map_cons, List.cons_append, Sx.look] at hh
      cases hbq : Nat.beq q t with
      | true =>
        rw [hbq] at hh
        have := Nat.eq_of_beq_eq_true hbq
        subst this
        simp only [cond_true, Option.some.injEq] at hh
        have hlt : q < a.tmps.size := by rw [hf.size]; simpa [Nat.blt_eq] using hb q (by simp)
        refine .inl ?_
        rw [← hh, Array.getD_eq_getD_getElem?, Array.getElem?_eq_getElem hlt]; rfl
      | false =>
        rw [hbq] at hh
        rcases ih (fun t ht => hb t (List.mem_cons_of_mem _ ht)) hh with h5 | ⟨h5, h6⟩
        · exact .inl h5
        · refine .inr ⟨fun hm => ?_, h6⟩
          rcases List.mem_cons.1 hm with e5 | e5
          · subst e5; simp at hbq
          · exact h5 e5
  rcases key kill hk hl with h5 | ⟨h5, h6⟩
  · exact h5
  · have hks := look_keys h0 h6
    have hnd : t ∉ dv'.map (·.1) := fun hm => by
      rw [kd] at hm
      obtain ⟨p, hp1, hp2⟩ := List.mem_map.1 hm
      have := hc p hp1
      simp only [Bool.or_eq_true, Bool.not_eq_true', List.contains_iff_mem] at this
      rw [hp2] at this
      rcases this with h7 | h7
      · have := List.contains_iff_mem.2 hks; rw [this] at h7; cases h7
      · exact h5 h7
    refine hf.look t v ?_
    rw [e2, look_app hnd]; exact h6
theorem any_is {kill : List Nat} {fl : SFL} {flv : FL} (h : FLIs e fl flv) (g : Nat → Value) : FLIs e (T0fl kill fl) (kill.map (fun t => (t, g t)) ++ flv) := by
  unfold T0fl
  induction kill with
  | nil => exact h
  | cons t k ih => exact ⟨rfl, .any _, ih⟩
end Go.K
namespace Go.K
open Go.Sl Go.Sx
variable {e e' e0 : KE} {σ σ' : List Blk} {As As0 L0 L A' : List Atom} {P : Program} {w : World} {N : Nat} {fl : SFL} {flv flv' : FL} {ρ : Type} {h : Zone} {a : Act} {ds : List Deferred} {z : Zone}
variable {C : FuncId → Option Con} {SP : FuncId → Sp} {lf : Nat}
theorem st_take {id : Nat} {A : Atom} (hs : St z (As ++ L0) w) (hA : at' As id = some A) : St z (setAt As id emp ++ (A :: L0)) w := by
  have h1 := hs.split (i := As.length - 1 - id) (A := A) (B := A) (C := emp) (Mem.atom hA) fun z hz => ⟨z, Hp.nil, hz, rfl, Hp.apart_nil _, (Hp.add_nil z).symm⟩
  rw [setAt_app (at_lt hA)] at h1
  exact h1.perm List.perm_middle.symm
theorem st_back {id : Nat} {A : Atom} (hs : St z (As ++ (A :: L0)) w) (hid : id < As.length) : St z (setAt As id A ++ L0) w := by
  have hj : As.length - 1 - id < As.length := by omega
  have e1 : As = As.take (As.length - 1 - id) ++ As[As.length - 1 - id] :: As.drop (As.length - 1 - id + 1) := by
    rw [← List.drop_eq_getElem_cons hj, List.take_append_drop]
  have e2 : setAt As id A = As.take (As.length - 1 - id) ++ A :: As.drop (As.length - 1 - id + 1) := by
    unfold setAt; rw [List.set_eq_take_append_cons_drop, if_pos hj]
  rw [e1] at hs
  rw [e2]
  generalize As.take (As.length - 1 - id) = X at *
  generalize As.drop (As.length - 1 - id + 1) = Y at *
  generalize As[As.length - 1 - id] = B at *
  have p : ((X ++ B :: Y) ++ (A :: L0)).Perm (B :: ((X ++ A :: Y) ++ L0)) := by
    have p1 : ((X ++ B :: Y) ++ (A :: L0)).Perm (B :: ((X ++ Y) ++ (A :: L0))) := List.Perm.append_right (A :: L0) (List.perm_middle (l₁ := X) (l₂ := Y) (a := B))
    have p2 : ((X ++ Y) ++ (A :: L0)).Perm ((X ++ A :: Y) ++ L0) := by
      have q1 : ((X ++ Y) ++ (A :: L0)).Perm (A :: ((X ++ Y) ++ L0)) := List.perm_middle
      have q2 : ((X ++ A :: Y) ++ L0).Perm (A :: ((X ++ Y) ++ L0)) := List.Perm.append_right L0 (List.perm_middle (l₁ := X) (l₂ := Y) (a := A))
      exact q1.trans q2.symm
    exact p1.trans (p2.cons B)
  exact (hs.perm p).tail
theorem ExtM.rest {m m2 : KM} {id : Nat} {B : Blk} (hB : at' m.σ id = some B) (hne : ∀ T cs, B ≠ .cells T cs) (h : ExtM ⟨setAt m.σ id .gone, m.lg⟩ m2) : ExtM m ⟨setAt m2.σ id B, m2.lg⟩ := by
  obtain ⟨d, h⟩ := h
  have hid := at_lt hB
  have hlen : m.σ.length ≤ m2.σ.length := by have := h.len; rwa [len_setAt] at this
  refine ⟨d, h.lg, by rw [len_setAt]; exact hlen, fun {j T cs} hj => ?_, fun {j B'} hj hne' hn => ?_⟩
  · have hij : id ≠ j := fun e => by subst e; rw [hB] at hj; exact hne _ _ (Option.some.inj hj)
    obtain ⟨cs', h1, h2, h3⟩ := h.cells (id := j) (T := T) (cs := cs) (by rw [at_set_ne hid hij]; exact hj)
    exact ⟨cs', by show at' (setAt m2.σ id B) j = _; rw [at_set_ne (by omega) hij]; exact h1, h2, h3⟩
  · by_cases hij : id = j
    · subst hij
      rw [hB] at hj; cases hj
      exact at_set (by omega)
    · show at' (setAt m2.σ id B) j = _
      rw [at_set_ne (by omega) hij]
      exact h.other (by rw [at_set_ne hid hij]; exact hj) hne' hn
theorem ExtM.rest' {m m2 : KM} {id : Nat} {B B' : Blk} (hB : at' m.σ id = some B) (hne : ∀ T cs, B ≠ .cells T cs) (h : ExtM ⟨setAt m.σ id .gone, m.lg⟩ m2) : ExtM m ⟨setAt m2.σ id B', (id, 0) :: m2.lg⟩ := by
  obtain ⟨d, h⟩ := h
  have hid := at_lt hB
  have hlen : m.σ.length ≤ m2.σ.length := by have := h.len; rwa [len_setAt] at this
  refine ⟨(id, 0) :: d, by simp [h.lg], by rw [len_setAt]; exact hlen, fun {j T cs} hj => ?_, fun {j B'} hj hne' hn => ?_⟩
  · have hij : id ≠ j := fun e => by subst e; rw [hB] at hj; exact hne _ _ (Option.some.inj hj)
    obtain ⟨cs', h1, h2, h3⟩ := h.cells (id := j) (T := T) (cs := cs) (by rw [at_set_ne hid hij]; exact hj)
    exact ⟨cs', by show at' (setAt m2.σ id _) j = _; rw [at_set_ne (by omega) hij]; exact h1, h2, fun off ho => h3 off fun hm => ho (List.mem_cons_of_mem _ hm)⟩
  · by_cases hij : id = j
    · subst hij
      exact absurd (List.mem_cons_self ..) hn
    · show at' (setAt m2.σ id _) j = _
      rw [at_set_ne (by omega) hij]
      exact h.other (by rw [at_set_ne hid hij]; exact hj) hne' fun hm => hn (List.mem_cons_of_mem _ hm)
theorem setAt_app' {α : Type} {l X : List α} {id : Nat} {x : α} (h : id < X.length) : setAt (l ++ X) id x = l ++ setAt X id x := by
  unfold setAt
  rw [List.length_append, show l.length + X.length - 1 - id = l.length + (X.length - 1 - id) by omega, List.set_append_right _ _ (by omega)]
  congr 2
  omega
theorem setAt_setAt {α : Type} {X : List α} {id : Nat} {x y : α} (h : at' X id = some y) : setAt (setAt X id x) id y = X := by
  have := at_pos h
  unfold setAt
  rw [List.length_set, List.set_set]
  exact list_set_same this
noncomputable def yrF (P : Program) (C : FuncId → Option Con) (SP : FuncId → Sp) (lf n : Nat) (ρ : Type) : RunY ρ := fun id args m k => match at' m.σ id with
      | some (.loop g' N' fl ps A B .ready) => bif Nat.beq args.length ps.size && ps.toList.all (fun t => Nat.blt t N') then
          exec P C SP lf n false g' N' A ⟨yFLS ps.toList args fl, ⟨setAt m.σ id .gone, m.lg⟩, [], false⟩ (fun x s1 => match x with
            | .nrm => exec P C SP lf n false g' N' B s1 (fun x s2 => match x with
              | .nrm => k true ⟨setAt s2.m.σ id (.loop g' N' fl ps A B .ready), s2.m.lg⟩
              | .ret => k false ⟨setAt s2.m.σ id (.loop g' N' fl ps A B (.done none)), (id, 0) :: s2.m.lg⟩
              | .ext i => k false ⟨setAt s2.m.σ id (.loop g' N' fl ps A B (.done (some i))), (id, 0) :: s2.m.lg⟩
              | .pan _ => none)
            | _ => none)
        else none
      | _ => none
theorem ptrsF_is : ∀ {fl : SFL} {flv : FL}, FLIs e fl flv → ∃ vs, IsL e (ptrsF fl) vs
  | [], [], _ => ⟨[], .nil⟩
  | (k, s) :: fl, (k', v) :: flv, ⟨_, h2, h3⟩ => by
    obtain ⟨vs, hv⟩ := ptrsF_is h3
    unfold ptrsF at hv ⊢
    rw [List.map_cons, List.filter_cons]
    split
    · exact ⟨v :: vs, .cons h2 hv⟩
    · exact ⟨vs, hv⟩
  | [], _ :: _, h => h.elim
  | _ :: _, [], h => h.elim
theorem runO_program {α : Type} (g : Program → Sem α) (os : List Value) : runO P (program >>= g) os = runO P (g P) os := rfl
theorem invoke_runY {f : FuncId} {cs : List Value} {l : Nat} (h : callOK P f = true) : runO P (invoke (.fn (.func f) cs.toArray) #[.func (.yield l) #[] #[]]) [] = some (.enter f (#[.func (.yield l) #[] #[]] ++ cs.toArray), [], []) := by
  unfold callOK at h
  split at h
  · rename_i fn hfn
    simp only [Bool.and_eq_true, Bool.not_eq_true'] at h
    have hn : ¬ fn.name = "runtime.NumGoroutine" := by simpa using h.1
    have hnb : ¬ fn.body = none := fun e => by simp [e] at h
    simp [invoke, callFunc, runO_program, hfn, hn, hnb, runO]
    rfl
  · cases h
theorem yFLS_is : ∀ {ps : List Tmp} {l : List SV} {vs : List Value} {fl : SFL} {flv : FL}, IsL e l vs → FLIs e fl flv → FLIs e (yFLS ps l fl) ((ps.zip vs).foldl (fun t p => (p.1, p.2) :: t) flv)
  | [], l, vs, fl, flv, hl, hf => by simpa [yFLS] using hf
  | p :: ps, _, _, fl, flv, .nil, hf => by simpa [yFLS] using hf
  | p :: ps, _, _, fl, flv, .cons h t, hf => by
    have := yFLS_is (ps := ps) t (fl := (p, _) :: fl) (flv := (p, _) :: flv) ⟨rfl, h, hf⟩
    simpa [yFLS] using this
theorem yr_ok {Cl : List Atom → Prop} (hup : ∀ A L, Cl L → Cl (A :: L)) {n : Nat} (ih : ExecOk P C SP lf Cl n) (hcl : Cl L0) {id : Nat} {args : List SV} {vs : List Value} {m : KM} {k : Bool → KM → Option ρ} {r : ρ}
    (h : yrF P C SP lf n ρ id args m k = some r) (h1 : Mem e m.σ As) (h2 : St e.z (As ++ L0) w) (hl : IsL e args vs) {bi : BI} (hi : at' e.bs id = some bi)
    {R : Array Oper} {i : Nat} {d : Option Nat} {K : Act → World → Prop} {ro : Option Nat} {Q : Exit → Act → World → Prop} (hf : Fr a N flv ds) (ho : yieldAt R N i flv = some (d, bi.b, vs.toArray))
    (hk : ∀ b m' e' As' w' a', k b m' = some r → Go1 e As m e' As' m' → Mem e' m'.σ As' → St e'.z (As' ++ L0) w' → Fr a' N (putF flv d (.bool b)) ds → K a' w') : wpOpIn (WF ro) 0 P R Q i K a w := by
  unfold yrF at h
  split at h
  · rename_i g' N' fl ps A B hB
    cases hc : (Nat.beq args.length ps.size && ps.toList.all (fun t => Nat.blt t N')) with
    | false => rw [hc] at h; cases h
    | true =>
      rw [hc] at h
      simp only [cond_true] at h
      simp only [Bool.and_eq_true] at hc
      obtain ⟨i', A0, m1, m2, m3⟩ := h1.get hB
      rw [hi] at m1; cases m1
      have hne : ∀ T cs, (Blk.loop g' N' fl ps A B .ready) ≠ .cells T cs := fun _ _ e => by cases e
      cases m3 with
      | loop hfl =>
        rename_i flv0 D
        have hlen := hl.len
        have hst1 := st_take h2 m2
        have hidA := at_lt m2
        have hps : (Nat.beq vs.toArray.size ps.size && (ps.zip vs.toArray).toList.all fun p => Nat.blt p.1 N') = true := by
          rw [Bool.and_eq_true]
          refine ⟨by simpa [hlen] using hc.1, List.all_eq_true.2 fun p hp => ?_⟩
          have hp' : p ∈ ps.toList.zip vs := by simpa using hp
          exact List.all_eq_true.1 hc.2 p.1 (List.of_mem_zip hp').1
        refine p_yield (N0 := N') (fl0 := flv0) (ps := ps) (A := A) (B := B) (D := D) hf ho hst1 (j := (setAt As id emp).length) (by simp [LS.st, LS.pe]) hps fun a1 hf1 => ?_
        have hyf : FLIs e (yFLS ps.toList args fl) (yFL ps vs.toArray flv0) := by
          have := yFLS_is (ps := ps.toList) hl hfl
          unfold yFL
          rw [← Array.foldl_toList]
          simpa using this
        refine ih (hup _ _ hcl) h (fun hh => by cases hh) ⟨hf1, hyf, h1.set hi .gone, hst1, trivial, fun _ => rfl⟩ fun x s1 e1 A1 flv1 dv1 a2 w1 X q1 q2 q3 q4 q5 q6 => ?_
        cases x with
        | nrm =>
          have hX : X = .normal := q6
          subst hX
          show beginG P bi.b B (roundPost P bi.b (yR K N flv ds d)) a2 w1
          have hst5 := q5.st
          refine p_begin (j := A1.length + (mkA dv1).length) hst5 (by simp [LS.st, LS.pe]; rfl) fun w2 hst6 => ?_
          have e6 : (A1 ++ (mkA dv1 ++ (loopA bi.b N' flv0 ps A B D LS.ready.st LS.ready.pe :: L0))).set (A1.length + (mkA dv1).length) (loopA bi.b N' flv0 ps A B D .busy none) = A1 ++ (mkA dv1 ++ (loopA bi.b N' flv0 ps A B D .busy none :: L0)) := by
            rw [List.set_append_right _ _ (by omega), List.set_append_right _ _ (by omega)]
            simp
          rw [e6] at hst6
          refine ih (L0 := loopA bi.b N' flv0 ps A B D .busy none :: L0) (hup _ _ hcl) q1 (fun hh => by cases hh) ⟨q5.fr, q5.fl, q5.mem, hst6, q5.dI, q5.rI⟩ fun x s2 e2 A2 flv2 dv2 a3 w3 X r1 r2 r3 r4 r5 r6 => ?_
          have hgo := q4.trans r4
          have hi2 : at' e2.bs id = some bi := hgo.le.at hi
          have hidA2 : id < A2.length := by
            rw [← r5.mem.la, r5.mem.lb]; exact at_lt hi2
          have hj : (A2 ++ (mkA dv2 ++ (loopA bi.b N' flv0 ps A B D .busy none :: L0)))[A2.length + (mkA dv2).length]? = some (loopA bi.b N' flv0 ps A B D .busy none) := by
            rw [List.getElem?_append_right (by omega), List.getElem?_append_right (by omega)]
            simp
          have hset : ∀ X : Atom, (A2 ++ (mkA dv2 ++ (loopA bi.b N' flv0 ps A B D .busy none :: L0))).set (A2.length + (mkA dv2).length) X = A2 ++ (mkA dv2 ++ (X :: L0)) := fun X => by
            rw [List.set_append_right _ _ (by omega), List.set_append_right _ _ (by omega)]
            simp
          have hout : ∀ {X : Atom} {w' : World}, St e2.z (A2 ++ (mkA dv2 ++ (X :: L0))) w' → St e2.z (setAt A2 id X ++ L0) w' := fun {X w'} hs => by
            have hs2 : St e2.z (A2 ++ (mkA dv2 ++ [X]) ++ L0) w' := by simpa using hs
            have hs3 : St e2.z (A2 ++ (X :: L0)) w' := by simpa using St.cut hs2
            exact st_back hs3 hidA2
          have hfl2 := hfl.mono hgo.le
          cases x with
          | nrm =>
            have hX : X = .normal := r6
            subst hX
            refine p_roundN r5.st hj fun w' a' hst7 hf7 => ?_
            rw [hset] at hst7
            refine hk true _ e2 (setAt A2 id (loopA bi.b N' flv0 ps A B D .ready none)) w' a' r1 ⟨hgo.le, hgo.ext.rest hB hne, fun hlg => ?_⟩ (r5.mem.set hi2 (.loop (st := .ready) hfl2)) (hout hst7) hf7
            obtain ⟨l, hl2⟩ := hgo.az hlg
            refine ⟨l, ?_⟩
            rw [hl2, setAt_app' (by rw [len_setAt]; exact hidA)]
            congr 1
            exact setAt_setAt (y := loopA bi.b N' flv0 ps A B D .ready none) m2
          | ret =>
            have hX : X = .ret := r6
            subst hX
            refine p_roundR r5.st hj fun w' a' hst7 hf7 => ?_
            rw [hset] at hst7
            refine hk false _ e2 _ w' a' r1 ⟨hgo.le, hgo.ext.rest' hB hne, fun hlg => ?_⟩ (r5.mem.set hi2 (.loop (st := .done none) hfl2)) (hout hst7) hf7
            have := hgo.ext.lgle
            simp at hlg this
            omega
          | ext q =>
            have hX : X = .exit q := r6
            subst hX
            refine p_roundX r5.st hj fun w' a' hst7 hf7 => ?_
            rw [hset] at hst7
            refine hk false _ e2 _ w' a' r1 ⟨hgo.le, hgo.ext.rest' hB hne, fun hlg => ?_⟩ (r5.mem.set hi2 (.loop (st := .done (some q)) hfl2)) (hout hst7) hf7
            have := hgo.ext.lgle
            simp at hlg this
            omega
          | pan sv => cases r1
        | ret => cases q1
        | ext q => cases q1
        | pan sv => cases q1
  · cases h
theorem stepY_ok {Cl : List Atom → Prop} (hup : ∀ A L, Cl L → Cl (A :: L)) {n : Nat} (ih : ExecOk P C SP lf Cl n) (hcl : Cl L0) {R : Array Oper} {i : Nat} {m : KM} {k : SFL → KM → Option ρ} {r : ρ}
    (h : stepY (yrF P C SP lf n ρ) R N i fl m k = some r) (hf : Fr a N flv ds) (hl : FLIs e fl flv) (h1 : Mem e m.σ As) (h2 : St e.z (As ++ L0) w) {K : Act → World → Prop} {ro : Option Nat} {Q : Exit → Act → World → Prop}
    (hk : ∀ fl' flv' m' e' As' a' w', k fl' m' = some r → FX fl flv fl' flv' → Go1 e As m e' As' m' → Fr a' N flv' ds → FLIs e' fl' flv' → Mem e' m'.σ As' → St e'.z (As' ++ L0) w' → K a' w') : wpOpIn (WF ro) 0 P R Q i K a w := by
  unfold stepY at h
  split at h
  · cases h
  · rename_i o hR
    cases hd : dstOk N o with
    | false => rw [hd] at h; cases h
    | true =>
      rw [hd] at h
      simp only [cond_true] at h
      obtain ⟨fl1, flv1, fx, hf1, hl1, hor⟩ := grd_ok hf hl h
      rcases hor with ⟨hw, hrun⟩ | ⟨hw, hrun⟩
      · cases ho : opsOk fl1 o with
        | false => rw [ho] at hrun; cases hrun
        | true =>
          rw [ho] at hrun
          simp only [cond_true] at hrun
          split at hrun
          · rename_i id l hy
            unfold yldOf at hy
            split at hy
            · rename_i f args aT hop
              split at hy
              · rename_i id' fr l' hfv hlv
                cases hy
                obtain ⟨u0, _⟩ := evS_is h1 hl1 hfv
                have hargs := evL_is h1 hl1 hlv
                generalize hgv : ev flv1 f = gv at u0
                cases u0 with
                | yld hi hfr =>
                  rename_i bi vs'
                  have hat : yieldAt R N i flv1 = some (o.dst, bi.b, (args.toList.map (ev flv1)).toArray) := by
                    have hkn := opsOk_is hl1 ho
                    unfold yieldAt
                    rw [hR]
                    simp only [hw, hkn, Bool.true_and]
                    unfold dstOk at hd
                    cases hds : o.dst with
                    | none =>
                      simp only [cond_true, hop, hgv]
                      simp
                      apply Array.toList_inj.1
                      simp
                    | some d9 =>
                      rw [hds] at hd
                      simp only at hd
                      simp only [hd, cond_true, hop, hgv]
                      simp
                      apply Array.toList_inj.1
                      simp
                  exact yr_ok hup ih hcl hrun h1 h2 hargs hi hf1 hat fun b m' e' As' w' a' g1 g2 g3 g4 g5 => hk _ _ m' e' As' a' w' g1 (fx.trans (FX.put o.dst (.bool b) (.bool b))) g2 g5 ((hl1.mono g2.le).put (.bool b) o.dst) g3 g4
              · cases hy
            · cases hy
          · cases hrun
      · unfold wpOpIn
        rw [hR]
        simp only [wantedF_sound hf1 hw]
        rw [if_neg (by simp)]
        refine ⟨fun _ _ => trivial, ?_⟩
        exact hk _ _ m e As _ w hrun (fx.trans (FX.put o.dst (.raw undef) undef)) .refl (hf1.put hd undef) (hl1.put (.raw undef) o.dst) h1 h2
end Go.K
namespace Go.K
open Go.Sl Go.Sx
variable {e e' e0 : KE} {σ σ' : List Blk} {As As0 L0 L A' : List Atom} {P : Program} {w : World} {N : Nat} {fl : SFL} {flv flv' : FL} {ρ : Type} {h : Zone} {a : Act} {ds : List Deferred}
variable {C : FuncId → Option Con} {SP : FuncId → Sp} {lf : Nat}
variable {ro : Option Nat} {c : Code} {Q : Exit → Act → World → Prop}
theorem w_regP {ε : Px} (hc : (isReg false c && noDefer (cops c)) = true) (hP : ∀ ch a' w', ε ch a' w' → Q (.panic ch) a' w')
    (k : wpPlan ε P (cops c) [] (fun _ => True) (fun a w => Q .normal a w) (planSeq c) a w) : c.cw ro P Q a w := by
  simp only [Bool.and_eq_true] at hc
  obtain ⟨hc, hd⟩ := hc
  cases c <;> simp [isReg] at hc
  subst hc
  exact wpIn_region (wpOpsIn_of_plan (ε := ε) hd hP _ _ _ k fun _ _ h => h)
theorem w_regDP {ε : Px} (hm : P.follows .mixedOrders = true) (pl : PT) (m : List Nat) (S : World → Prop) (hε : PxOK (cops c) ε) (hP : ∀ ch a' w', ε ch a' w' → Q (.panic ch) a' w') (hB : drawT c pl m = true) (hS0 : S w.drew)
    (k : wpPlanS ε P (cops c) m (fun a w => Q .normal a w) pl true S a w.drew) : c.cw ro P Q a w := by
  simp only [drawT, Bool.and_eq_true] at hB
  obtain ⟨⟨hc, hd⟩, hs, hn⟩ := hB
  cases c <;> simp [isReg] at hc
  rename_i id ops b
  subst hc
  have k1 := wpAnyK_planS (ε := ε) hs hε _ pl true S _ a w.drew (Closed.none _) (by simp) (fun _ => hS0) (fun _ => rfl) hn k
  have k2 := wpAnyIn_of_K (ε := ε) (ro := ro) (Q := Q) hd (fun _ _ h => h) (fun c a w h => hP c a w h) _ _ _ _ k1
  exact wpIn_region_any hm k2
def PanR (L0 : List Atom) (N : Nat) (kill : List Nat) (s : KS) (flv : FL) (dv : List Deferred) (e : KE) (As : List Atom) (kp : SV → KM → Option ρ) (r : ρ) : Px := fun ch a w =>
  ∃ v sv m' e' As', ch = pch v ∧ kp sv m' = some r ∧ Go1 e As s.m e' As' m' ∧ Is e' sv v ∧ Mem e' m'.σ As' ∧ St e'.z (As' ++ L0) w ∧ ∃ g : Nat → Value, Fr a N (kill.map (fun t => (t, g t)) ++ flv) dv
theorem map_keys (kill : List Nat) (g : Nat → Value) : (kill.map (fun t => (t, g t))).map (·.1) = kill := by
  induction kill with
  | nil => rfl
  | cons t k ih => simp only [List.map_cons, ih]
theorem panR_ok {kill : List Nat} {s : KS} {dv : List Deferred} {kp : SV → KM → Option ρ} {r : ρ} {id : Nat} {ops : Array Oper} (hkl : kill = killOf (.region id ops true) s) (hk : ∀ t ∈ kill, Nat.blt t N = true) (h0 : FLIs e s.fl flv) : PxOK ops (PanR (mkA dv ++ L0) N kill s flv dv e As kp r) := by
  rintro i o u ch a w ho ⟨v, sv, m', e', As', h1, h2, h3, h4, h5, h6, g, hf⟩
  refine ⟨v, sv, m', e', As', h1, h2, h3, h4, h5, h6, fun t => a.tmps.getD t undef, ?_⟩
  have hsz : a.tmps.size = N := by
    have := hf.size
    cases hd : o.dst <;> simpa [hd, Act.put] using this
  refine ⟨hsz, by have := hf.defers; cases hd : o.dst <;> simpa [hd, Act.put] using this, fun t x hl => ?_⟩
  by_cases ht : t ∈ kill
  · have key : ∀ k : List Nat, t ∈ k → Sx.look (k.map (fun t => (t, a.tmps.getD t undef)) ++ flv) t = some (a.tmps.getD t undef) := by
      intro k
      induction k with
      | nil => intro h; cases h
      | cons q k ih =>
        intro h
        simp only [List.map_cons, List.cons_append, Sx.look]
        cases hb : Nat.beq q t with
        | true => have := Nat.eq_of_beq_eq_true hb; subst this; rfl
        | false =>
          refine ih ((List.mem_cons.1 h).resolve_left fun e => ?_)
          subst e; simp at hb
    rw [key kill ht] at hl
    cases hl
    have hlt : t < a.tmps.size := by rw [hsz]; simpa [Nat.blt_eq] using hk t ht
    rw [Array.getD_eq_getD_getElem?, Array.getElem?_eq_getElem hlt]; rfl
  · have hn1 : t ∉ (kill.map (fun t => (t, a.tmps.getD t undef))).map (·.1) := by rw [map_keys]; exact ht
    have hn2 : t ∉ (kill.map (fun t => (t, g t))).map (·.1) := by rw [map_keys]; exact ht
    rw [look_app hn1] at hl
    have h7 := hf.look t x (by rw [look_app hn2]; exact hl)
    cases hd : o.dst with
    | none => simpa [hd, Act.put] using h7
    | some d =>
      rw [hd] at h7
      simp only [Act.put] at h7
      have hne : d ≠ t := fun e => by
        subst e
        refine ht ?_
        rw [hkl]
        simp only [killOf, List.mem_filter, List.contains_iff_mem]
        refine ⟨?_, look_keys h0 hl⟩
        simp only [dstsOf, List.mem_filterMap]
        exact ⟨o, by have := Array.mem_of_getElem? ho; simpa using this, hd⟩
      rwa [Array.getElem?_setIfInBounds_ne hne] at h7
theorem lastDef_eq {ops : Array Oper} {o : Oper} (h : lastDef ops = some o) : ops[ops.size - 1]? = some o ∧ o.guard = none ∧ o.dst = none ∧ ∃ f ts, o.op = .defer { callee := .value f, args := #[], argTypes := ts } := by
  unfold lastDef at h
  split at h
  · rename_i o' ho
    split at h
    · rename_i f ts h1 h2 h3
      cases h
      exact ⟨ho, h2, h3, f, ts, h1⟩
    · cases h
  · cases h
theorem w_lastD {dd : Deferred} {dv : List Deferred} {ops : Array Oper} {o : Oper} {id : Nat} (hl : lastDef ops = some o)
    (k : wpPlan noP P ops [] (fun _ => True) (fun a w => ∃ (flv : FL) (dd : Deferred), Fr a N flv dv ∧ known flv o = true ∧ (execOp (ev flv) o).run P w = .ok (.defer dd) w ∧ ∀ a', Fr a' N flv (dd :: dv) → Q .normal a' w) ((List.range (ops.size - 1)).map fun i => (i, false)) a w) : (Code.region id ops false).cw none P Q a w := by
  obtain ⟨h1, h2, h3, f, ts, h4⟩ := lastDef_eq hl
  refine wpIn_region ?_
  have hsz : ops.size = (ops.size - 1) + 1 := by have := (Array.getElem?_eq_some_iff.1 h1).1; omega
  rw [hsz, List.range_succ]
  refine wpOpsIn_app0 _ _ _ _ k fun a w hk => ?_
  obtain ⟨flv, dd, hf, hkn, hrun, hq⟩ := hk
  rw [wpOpsIn_cons]
  show wpOpIn (WF none) 0 P ops Q (ops.size - 1) (fun a w => Q .normal a w) a w
  unfold wpOpIn
  have hw : Region.wanted o (yielded ops a.tmps) = true := by simp [Region.wanted, h2]
  simp only [h1, hw, if_true]
  refine ⟨fun _ _ => trivial, ?_⟩
  show o.uponIn (WF none) 0 P a _ Q ((execOp a.eval o).run P w)
  rw [hf.exec hkn, hrun]
  show Q .normal ({ a with defers := dd :: a.defers }.put o.dst undef) w
  rw [h3]
  exact hq _ ⟨hf.size, by show dd :: a.defers = dd :: dv; rw [hf.defers], hf.look⟩
theorem exec_ok {Cl : List Atom → Prop} (hup : ∀ A L, Cl L → Cl (A :: L)) (hP : P.follows .mixedOrders = true) (hC : ∀ L, Cl L → ∀ g con, C g = some con → ConOk P L con g) : ∀ n, ExecOk P C SP lf Cl n := by
  intro n
  induction n with
  | zero => intro L0 hcl ρ top g N c s k r h; simp [exec] at h
  | succ n ih =>
    intro L0 hcl ρ top g N c s k r h dv e As flv a w Q ro hro hr hk
    have hcm : Cl (mkA dv ++ L0) := cl_marks hup hcl dv
    cases c with
    | skip => simp only [exec] at h; exact w_skip (by rfl) (hk .nrm s e As flv dv a w _ h .refl .refl .refl hr rfl)
    | label l => simp only [exec] at h; exact w_skip (by rfl) (hk .nrm s e As flv dv a w _ h .refl .refl .refl hr rfl)
    | ret => simp only [exec] at h; exact w_ret (by rfl) (hk .ret s e As flv dv a w _ h .refl .refl .refl hr rfl)
    | exit id => simp only [exec] at h; exact w_exit (id := id) (by rfl) (hk (.ext id) s e As flv dv a w _ h .refl .refl .refl hr rfl)
    | scope c =>
      simp only [exec] at h
      refine w_scope (by rfl) (ih hcl h hro hr fun x s' e' As' flv' dv' a' w' X q1 q2 q3 q4 q5 q6 => ?_)
      have := hk x s' e' As' flv' dv' a' w' X q1 q2 q3 q4 q5 q6
      cases x with
      | nrm => have hX : X = .normal := q6; subst hX; exact this
      | ret => have hX : X = .ret := q6; subst hX; exact this
      | ext i => have hX : X = .exit i := q6; subst hX; exact this
      | pan sv => obtain ⟨v, rfl, _⟩ := q6; exact this
    | block id c =>
      simp only [exec] at h
      refine w_block (id := id) (by rfl) (ih hcl h hro hr fun x s' e' As' flv' dv' a' w' X q1 q2 q3 q4 q5 q6 => ?_)
      cases x with
      | nrm => have hX : X = .normal := q6; subst hX; exact hk .nrm s' e' As' flv' dv' a' w' _ q1 q2 q3 q4 q5 rfl
      | ret => have hX : X = .ret := q6; subst hX; exact hk .ret s' e' As' flv' dv' a' w' _ q1 q2 q3 q4 q5 rfl
      | pan sv => have q7 := q6; obtain ⟨v, rfl, _⟩ := q6; exact hk (.pan sv) s' e' As' flv' dv' a' w' _ q1 q2 q3 q4 q5 q7
      | ext i =>
        have hX : X = .exit i := q6
        subst hX
        simp only at q1
        cases hb : Nat.beq i id with
        | true =>
          rw [hb] at q1
          have := Nat.eq_of_beq_eq_true hb
          subst this
          exact x_block (hk .nrm s' e' As' flv' dv' a' w' _ q1 q2 q3 q4 q5 rfl)
        | false =>
          rw [hb] at q1
          exact x_pass hb (hk (.ext i) s' e' As' flv' dv' a' w' _ q1 q2 q3 q4 q5 rfl)
    | cond x c1 c2 =>
      cases x with
      | tmp t =>
        simp only [exec] at h
        split at h
        · rename_i b hl
          obtain ⟨v, h1, h2⟩ := hr.fl.look hl
          cases h2
          refine w_if hr.fr (b := b) (by simp [condV, condX, h1]) (fun hb => ?_) (fun hb => ?_)
          · subst hb; exact ih hcl h hro hr hk
          · subst hb; exact ih hcl h hro hr hk
        · cases h
      | _ => simp [exec] at h
    | seq c1 c2 =>
      simp only [exec] at h
      split at h
      · refine w_seq (by rfl) (ih hcl h hro hr fun x s' e' As' flv' dv' a' w' X q1 q2 q3 q4 q5 q6 => ?_)
        cases x with
        | nrm =>
          have hX : X = .normal := q6
          subst hX
          exact ih hcl q1 hro q5 fun x2 s2 e2 A2 f2 d2 a2 w2 X2 r1 r2 r3 r4 r5 r6 => hk x2 s2 e2 A2 f2 d2 a2 w2 X2 r1 (q2.trans r2) (q3.trans r3) (q4.trans r4) r5 r6
        | ext i => have hX : X = .exit i := q6; subst hX; exact hk (.ext i) s' e' As' flv' dv' a' w' _ q1 q2 q3 q4 q5 rfl
        | ret => have hX : X = .ret := q6; subst hX; exact hk .ret s' e' As' flv' dv' a' w' _ q1 q2 q3 q4 q5 rfl
        | pan sv => have q7 := q6; obtain ⟨v, rfl, _⟩ := q6; exact hk (.pan sv) s' e' As' flv' dv' a' w' _ q1 q2 q3 q4 q5 q7
      · rename_i l hl
        have hr0 : KR N L0 e As flv dv ⟨s.fl, s.m, s.ds, s.rg || hasRng c1⟩ a w := ⟨hr.fr, hr.fl, hr.mem, hr.st, hr.dI, fun hh => hr.rI (by
          have hh' : (s.rg || hasRng c1) = false := hh
          simp only [Bool.or_eq_false_iff] at hh'
          exact hh'.1)⟩
        have efl : (⟨s.fl, s.m, s.ds, s.rg || hasRng c1⟩ : KS).fl = s.fl := rfl
        have em : (⟨s.fl, s.m, s.ds, s.rg || hasRng c1⟩ : KS).m = s.m := rfl
        revert h hr0 efl em
        generalize (⟨s.fl, s.m, s.ds, s.rg || hasRng c1⟩ : KS) = s0
        intro h hr0 efl em
        rw [← efl, ← em] at hk
        cases hb : chk0 N (killL l s0 (killOf c1 s0)) l s0 with
        | false => rw [hb] at h; cases h
        | true =>
          rw [hb] at h
          simp only [cond_true] at h
          unfold jn at h
          split at h
          · rename_i y hy
            refine w_seq (by rfl) (ih hcl hy hro hr0 fun x s' e' As' flv' dv' a' w' X q1 q2 q3 q4 q5 q6 => ?_)
            cases x with
            | nrm =>
              have hX : X = .normal := q6
              subst hX
              have hle := outL_inl q1
              obtain ⟨f1, f2, e1, A1, g1, g2⟩ := frzV_ok (fl0 := s.fl) l q5
              obtain ⟨c', Ac, flvc, m1, m2, m3⟩ := meet hr0 g2 q3 (by rw [f1]; exact q2) (q4.trans g1) hb hle
              exact ih hcl h hro m1 fun x2 s2 e2 A2 f2 d2 a2 w2 X2 r1 r2 r3 r4 r5 r6 => hk x2 s2 e2 A2 f2 d2 a2 w2 X2 r1 (m2.trans r2) (q3.trans r3) (m3.trans r4) r5 r6
            | ext i => exact (outR_inl q1).elim
            | ret => exact (outR_inl q1).elim
            | pan sv => exact (outR_inl q1).elim
          · rename_i r' hy
            cases h
            refine w_seq (by rfl) (ih hcl hy hro hr0 fun x s' e' As' flv' dv' a' w' X q1 q2 q3 q4 q5 q6 => ?_)
            cases x with
            | nrm => exact (outL_inr q1).elim
            | ext i => have hX : X = .exit i := q6; subst hX; exact hk (.ext i) s' e' As' flv' dv' a' w' _ (outR_inr q1) q2 q3 q4 q5 rfl
            | ret => have hX : X = .ret := q6; subst hX; exact hk .ret s' e' As' flv' dv' a' w' _ (outR_inr q1) q2 q3 q4 q5 rfl
            | pan sv => have q7 := q6; obtain ⟨v, rfl, _⟩ := q6; exact hk (.pan sv) s' e' As' flv' dv' a' w' _ (outR_inr q1) q2 q3 q4 q5 q7
          · cases h
    | loop c =>
      simp only [exec] at h
      split at h
      · cases h
      · rename_i l hl
        have hr0 : KR N L0 e As flv dv ⟨s.fl, s.m, s.ds, s.rg || hasRng c⟩ a w := ⟨hr.fr, hr.fl, hr.mem, hr.st, hr.dI, fun hh => hr.rI (by
          have hh' : (s.rg || hasRng c) = false := hh
          simp only [Bool.or_eq_false_iff] at hh'
          exact hh'.1)⟩
        obtain ⟨f1, f2, e1, A1, g1, g2⟩ := frzV_ok (fl0 := s.fl) l hr0
        revert h f1 f2 g1 g2
        generalize frzV s.fl l ⟨s.fl, s.m, s.ds, s.rg || hasRng c⟩ = s1
        intro h f1 f2 g1 g2
        cases hb : chk0 N (killL l s1 (killOf c s1)) l s1 with
        | false => rw [hb] at h; cases h
        | true =>
          rw [hb] at h
          simp only [cond_true] at h
          split at h
          · rename_i y0 hy0
            obtain ⟨c0, Ac, flvc, m1, m2, m3⟩ := meet g2 g2 .refl .refl .refl hb hy0
            refine w_loop (by rfl) (fun j a w => ∃ (y : vty l) (e2 : KE) (A2 : List Atom) (f2 : FL) (d2 : List Deferred), DX dv d2 ∧ iter j (fun y => exec P C SP lf n top g N c (tmpl (killL l s1 (killOf c s1)) l s1 y) (fun x s' => match x with
              | .nrm => outL (leaf (killL l s1 (killOf c s1)) l s1 (frzV s1.fl l s'))
              | x => outR (k x s'))) y = some r ∧ FX s1.fl flv (tmpl (killL l s1 (killOf c s1)) l s1 y).fl f2 ∧ Go1 e1 A1 s1.m e2 A2 (tmpl (killL l s1 (killOf c s1)) l s1 y).m ∧ KR N L0 e2 A2 f2 d2 (tmpl (killL l s1 (killOf c s1)) l s1 y) a w) lf ⟨y0, c0, Ac, flvc, dv, .refl, h, m2, m3, m1⟩ ?_
            rintro j a2 w2 ⟨y, e2, A2, f2', d2, hdv, hit, hx, hg, hkr⟩
            cases j with
            | zero => cases hit
            | succ j =>
              simp only [iter] at hit
              split at hit
              · rename_i y' hy'
                refine ih hcl hy' hro hkr fun x s' e' As' flv' dv' a' w' X q1 q2 q3 q4 q5 q6 => ?_
                cases x with
                | nrm =>
                  have hX : X = .normal := q6
                  subst hX
                  have hle := outL_inl q1
                  obtain ⟨f3, f4, e3, A3, g3, g4⟩ := frzV_ok (fl0 := s1.fl) l q5
                  obtain ⟨c', Ac', flvc', n1, n2, n3⟩ := meet g2 g4 (hdv.trans q3) (by rw [f3]; exact hx.trans q2) (hg.trans (q4.trans g3)) hb hle
                  exact ⟨j, Nat.lt_succ_self j, y', c', Ac', flvc', dv', hdv.trans q3, hit, n2, n3, n1⟩
                | ext i => exact (outR_inl q1).elim
                | ret => exact (outR_inl q1).elim
                | pan sv => exact (outR_inl q1).elim
              · rename_i r' hy'
                cases hit
                refine ih hcl hy' hro hkr fun x s' e' As' flv' dv' a' w' X q1 q2 q3 q4 q5 q6 => ?_
                have hxx : FX s.fl flv s'.fl flv' := by rw [← f1]; exact hx.trans q2
                cases x with
                | nrm => exact (outL_inr q1).elim
                | ext i => have hX : X = .exit i := q6; subst hX; exact hk (.ext i) s' e' As' flv' dv' a' w' _ (outR_inr q1) hxx (hdv.trans q3) (g1.trans (hg.trans q4)) q5 rfl
                | ret => have hX : X = .ret := q6; subst hX; exact hk .ret s' e' As' flv' dv' a' w' _ (outR_inr q1) hxx (hdv.trans q3) (g1.trans (hg.trans q4)) q5 rfl
                | pan sv => have q7 := q6; obtain ⟨v, rfl, _⟩ := q6; exact hk (.pan sv) s' e' As' flv' dv' a' w' _ (outR_inr q1) hxx (hdv.trans q3) (g1.trans (hg.trans q4)) q5 q7
              · cases hit
          · cases h
    | region id ops d =>
      cases d with
      | false =>
        simp only [exec] at h
        obtain ⟨fl1, flv1, fx, hf1, hl1, h⟩ := nzS_ok hr.mem _ h hr.fr hr.fl
        have hr1 : KR N L0 e As flv1 dv ⟨fl1, s.m, s.ds, s.rg⟩ a w := ⟨hf1, hl1, hr.mem, hr.st, hr.dI, hr.rI⟩
        have hk1 : ∀ x s' e' As' flv' dv' a' w' X, k x s' = some r → FX (⟨fl1, s.m, s.ds, s.rg⟩ : KS).fl flv1 s'.fl flv' → DX dv dv' → Go1 e As (⟨fl1, s.m, s.ds, s.rg⟩ : KS).m e' As' s'.m → KR N L0 e' As' flv' dv' s' a' w' → XIs e' x X → Q X a' w' := fun x s' e' As' flv' dv' a' w' X q1 q2 q3 q4 q5 q6 => hk x s' e' As' flv' dv' a' w' X q1 (fx.trans q2) q3 q4 q5 q6
        obtain ⟨s1, hs1⟩ : ∃ s1 : KS, s1 = ⟨fl1, s.m, s.ds, s.rg⟩ := ⟨_, rfl⟩
        have ea : fl1 = s1.fl := by rw [hs1]
        have eb : s.m = s1.m := by rw [hs1]
        have ec : s.ds = s1.ds := by rw [hs1]
        have ed : s.rg = s1.rg := by rw [hs1]
        rw [← hs1] at hr1 hk1
        rw [ea, eb, ec, ed] at h
        clear hk hr ea eb ec ed hs1 hf1 hl1 fx
        revert h hr1 hk1
        revert s1 flv1
        intro flv s h hk hr
        cases hb : noDefer ops with
        | false =>
          rw [hb] at h
          simp only [cond_false] at h
          split at h
          · rename_i o hlo
            cases top with
            | false => cases h
            | true =>
              simp only [cond_true] at h
              cases hro rfl
              refine w_lastD (N := N) (dv := dv) (dd := default) hlo ?_
              refine seqX_ok (ε := noP) (R := ops) (call_ok hup hC ih hcm) (List.range (ops.size - 1)) h hr.fr hr.fl hr.mem hr.st (fun fl' flv' m' e' As' a' w' q1 q2 q3 q4 q5 q6 q7 => ?_) (fun s v fl' flv' m' e' As' a' w' q1 => by cases q1)
              cases hoo : opsOk fl' o with
              | false => rw [hoo] at q1; cases q1
              | true =>
                rw [hoo] at q1
                simp only [cond_true] at q1
                split at q1
                · rename_i d hd
                  obtain ⟨_, _, _, f, ts, hop⟩ := lastDef_eq hlo
                  simp only [defOf, hop] at hd
                  split at hd
                  · rename_i gg cc hfv
                    cases hd
                    obtain ⟨u0, _⟩ := evS_is q6 q5 hfv
                    generalize hgv : ev flv' f = gv at u0
                    cases u0 with
                    | fn hx hc =>
                      rename_i vs us
                      cases hx
                      refine ⟨flv', { target := .fn (.func gg) us.toArray, args := #[] }, q4, opsOk_is q5 hoo, ?_, fun a2 hf2 => ?_⟩
                      · simp [execOp, hop, resolve, hgv, Deferred.ofValue]
                      · exact hk .nrm ⟨fl', m', (gg, cc) :: s.ds, s.rg⟩ e' As' flv' _ a2 w' _ q1 q2 ⟨[_], rfl⟩ q3 ⟨hf2, q5, q6, q7, ⟨⟨us, rfl, hc⟩, hr.dI.mono q3.le⟩, hr.rI⟩ rfl
                  · cases hd
                · cases q1
          · cases h
        | true =>
          rw [hb] at h
          simp only [cond_true] at h
          split at h
          · rename_i i hy
            have hlt : i < ops.size := by
              cases hany : s.fl.any (fun p => isY p.2) with
              | false => rw [hany] at hy; cases hy
              | true =>
                rw [hany] at hy
                have := List.mem_of_find?_eq_some (show (List.range ops.size).find? _ = some i from hy)
                exact List.mem_range.1 this
            refine w_regY (ro := ro) i (by show (true && (noDefer ops && Nat.blt i ops.size)) = true; rw [hb]; simpa [Nat.blt_eq] using hlt) ?_
            refine seqX_ok (ε := noP) (R := ops) (call_ok hup hC ih hcm) (List.range i) h hr.fr hr.fl hr.mem hr.st (fun fl1 flv1 m1 e1 As1 a1 w1 q1 q2 q3 q4 q5 q6 q7 => ?_) (fun s v fl' flv' m' e' As' a' w' q1 => by cases q1)
            refine stepY_ok hup ih hcm q1 q4 q5 q6 q7 fun fl2 flv2 m2 e2 As2 a2 w2 r1 r2 r3 r4 r5 r6 r7 => ?_
            refine seqX_ok (ε := noP) (R := ops) (call_ok hup hC ih hcm) (List.range' (i + 1) (ops.size - (i + 1))) r1 r4 r5 r6 r7 (fun fl3 flv3 m3 e3 As3 a3 w3 u1 u2 u3 u4 u5 u6 u7 => ?_) (fun s v fl' flv' m' e' As' a' w' q1 => by cases q1)
            exact hk .nrm ⟨fl3, m3, s.ds, s.rg⟩ e3 As3 flv3 dv a3 w3 _ u1 (q2.trans (r2.trans u2)) .refl (q3.trans (r3.trans u3)) ⟨u4, u5, u6, u7, hr.dI.mono (q3.trans (r3.trans u3)).le, hr.rI⟩ rfl
          refine w_regP (ε := fun ch a w => Q (.panic ch) a w) (by show (true && noDefer ops) = true; rw [hb]; rfl) (fun _ _ _ h => h) ?_
          exact seqX_ok (R := ops) (call_ok hup hC ih hcm) (List.range ops.size) h hr.fr hr.fl hr.mem hr.st (fun fl' flv' m' e' As' a' w' q1 q2 q3 q4 q5 q6 q7 => hk .nrm ⟨fl', m', s.ds, s.rg⟩ e' As' flv' dv a' w' _ q1 q2 .refl q3 ⟨q4, q5, q6, q7, hr.dI.mono q3.le, hr.rI⟩ rfl)
            (fun sv v fl' flv' m' e' As' a' w' q1 q2 q3 q4 q5 q6 q7 q8 => hk (.pan sv) ⟨fl', m', s.ds, s.rg⟩ e' As' flv' dv a' w' _ q1 q2 .refl q3 ⟨q4, q5, q7, q8, hr.dI.mono q3.le, hr.rI⟩ ⟨v, rfl, q6⟩)
      | true =>
        simp only [exec] at h
        obtain ⟨f1, f2, e1, A1, g1, g2⟩ := frzV_ok (fl0 := s.fl) ((findN (SP g).fz id).getD []) hr
        generalize frzV s.fl ((findN (SP g).fz id).getD []) s = s1 at h f1 f2 g1 g2
        have hk1 : ∀ x s' e' As' flv' dv' a' w' X, k x s' = some r → FX s1.fl flv s'.fl flv' → DX dv dv' → Go1 e1 A1 s1.m e' As' s'.m → KR N L0 e' As' flv' dv' s' a' w' → XIs e' x X → Q X a' w' := fun x s' e' As' flv' dv' a' w' X q1 q2 q3 q4 q5 q6 => hk x s' e' As' flv' dv' a' w' X q1 (by rw [← f1]; exact q2) q3 (g1.trans q4) q5 q6
        clear hk hr f1 f2 g1
        revert h g2 hk1
        revert s1 e1 A1
        intro e As s h hr hk
        generalize lateOf ((SP g).wr.contains id) (SP g).pu ops = mL at h
        split at h
        · rename_i i hy
          generalize (planY ops mL i).1 = pl at h
          generalize (planY ops mL i).2 = pl2 at h
          cases hb : drawYS (.region id ops true) i pl pl2 mL with
          | false => rw [hb] at h; cases h
          | true =>
            rw [hb] at h
            simp only [cond_true] at h
            have hst : St e.z (As ++ (mkA dv ++ L0)) w.drew := hr.st.drew
            refine w_regDYS (ro := ro) hP i pl pl2 mL (WM e As (mkA dv ++ L0)) hb ⟨e.z, Zone.le_refl _, hst⟩ ?_
            refine drwX_ok (ε := noP) (R := ops) (call_ok hup hC ih hcm) pl h (fun _ => rfl) (fun _ => rfl) hr.fr hr.fl hr.mem hst (fun fl1 flv1 m1 e1 As1 a1 w1 q1 q2 q3 q4 q5 q6 q7 => ?_) (fun s v fl' flv' m' e' As' a' w' q1 => by cases q1)
            refine stepY_ok hup ih hcm q1 q4 q5 q6 q7 fun fl2 flv2 m2 e2 As2 a2 w2 r1 r2 r3 r4 r5 r6 r7 => ?_
            refine drwX_ok (ε := noP) (R := ops) (call_ok hup hC ih hcm) pl2 r1 (fun hh => by cases hh) (fun hh => by cases hh) r4 r5 r6 r7 (fun fl3 flv3 m3 e3 As3 a3 w3 u1 u2 u3 u4 u5 u6 u7 => ?_) (fun s v fl' flv' m' e' As' a' w' q1 => by cases q1)
            exact hk .nrm ⟨fl3, m3, s.ds, s.rg⟩ e3 As3 flv3 dv a3 w3 _ u1 (q2.trans (r2.trans u2)) .refl (q3.trans (r3.trans u3)) ⟨u4, u5, u6, u7, hr.dI.mono (q3.trans (r3.trans u3)).le, hr.rI⟩ rfl
        generalize hkl : killOf (.region id ops true) s = kill at h
        generalize planG ops mL ops.size (Array.replicate ops.size false) = pl at h
        cases hb : (drawT (.region id ops true) pl mL && kill.all (fun t => Nat.blt t N)) with
        | false => rw [hb] at h; cases h
        | true =>
          rw [hb] at h
          simp only [cond_true] at h
          simp only [Bool.and_eq_true, List.all_eq_true] at hb
          have hst : St e.z (As ++ (mkA dv ++ L0)) w.drew := hr.st.drew
          refine w_regDP (ε := PanR (mkA dv ++ L0) N kill s flv dv e As (fun sv m => k (.pan sv) ⟨T0fl kill s.fl, m, s.ds, s.rg⟩) r) hP pl mL (WM e As (mkA dv ++ L0)) (panR_ok hkl.symm hb.2 hr.fl) ?_ hb.1 ⟨e.z, Zone.le_refl _, hst⟩ ?_
          · rintro ch a' w' ⟨v, sv, m', e', As', rfl, k2, k3, k4, k5, k6, g', k7⟩
            exact hk (.pan sv) ⟨T0fl kill s.fl, m', s.ds, s.rg⟩ e' As' _ dv a' w' _ k2 ⟨kill.map (fun t => (t, SV.any)), kill.map (fun t => (t, g' t)), rfl, rfl, by simp⟩ .refl k3 ⟨k7, any_is (hr.fl.mono k3.le) g', k5, k6, hr.dI.mono k3.le, hr.rI⟩ ⟨v, rfl, k4⟩
          · refine drwX_ok (R := ops) (call_ok hup hC ih hcm) pl h (fun _ => rfl) (fun _ => rfl) hr.fr hr.fl hr.mem hst (fun fl' flv' m' e' As' a' w' q1 q2 q3 q4 q5 q6 q7 => hk .nrm ⟨fl', m', s.ds, s.rg⟩ e' As' flv' dv a' w' _ q1 q2 .refl q3 ⟨q4, q5, q6, q7, hr.dI.mono q3.le, hr.rI⟩ rfl) ?_
            intro sv v fl' flv' m' e' As' a' w' q1 q2 q3 q4 q5 q6 q7 q8
            unfold kpD at q1
            cases hbb : ((fl'.take (fl'.length - s.fl.length)).all (fun p => !(keysS s.fl).contains p.1 || kill.contains p.1) && kill.all (fun t => (keysS s.fl).contains t)) with
            | false => rw [hbb] at q1; cases q1
            | true =>
              rw [hbb] at q1
              simp only [cond_true] at q1
              simp only [Bool.and_eq_true, List.all_eq_true] at hbb
              exact ⟨v, sv, m', e', As', rfl, q1, q3, q6, q7, q8, _, fr_kill q4 hr.fl q5 q2 hb.2 hbb.1⟩
    | rangeFunc x ps A B =>
      cases x with
      | tmp t =>
        simp only [exec] at h
        cases top with
        | false => cases h
        | true =>
          simp only [cond_true] at h
          cases hro rfl
          split at h
          · rename_i gf caps hlk
            cases hok : callOK P gf with
            | false => rw [hok] at h; cases h
            | true =>
              rw [hok] at h
              simp only [cond_true] at h
              obtain ⟨v, hv, hvi⟩ := hr.fl.look hlk
              cases hvi with
              | fn hx hcaps =>
                rename_i vs us
                cases hx
                refine w_range (c := .rangeFunc (.tmp t) ps A B) (g := t) (gf := gf) (lb := us.toArray) rfl hr.fr hr.st hv (fun l => ?_) fun ps' A' B' e1 e2 e3 l D w' hst => ?_
                · have := invoke_runY (P := P) (cs := us) (l := l) hok
                  exact this
                · subst e1 e2 e3
                  have hn := hr.mem.lb
                  have hm2 : Mem ((e.push ⟨D, none, 0, 0⟩).push ⟨l, none, 0, 0⟩) (.loop g N s.fl ps' A' B' .ready :: .defm :: s.m.σ) (loopA l N flv ps' A' B' D .ready none :: defA D :: As) :=
                    (hr.mem.push (i := ⟨D, none, 0, 0⟩) (B := .defm) .defm).push (i := ⟨l, none, 0, 0⟩) (B := .loop g N s.fl ps' A' B' .ready) (.loop (st := .ready) ((hr.fl.mono (e.le_push _)).mono (KE.le_push _ _)))
                  have hle2 : e.le ((e.push ⟨D, none, 0, 0⟩).push ⟨l, none, 0, 0⟩) := (e.le_push _).trans (KE.le_push _ _)
                  have hatL : at' ((e.push ⟨D, none, 0, 0⟩).push ⟨l, none, 0, 0⟩).bs (s.m.σ.length + 1) = some ⟨l, none, 0, 0⟩ := by
                    rw [hn]; exact at_new (l := (⟨D, none, 0, 0⟩ :: e.bs))
                  have hatD : at' ((e.push ⟨D, none, 0, 0⟩).push ⟨l, none, 0, 0⟩).bs s.m.σ.length = some ⟨D, none, 0, 0⟩ := by
                    rw [hn]; exact at_cons at_new
                  obtain ⟨pv, hpv⟩ := ptrsF_is (hr.fl.mono hle2)
                  have hargs : IsL ((e.push ⟨D, none, 0, 0⟩).push ⟨l, none, 0, 0⟩) (.yld (s.m.σ.length + 1) (ptrsF s.fl) :: caps) (.func (.yield l) #[] #[] :: us) := .cons (.yld (i := ⟨l, none, 0, 0⟩) hatL hpv) (hcaps.mono hle2)
                  have hst2 : St ((e.push ⟨D, none, 0, 0⟩).push ⟨l, none, 0, 0⟩).z ((loopA l N flv ps' A' B' D .ready none :: defA D :: As) ++ (mkA dv ++ L0)) w' := hst
                  have hcall := call_ok hup hC ih hcm h hm2 hst2 hargs
                  have harr : (#[Value.func (.yield l) #[] #[]] ++ us.toArray) = (Value.func (.yield l) #[] #[] :: us).toArray := by simp
                  rw [harr]
                  refine Calls.mono hcall ?_
                  rintro en w2 ⟨c, m', e', As', k1, k2, k3, k4, k5⟩
                  cases c with
                  | pan sv => cases k1
                  | val sv =>
                    obtain ⟨rv, rfl, _⟩ := k2
                    refine ⟨rv, rfl, fun a' hfa => ?_⟩
                    simp only at k1
                    split at k1
                    · rename_i g1 N1 fl1 ps1 A1 B1 st hB1 hB2
                      obtain ⟨i1, X1, p1, p2, p3⟩ := k4.get hB1
                      obtain ⟨i2, X2, o1, o2, o3⟩ := k4.get hB2
                      have := k3.le.at hatL
                      rw [p1] at this; cases this
                      have := k3.le.at hatD
                      rw [o1] at this; cases this
                      cases p3 with
                      | loop hfl1 =>
                        cases o3 with
                        | defm =>
                          rename_i flv1 D1
                          have hle := hle2.trans k3.le
                          have hidL := at_lt p2
                          have hidD := at_lt o2
                          -- the record goes, then the mark's block is set aside
                          have hfin : ∀ {w4 : World}, St e'.z (setAt As' (s.m.σ.length + 1) emp ++ (mkA dv ++ L0)) w4 → St e'.z (setAt (setAt As' (s.m.σ.length + 1) emp) s.m.σ.length emp ++ (mkA (Sx.mark D :: dv) ++ L0)) w4 := fun {w4} hs => by
                            have o2' : at' (setAt As' (s.m.σ.length + 1) emp) s.m.σ.length = some (defA D) := by rw [at_set_ne hidL (by omega)]; exact o2
                            exact st_take hs o2'
                          have hext : ExtM s.m ⟨setAt (setAt m'.σ (s.m.σ.length + 1) .gone) s.m.σ.length .gone, (s.m.σ.length, 0) :: (s.m.σ.length + 1, 0) :: m'.lg⟩ := by
                            have x1 : ExtM s.m ⟨.loop g N s.fl ps' A' B' .ready :: .defm :: s.m.σ, s.m.lg⟩ := (ExtM.push s.m .defm).trans (ExtM.push _ _)
                            have x2 : ExtM m' ⟨setAt m'.σ (s.m.σ.length + 1) .gone, (s.m.σ.length + 1, 0) :: m'.lg⟩ := ExtM.set hB1 fun _ _ e => by cases e
                            have x3 : ExtM ⟨setAt m'.σ (s.m.σ.length + 1) .gone, (s.m.σ.length + 1, 0) :: m'.lg⟩ ⟨setAt (setAt m'.σ (s.m.σ.length + 1) .gone) s.m.σ.length .gone, (s.m.σ.length, 0) :: (s.m.σ.length + 1, 0) :: m'.lg⟩ := ExtM.set (B := .defm) (by
                              show at' (setAt m'.σ _ _) _ = _
                              rw [at_set_ne (at_lt hB1) (by omega)]; exact hB2) fun _ _ e => by cases e
                            exact x1.trans (k3.ext.trans (x2.trans x3))
                          have hgo : Go1 e As s.m e' (setAt (setAt As' (s.m.σ.length + 1) emp) s.m.σ.length emp) ⟨setAt (setAt m'.σ (s.m.σ.length + 1) .gone) s.m.σ.length .gone, (s.m.σ.length, 0) :: (s.m.σ.length + 1, 0) :: m'.lg⟩ := ⟨hle, hext, fun hh => by
                            have := k3.ext.lgle
                            simp at hh this
                            omega⟩
                          have hmem : Mem e' (setAt (setAt m'.σ (s.m.σ.length + 1) .gone) s.m.σ.length .gone) (setAt (setAt As' (s.m.σ.length + 1) emp) s.m.σ.length emp) := (k4.set p1 .gone).set o1 .gone
                          have hj : (As' ++ (mkA dv ++ L0))[As'.length - 1 - (s.m.σ.length + 1)]? = some (loopA l N1 flv1 ps1 A1 B1 D1 st.st st.pe) := Mem.atom p2
                          have hfr : Fr a' N flv (Sx.mark D :: dv) := hfa
                          have hdI : DsIs e' s.ds (noMk (Sx.mark D :: dv)) := by
                            have : noMk (Sx.mark D :: dv) = noMk dv := by simp [noMk, mkD]
                            rw [this]; exact hr.dI.mono hle
                          have hkr : ∀ {w4 : World}, St e'.z (setAt As' (s.m.σ.length + 1) emp ++ (mkA dv ++ L0)) w4 → KR N L0 e' (setAt (setAt As' (s.m.σ.length + 1) emp) s.m.σ.length emp) flv (Sx.mark D :: dv) ⟨s.fl, ⟨setAt (setAt m'.σ (s.m.σ.length + 1) .gone) s.m.σ.length .gone, (s.m.σ.length, 0) :: (s.m.σ.length + 1, 0) :: m'.lg⟩, s.ds, true⟩ a' w4 := fun {w4} hs =>
                            ⟨hfr, hr.fl.mono hle, hmem, hfin hs, hdI, fun hh => by cases hh⟩
                          cases st with
                          | ready =>
                            refine p_jump0 k5 hj (by simp [LS.st]) fun w4 hs => ?_
                            rw [setAt_app hidL] at hs
                            exact hk .nrm _ e' _ flv _ a' w4 _ k1 .refl ⟨[_], rfl⟩ hgo (hkr hs) rfl
                          | busy => cases k1
                          | done j =>
                            cases j with
                            | none =>
                              refine p_jumpR k5 hj (by simp [LS.st]) fun w4 hs => ?_
                              rw [setAt_app hidL] at hs
                              exact hk .ret _ e' _ flv _ a' w4 _ k1 .refl ⟨[_], rfl⟩ hgo (hkr hs) rfl
                            | some q =>
                              refine p_jumpX k5 hj (by simp [LS.st]) fun w4 hs => ?_
                              rw [setAt_app hidL] at hs
                              exact hk (.ext q) _ e' _ flv _ a' w4 _ k1 .refl ⟨[_], rfl⟩ hgo (hkr hs) rfl
                    · cases k1
          · cases h
      | _ => simp [exec] at h
    | _ => simp [exec] at h
end Go.K
namespace Go.K
open Go.Sl Go.Sx Go.Proofs
theorem w64_id {n : Int} (h1 : -9223372036854775808 ≤ n) (h2 : n ≤ 9223372036854775807) : w64 n = n := by
  unfold w64 IntKind.wrap
  simp [IntKind.bits, IntKind.signed]
  omega
theorem getI_nat {α : Type} {xs : List α} {i : Nat} {x : α} (h : xs[i]? = some x) : getI xs (i : Int) = some x := by simp [getI, h]
theorem byteAt_nat {s : ByteArray} {i : Nat} {b : UInt8} (h : s.data.toList[i]? = some b) : byteAt s (i : Int) = some ((b.toNat : Nat) : Int) := by
  unfold byteAt
  rw [if_pos (by omega)]
  have : s[(i : Int).toNat]? = some b := by
    show s[i]? = some b
    have hlt : i < s.data.size := by
      have := (List.getElem?_eq_some_iff.1 h).1
      simpa using this
    rw [getElem?_pos s i hlt]
    have h2 := (List.getElem?_eq_some_iff.1 h).2
    rw [← h2]; simp; rfl
  rw [this]; rfl
theorem size_len (s : ByteArray) : s.size = s.data.toList.length := by simp
theorem eqL' (s : ByteArray) (l : List UInt8) : (ByteArray.toList s == l) = decide (s.data.toList = l) := by
  rw [Lib.toList_data]
  by_cases h : s.data.toList = l <;> simp [h]
theorem ofL_data (l : List UInt8) : (⟨l.toArray⟩ : ByteArray).data.toList = l := by simp
theorem app_data (s t : ByteArray) : (s ++ t).data.toList = s.data.toList ++ t.data.toList := by
  simp [ByteArray.data_append]
theorem ext_data {s t : ByteArray} (h : s.data.toList = t.data.toList) : s = t := by
  obtain ⟨⟨a⟩⟩ := s; obtain ⟨⟨b⟩⟩ := t
  simp at h; rw [h]
theorem catC_of {s t : ByteArray} (h : s.size + t.size ≤ 9223372036854775807) : catC s t = some () := by unfold catC; rw [if_pos h]
theorem cutC_of {s : ByteArray} {a b : Int} (h : 0 ≤ a ∧ a ≤ b ∧ b ≤ (s.size : Int)) : cutC s a b = some () := by unfold cutC; rw [if_pos h]
theorem appC_of {α : Type} [b : Inhabited (Byt α)] {xs ys : List α} (h : xs.length + ys.length ≤ 1099511627776) (hb : b.default.n ≤ 128 := by decide) : appC xs ys = some (xs ++ ys) := by
  unfold appC; rw [if_pos]
  have := Nat.mul_le_mul h hb
  omega
def foldS {σ A ρ : Type} (step : σ → Nat → A → A ⊕ ρ) : List σ → Nat → A → A ⊕ ρ
  | [], _, a => .inl a
  | x :: r, i, a => match step x i a with
    | .inl a' => foldS step r (i + 1) a'
    | .inr e => .inr e
end Go.K
namespace Go.K
open Go.Sl Go.Sx
variable {e e' e0 : KE} {σ σ' : List Blk} {As L0 L : List Atom} {P : Program} {w : World} {h h' z : Zone}
theorem own_slice {α : Type} {T : Ty α} {E : TypeId} {o : Option Addr} {cap : Nat} {xs : List α} {x : Hp} (hx : OwnP T E o cap xs h' x) (hxb : x.le h'.blk) : SliceR T h' o cap xs := by
  rcases hx with ⟨rfl, rfl, rfl, rfl⟩ | ⟨g, cur, rfl, rfl, h1, h2, h3, h4⟩
  · exact SliceR.nil' T h'
  · refine ⟨h1, h2, fun e => (by cases e), fun a e i y hy => ?_⟩
    cases e
    obtain ⟨c, hc, hg⟩ := h4.get hy
    refine ⟨c, hc, fun k v hk => ?_⟩
    have hblk : h'.blk g = some (.cells cur E (0, 0)) := Hp.one_le.1 hxb
    have := hg k v hk
    rw [List.getElem?_take] at this
    split at this
    · rw [add_add]
      have hadd : (⟨g, 0, none⟩ : Addr).add (i * T.size + k) = ⟨g, i * T.size + k, none⟩ := by unfold Addr.add; split <;> simp_all
      rw [hadd]
      simpa [Zone.cell?, hblk] using this
    · cases this
theorem lendAll (s : St h L w) : ∃ h1, h.le h1 ∧ St h1 [] w ∧ (∀ {i : Nat} {A : Atom}, L[i]? = some A → ∃ x, A.P h1 x ∧ x.le h1.blk) ∧
    ∀ {h2 : Zone} {w' : World}, h1.le h2 → St h2 [] w' → ∃ h3, h.le h3 ∧ St h3 L w' := by
  obtain ⟨z, hz, hd, hb, hzw⟩ := s.sep
  let h1 : Zone := ⟨h.blk.add z, h.os, h.tape, h.output⟩
  have hle : h.le h1 := ⟨Hp.le_add_left _ _, rfl, rfl, rfl⟩
  refine ⟨h1, hle, ⟨⟨Hp.nil, rfl, Hp.apart_nil _, Hp.add_le hb hzw, Hp.nil_le _⟩, s.os, s.tape, s.output⟩, fun {i A} hi => ?_, fun {h2 w'} hle2 s2 => ?_⟩
  · obtain ⟨x, y, hx, dxy, e, _⟩ := hz.focus hi
    refine ⟨x, A.mono _ _ _ hle hx, ?_⟩
    subst e
    exact Hp.le_trans (Hp.le_add_left _ _) (Hp.le_add_right hd)
  · obtain ⟨z2, _, _, hb2, _⟩ := s2.sep
    let h3 : Zone := ⟨fun b => if (z b).isSome then none else h2.blk b, h2.os, h2.tape, h2.output⟩
    have hle3 : h.le h3 := by
      refine ⟨fun b o ho => ?_, hle2.os.trans hle.os, hle2.tape.trans hle.tape, hle2.output.trans hle.output⟩
      have hzb : z b = none := by
        rcases hd b with h' | h'
        · rw [ho] at h'; cases h'
        · exact h'
      show (if (z b).isSome then none else h2.blk b) = some o
      rw [hzb]
      exact hle2.blk _ _ (hle.blk _ _ ho)
    refine ⟨h3, hle3, ⟨⟨z, hz.mono hle3, fun b => ?_, fun b o ho => ?_, fun b o ho => ?_⟩, s2.os, s2.tape, s2.output⟩⟩
    · cases hzb : z b with
      | none => exact .inr rfl
      | some o =>
        refine .inl ?_
        show (if (z b).isSome then none else h2.blk b) = none
        simp [hzb]
    · have ho' : (if (z b).isSome then none else h2.blk b) = some o := ho
      split at ho'
      · cases ho'
      · exact hb2 _ _ ho'
    · exact hb2 _ _ (hle2.blk _ _ (Hp.le_add_right hd _ _ ho))
def lndC (σ : List Blk) : SV → SV
  | .own id => match at' σ id with
    | some (.own t _ xs) => .sl t xs
    | some (.fz t xs) => .sl t xs
    | _ => .own id
  | .mp id => match at' σ id with
    | some (.map es) => .mpc es
    | some (.fzm es) => .mpc es
    | _ => .mp id
  | s => s
def lndS (σ : List Blk) : SV → SV
  | .agg cs => .agg (cs.map (lndC σ))
  | s => lndC σ s
theorem lndC_is {h1 : Zone} (m : Mem e σ As) (hle : e.z.le h1) (hA : ∀ {i : Nat} {A : Atom}, (As ++ L0)[i]? = some A → ∃ x, A.P h1 x ∧ x.le h1.blk) {s : SV} {v : Value} (k : Is e s v) : Is ⟨h1, e.bs⟩ (lndC σ s) v := by
  have hke : e.le ⟨h1, e.bs⟩ := ⟨hle, [], rfl⟩
  unfold lndC
  split
  · rename_i id
    split
    · rename_i t E xs hB
      obtain ⟨i, m1, m2, m3⟩ := m.len hB
      cases k with
      | own hi =>
        rw [hi] at m1; cases m1
        obtain ⟨x, hx, hxb⟩ := hA (Mem.atom (L0 := L0) m3)
        rw [← m2]
        exact .sl (own_slice hx hxb)
    · rename_i t xs hB
      obtain ⟨i, A, m1, m2, m3⟩ := m.get hB
      cases k with
      | own hi =>
        rw [hi] at m1; cases m1
        cases m3 with
        | fz hn hs => rw [← hn]; exact .sl (hs.mono hle)
    · exact k.mono hke
  · rename_i id
    split
    · rename_i es hB
      obtain ⟨i, A, m1, m2, m3⟩ := m.get hB
      cases k with
      | mp hi =>
        rw [hi] at m1; cases m1
        cases m3 with
        | map =>
          obtain ⟨x, hx, hxb⟩ := hA (Mem.atom (L0 := L0) m2)
          have hx' : x = Hp.one i.b (cobj es) := hx
          subst hx'
          exact .mpc (Hp.one_le.1 hxb)
    · rename_i es hB
      obtain ⟨i, A, m1, m2, m3⟩ := m.get hB
      cases k with
      | mp hi =>
        rw [hi] at m1; cases m1
        cases m3 with
        | fzm hb => exact .mpc (hle.blk _ _ hb)
    · exact k.mono hke
  · exact k.mono hke
theorem lndCs_is {h1 : Zone} (m : Mem e σ As) (hle : e.z.le h1) (hA : ∀ {i : Nat} {A : Atom}, (As ++ L0)[i]? = some A → ∃ x, A.P h1 x ∧ x.le h1.blk) : ∀ {l : List SV} {vs : List Value}, IsL e l vs → IsL ⟨h1, e.bs⟩ (l.map (lndC σ)) vs
  | _, _, .nil => .nil
  | _, _, .cons a b => .cons (lndC_is m hle hA a) (lndCs_is m hle hA b)
theorem lndS_is {h1 : Zone} (m : Mem e σ As) (hle : e.z.le h1) (hA : ∀ {i : Nat} {A : Atom}, (As ++ L0)[i]? = some A → ∃ x, A.P h1 x ∧ x.le h1.blk) {s : SV} {v : Value} (k : Is e s v) : Is ⟨h1, e.bs⟩ (lndS σ s) v := by
  unfold lndS
  split
  · cases k with
    | agg hl => exact .agg (lndCs_is m hle hA hl)
  · exact lndC_is m hle hA k
theorem lndL_is {h1 : Zone} (m : Mem e σ As) (hle : e.z.le h1) (hA : ∀ {i : Nat} {A : Atom}, (As ++ L0)[i]? = some A → ∃ x, A.P h1 x ∧ x.le h1.blk) : ∀ {l : List SV} {vs : List Value}, IsL e l vs → IsL ⟨h1, e.bs⟩ (l.map (lndS σ)) vs
  | _, _, .nil => .nil
  | _, _, .cons a b => .cons (lndS_is m hle hA a) (lndL_is m hle hA b)
theorem flat_any {z z2 : Zone} : ∀ {t : TC} {x : t.den} {cs : List Value}, t.flat = true → t.ty.rep z cs x → t.ty.rep z2 cs x
  | .int _, _, _, _, k => k
  | .bool, _, _, _, k => k
  | .str, _, _, _, k => k
  | .unit, _, _, _, k => k
  | .pair a b, x, cs, hf, ⟨c, d, e1, hc, hd⟩ => by
    simp only [TC.flat, Bool.and_eq_true] at hf
    exact ⟨c, d, e1, flat_any hf.1 hc, flat_any hf.2 hd⟩
end Go.K
