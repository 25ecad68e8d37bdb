/-
  Small words for printed walks. Program-independent. No condition.
-/
import Derived.Test.YtlmgjjmighajdaaSw
namespace Go.Sx
open Go.Sl

abbrev w64 (n : Int) : Int := IntKind.i64.wrap n

abbrev pB (b n : Nat) : Value := .pointer (some ⟨b, n, none⟩)
abbrev vI (n : Int) : Value := .int .i64 n

theorem bind_some {α β : Type} {x : Option α} {f : α → Option β} {r : β} (h : x.bind f = some r) : ∃ y, x = some y ∧ f y = some r := by
  cases x with
  | none => cases h
  | some y => exact ⟨y, rfl, h⟩
theorem cond_t {α : Type} {b : Bool} {x y : α} {r : α} (hb : b = true) (h : cond b x y = r) : x = r := by rw [hb] at h; exact h
theorem cond_f {α : Type} {b : Bool} {x y : α} {r : α} (hb : b = false) (h : cond b x y = r) : y = r := by rw [hb] at h; exact h
theorem some_eq {α : Type} {x y : α} (h : some x = some y) : x = y := Option.some.inj h

/-- A divisor that is not 0. -/
def nz (n : Int) : Option Unit := if n ≠ 0 then some () else none
theorem nz_spec {n : Int} {u : Unit} (h : nz n = some u) : n ≠ 0 := by
  unfold nz at h
  split at h
  · assumption
  · cases h

/-- Go's store into an element. -/
def setI {α : Type} (xs : List α) (i : Int) (x : α) : Option (List α) := if 0 ≤ i ∧ i < xs.length then some (xs.set i.toNat x) else none
theorem setI_spec {α : Type} {xs ys : List α} {i : Int} {x : α} (h : setI xs i x = some ys) : (0 ≤ i ∧ i < xs.length) ∧ ys = xs.set i.toNat x := by
  unfold setI at h
  split at h
  · rename_i hc; simp only [Option.some.injEq] at h; exact ⟨hc, h.symm⟩
  · cases h

variable {α : Type} {T : Ty α} {P : Program} {a : Act} {N : Nat} {fl : FL} {ds : List Nat} {w : World} {R : Array Oper} {m : List Nat} {S : World → Prop} {K : Act → World → Prop} {pl : List (Nat × Bool)} {h h' : Zone} {L : List Atom}

/-- Quiet operations taken first, where nothing turns the world. -/
theorem p_firstE (n : Nat) (os : List Value) (keep : List Nat) {fl' : FL} {obs : List Obl}
    (hlt : ((pl.take n).all fun p => lateB .any R m p.1) = true) (hf : Fr a N fl ds) (hfl : allFlag true (pl.take n) = true) (he : evK P R N ((pl.take n).map (·.1)) fl os keep = some (fl', obs)) (hob : HA w obs)
    (k : ∀ a', Fr a' N fl' ds → wpPlan P R m (fun x => x = w) K (pl.drop n) a' w) : wpPlan P R m (fun x => x = w) K pl a w :=
  p_first n os keep rfl hlt hf hfl he (fun w' e => by subst e; exact hob) k

/-- The world still is at least so. -/
def Sub (h : Zone) (L : List Atom) (w : World) : Prop := ∃ h', h.le h' ∧ St h' L w
theorem Sub.of (k : h.le h') (s : St h' L w) : Sub h L w := ⟨h', k, s⟩
theorem Sub.cell (s : Sub h L w) {ad : Addr} {v : Value} (e : h.cell? ad = some v) : w.cell? ad = some v := let ⟨_, k, s⟩ := s; s.cell (k.cell e)
theorem Sub.box (s : Sub h L w) {i b : Nat} {cs : List Value} {T : TypeId} (hi : L[i]? = some (Sx.box b cs T)) {j : Nat} {v : Value} (hj : cs[j]? = some v) : w.cell? ⟨b, j, none⟩ = some v := let ⟨_, _, s⟩ := s; s.box hi hj

theorem Sub.ownCell {β : Type} {U : Ty β} {E : TypeId} {o : Option Addr} {cap : Nat} {xs : List β} (s : Sub h L w) {j : Nat} (hj : L[j]? = some (ownS U E o cap xs)) {ad : Addr} (ho : o = some ad) {i : Int} {x : β} (e : getI xs i = some x)
    {cs : List Value} (hc : ∀ h c, U.rep h c x → c = cs) {k : Nat} {v : Value} (hk : cs[k]? = some v) : w.cell? ((ad.add (i.toNat * U.size)).add k) = some v := by
  obtain ⟨h', _, s⟩ := s
  obtain ⟨a, ha, _, c, hrep, hg⟩ := s.ownGet hj e
  rw [ho] at ha; cases ha
  have := hc _ _ hrep; subst this
  exact hg k v hk

/-- An atom of which nothing is said. -/
def anyA : Atom := ⟨fun _ _ => True, fun _ _ _ _ _ => trivial⟩
theorem _root_.Go.Sl.St.mask (s : St h L w) {i : Nat} {A : Atom} (hi : L[i]? = some A) : St h (L.set i anyA) w := s.conv hi fun _ _ => trivial

/-- An index of an array in place. -/
theorem arrGet {n : Nat} {cs : List Value} {xs : List α} (s : (Ty.arr n T).rep h cs xs) (h1 : T.size = 1) {i : Int} {x : α} (e : getI xs i = some x) :
    (0 ≤ i ∧ i < n) ∧ ∃ v, cs[i.toNat]? = some v ∧ T.rep h [v] x := by
  obtain ⟨hb, hx⟩ := getI_spec e
  obtain ⟨hl, hr⟩ := s
  obtain ⟨c, hc, hj⟩ := hr.get hx
  have hcl := T.len hc
  rw [h1] at hcl
  match c, hcl with
  | [v], _ =>
    have := hj 0 v rfl
    rw [h1, Nat.mul_one, Nat.add_zero] at this
    exact ⟨⟨hb.1, by omega⟩, v, this, hc⟩

theorem arrAddr (b off i : Nat) : (((⟨b, off, none⟩ : Addr)).add (i * 1)) = ⟨b, off + i, none⟩ := by
  unfold Addr.add
  split <;> simp_all
theorem getElem?_app_right (pre cs : List Value) (i : Nat) {v : Value} (e : cs[i]? = some v) : ∀ post : List Value, (pre ++ cs ++ post)[pre.length + i]? = some v := by
  intro post
  have hlt : i < cs.length := (List.getElem?_eq_some_iff.1 e).1
  rw [List.append_assoc, List.getElem?_append_right (by omega), List.getElem?_append_left (by omega)]
  simpa using e

/-- A field of an element of an owned slice of plain data is written. -/
theorem p_setOwn {n : Nat} {f : α → List Value} {hn : ∀ x, (f x).length = n} {h1 : ∀ x, oneCells (f x) = true} {E : TypeId} {o : Option Addr} {cap : Nat} {xs ys : List α} {i j : Nat} {ad : Addr} {ix : Int} {off : Nat} {vs : List Value} {x x' : α}
    (hS : St h L w) (hf : Fr a N fl ds) (hj : L[j]? = some (ownS (Ty.flat n f hn h1) E o cap xs)) (hoa : o = some ad) (hx : getI xs ix = some x)
    (ho : storeAt P R N pl fl = some (i, (ad.add (ix.toNat * n)).add off, vs)) (hfit : (Nat.ble (off + vs.length) n && oneCells vs) = true) (hs : splice (f x) off vs = f x') (hy : setI xs ix x' = some ys)
    (k : ∀ w' a', St h (L.set j (ownS (Ty.flat n f hn h1) E o cap ys)) w' → Fr a' N fl ds → (m.contains i = false → S w') ∧ wpPlan P R m S K pl.tail a' w') : wpPlan P R m S K pl a w := by
  subst hoa
  obtain ⟨hb, rfl⟩ := setI_spec hy
  obtain ⟨_, hg⟩ := getI_spec hx
  have hlt : ix.toNat < xs.length := (List.getElem?_eq_some_iff.1 hg).1
  have hxe : xs[ix.toNat] = x := (List.getElem?_eq_some_iff.1 hg).2
  refine p_storeOwn (T := Ty.flat n f hn h1) hS hf hj hlt ho hfit (fun c hc => ?_) k
  have hc' : c = f xs[ix.toNat] := hc
  subst hc'
  rw [hxe]
  exact hs
/-- An element of an owned slice of integers is written. -/
theorem p_setOwnI {E : TypeId} {o : Option Addr} {cap : Nat} {xs ys : List Int} {i j : Nat} {ad : Addr} {ix : Int} {x' : Int}
    (hS : St h L w) (hf : Fr a N fl ds) (hj : L[j]? = some (ownS Ty.int E o cap xs)) (hoa : o = some ad)
    (ho : storeAt P R N pl fl = some (i, (ad.add (ix.toNat * 1)).add 0, [.int .i64 x'])) (hy : setI xs ix x' = some ys)
    (k : ∀ w' a', St h (L.set j (ownS Ty.int E o cap ys)) w' → Fr a' N fl ds → (m.contains i = false → S w') ∧ wpPlan P R m S K pl.tail a' w') : wpPlan P R m S K pl a w := by
  subst hoa
  obtain ⟨hb, rfl⟩ := setI_spec hy
  have hlt : ix.toNat < xs.length := by omega
  refine p_storeOwn (T := Ty.int) hS hf hj hlt ho rfl (fun c hc => ?_) k
  have hc' : c = [.int .i64 xs[ix.toNat]] := hc
  subst hc'
  rfl
theorem p_setOwnB {E : TypeId} {o : Option Addr} {cap : Nat} {xs ys : List Bool} {i j : Nat} {ad : Addr} {ix : Int} {x' : Bool}
    (hS : St h L w) (hf : Fr a N fl ds) (hj : L[j]? = some (ownS Ty.bool E o cap xs)) (hoa : o = some ad)
    (ho : storeAt P R N pl fl = some (i, (ad.add (ix.toNat * 1)).add 0, [.bool x'])) (hy : setI xs ix x' = some ys)
    (k : ∀ w' a', St h (L.set j (ownS Ty.bool E o cap ys)) w' → Fr a' N fl ds → (m.contains i = false → S w') ∧ wpPlan P R m S K pl.tail a' w') : wpPlan P R m S K pl a w := by
  subst hoa
  obtain ⟨hb, rfl⟩ := setI_spec hy
  have hlt : ix.toNat < xs.length := by omega
  refine p_storeOwn (T := Ty.bool) hS hf hj hlt ho rfl (fun c hc => ?_) k
  have hc' : c = [.bool xs[ix.toNat]] := hc
  subst hc'
  rfl
theorem getI_idx {β : Type} {f : β → Value} {xs : List β} {i : Int} {x : β} {n : Nat} (hn : xs.length = n) (e : getI xs i = some x) : (0 ≤ i ∧ i < n) ∧ ((xs.map f).toArray)[i.toNat * 1]? = some (f x) := by
  obtain ⟨hb, hx⟩ := getI_spec e
  subst hn
  exact ⟨hb, by simp [hx]⟩
theorem arrIdx {cs : List Value} {n : Nat} {v : Value} (e : cs[n]? = some v) : cs.toArray[n * 1]? = some v := by simpa using e

theorem sliceRep {o : Option Addr} {cap : Nat} {xs : List α} (s : SliceR T h o cap xs) : (Ty.slice T).rep h [.slice o xs.length cap] xs := ⟨o, cap, rfl, s⟩
theorem Fr.conv {fl' : FL} (hf : Fr a N fl ds) (e : fl = fl') : Fr a N fl' ds := e ▸ hf
theorem _root_.Go.Sl.St.convL {L' : List Atom} (s : St h L w) (e : L = L') : St h L' w := e ▸ s
theorem setI_len {xs ys : List α} {i : Int} {x : α} (e : setI xs i x = some ys) : xs.length = ys.length := by
  obtain ⟨_, rfl⟩ := setI_spec e
  simp
theorem ElemOK.of {P : Program} {t E : TypeId} {size : Nat} {z : Value} {i : TypeInfo} (hu : P.underlying t = some (.slice E)) (hi : P.info? E = some i) (hz : i.zero = some z)
    (h : (Nat.beq i.size size && Nat.ble i.bytes 128 && Nat.beq z.cells.size size && Nat.ble 1 size) = true) : ElemOK P t E size z := by
  simp only [Bool.and_eq_true, Nat.beq_eq, Nat.ble_eq] at h
  exact ⟨hu, ⟨i, hi, h.1.1.1, h.1.1.2, hz⟩, h.1.2, h.2⟩
theorem some_of {β : Type} {x y : β} (h : some x = some y) : y = x := (Option.some.inj h).symm
/-- A call, walked in place. -/
theorem p_inl {i : Nat} {d : Option Nat} {f : FuncId} {args : Array Value} {N' : Nat} {fn : Func} (hf : Fr a N fl ds) (ho : callAt P R N pl fl = some (i, d, f, args)) (hfn : P.funcs[f]? = some fn)
    (hN : (fn.body.isSome && (Nat.beq (args.size + (fn.ntmps - args.size)) N')) = true)
    (k : ∀ a', Fr a' N' (argFL args) → (bodyOf fn).cw none P (postM P fn fun e w' => ∃ v, e = .returned v ∧ ∀ a'', Fr a'' N (putF fl d v) ds → (m.contains i = false → S w') ∧ wpPlan P R m S K pl.tail a'' w') a' w) : wpPlan P R m S K pl a w :=
  p_call hf ho (Φ := fun v w' => ∀ a'', Fr a'' N (putF fl d v) ds → (m.contains i = false → S w') ∧ wpPlan P R m S K pl.tail a'' w') (calls_intro hfn hN k) (fun _ _ a' h hf' => h a' hf')
/-! ### Atoms picked out -/
theorem _root_.Go.Sl.Sep.front {z : Hp} {i : Nat} {A : Atom} (hz : Sep h L z) (hi : L[i]? = some A) : ∃ x y, A.P h x ∧ Sep h (L.set i emp) y ∧ x.apart y ∧ z = x.add y := by
  obtain ⟨x, y, hx, d, e, k⟩ := hz.focus hi
  have := k h emp Hp.nil (Zone.le_refl h) rfl (Hp.apart_comm (Hp.apart_nil _))
  rw [Hp.nil_add] at this
  exact ⟨x, y, hx, this, d, e⟩

theorem sepPick : ∀ (is : List Nat) {L : List Atom} {z : Hp}, Sep h L z → is.Nodup → (∀ i ∈ is, i < L.length) → ∃ y, Sep h (is.map fun i => L.getD i emp) y ∧ y.le z
  | [], L, z, hz, _, _ => ⟨Hp.nil, rfl, Hp.nil_le _⟩
  | i :: is, L, z, hz, hn, hlt => by
    have hi := hlt i (List.mem_cons_self ..)
    obtain ⟨x, y, hx, hy, d, e⟩ := hz.front (i := i) (A := L.getD i emp) (by simp [List.getD, hi])
    obtain ⟨hni, hn'⟩ := List.nodup_cons.1 hn
    obtain ⟨y', hy', hle⟩ := sepPick is hy hn' (fun j hj => by simpa using hlt j (List.mem_cons_of_mem _ hj))
    have he : (is.map fun j => (L.set i emp).getD j emp) = is.map fun j => L.getD j emp := by
      apply List.map_congr_left
      intro j hj
      have hne : i ≠ j := fun e => hni (e ▸ hj)
      simp [List.getD, List.getElem?_set_ne hne]
    rw [he] at hy'
    exact ⟨x.add y', ⟨x, y', hx, hy', Hp.apart_of_le d hle, rfl⟩, e ▸ Hp.add_le (Hp.le_add_left _ _) (Hp.le_trans hle (Hp.le_add_right d))⟩

def nodupB : List Nat → Bool
  | [] => true
  | i :: is => !is.contains i && nodupB is
theorem nodupB_spec : ∀ {is : List Nat}, nodupB is = true → is.Nodup
  | [], _ => List.nodup_nil
  | i :: is, h => by
    simp only [nodupB, Bool.and_eq_true, Bool.not_eq_true'] at h
    exact List.nodup_cons.2 ⟨(fun hm => by have h2 := List.contains_iff_mem.2 hm; rw [h2] at h; exact absurd h.1 (by simp)), nodupB_spec h.2⟩

theorem _root_.Go.Sl.St.pick (n : Nat) (is : List Nat) (s : St h L w) (hc : (Nat.ble n L.length && (nodupB is && is.all fun i => Nat.blt i n)) = true) : St h ((is.map fun i => L.getD i emp) ++ L.drop n) w := by
  simp only [Bool.and_eq_true, List.all_eq_true] at hc
  obtain ⟨hn, hnd, hlt⟩ := hc
  have hn := Nat.le_of_ble_eq_true hn
  have hnd := nodupB_spec hnd
  obtain ⟨z, hz, hd, hb, hzw⟩ := s.sep
  have hL : L = L.take n ++ L.drop n := (List.take_append_drop n L).symm
  rw [hL] at hz
  obtain ⟨x, y, hx, hy, d, e⟩ := Sep.append.1 hz
  have hlt' : ∀ i ∈ is, i < n := fun i hi => by simpa [Nat.blt_eq] using hlt i hi
  obtain ⟨x', hx', hle⟩ := sepPick is hx hnd (fun i hi => by simp only [List.length_take]; have := hlt' i hi; omega)
  have he : (is.map fun i => (L.take n).getD i emp) = is.map fun i => L.getD i emp := by
    apply List.map_congr_left
    intro i hi
    simp [List.getD, hlt' i hi]
  rw [he] at hx'
  have d' : x'.apart y := Hp.apart_comm (Hp.apart_of_le (Hp.apart_comm d) hle)
  have hle' : (x'.add y).le z := e ▸ Hp.add_le (Hp.le_trans hle (Hp.le_add_left _ _)) (Hp.le_add_right d)
  exact ⟨⟨x'.add y, Sep.append.2 ⟨x', y, hx', hy, d', rfl⟩, Hp.apart_of_le hd hle', hb, Hp.le_trans hle' hzw⟩, s.os, s.tape, s.output⟩
end Go.Sx
