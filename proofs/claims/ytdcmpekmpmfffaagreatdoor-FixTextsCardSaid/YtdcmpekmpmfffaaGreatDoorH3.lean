/-
  The statement FixTexts holds of the program, with what it lists of Go's own variables tied to the program's text. No condition.
-/
import Derived.Test.YtdcmpekmpmfffaaGreatDoorShF
import Derived.Test.YtdcmpekmpmfffaaGreatDoorSFc
import Derived.Test.YtdcmpekmpmfffaaGreatDoorLt
import Derived.Test.YtdcmpekmpmfffaaGreatDoorSh
import Derived.Test.YtdcmpekmpmfffaaGreatDoorFT0
import Derived.SevenTiedAt
import Derived.Test.YtdcmpekmpmfffaaGreatDoorTie
import Derived.Test.YtdcmpekmpmfffaaGreatDoorCards
set_option linter.unusedVariables false
namespace Go.Proofs.YtdcmpekmpmfffaaGreatDoor
open Go.Sl Go.Sx Go.RowKit Go.ChangeShapes Go.K
theorem own : ownKnob Tryz.prog.godebug = none := by kernel_rfl
theorem lays : laidOutB Tryz.prog = true := by kernel_rfl
theorem eight : 1 < Tryz.prog.globals.size := by rw [show Tryz.prog.globals.size = 8 by kernel_rfl]; decide
theorem sane_true : F9 64 = some true := by kernel_rfl
theorem sane_valid : Valid (envT Tryz.prog 1) Tryz.prog 9 [] [aB] (fun _ => some true) := by
  intro x y hx z L w vs hz hrep hs
  cases hx
  have hvs : vs = [] := hrep
  subst hvs
  refine (f9_ok 64 true sane_true z L w hs).mono ?_
  rintro e w' ⟨v, rfl, h', hle, rfl, hS⟩
  exact ⟨_, h', rfl, hle, ⟨[.bool true], rfl, _, rfl, .inr ⟨rfl, rfl⟩⟩, hS⟩
theorem ct_ok (lf : Nat) : HC (envT Tryz.prog 1) (CT Tryz.prog lf) := by
  intro L
  unfold CT
  refine extC_ok (extC_ok (extC_ok (extC_ok (extC_ok (extC_ok (extC_ok (extC_ok (fun g con h => by cases h) ?a) ?b) ?c) ?d) ?e) ?f) ?g) ?h
  case a => exact dataCon_ok (itoa_valid Tryz.itoa)
  case b => exact dataCon_ok (trim_valid Tryz.trim (by kernel_rfl))
  case c => exact dataCon_ok (cutPrefix_valid Tryz.cutPre)
  case d => exact dataCon_ok (split_valid Tryz.split (by kernel_rfl))
  case e => exact atoiCon_ok Tryz.atoi
  case f => exact fieldsCon_ok Tryz.fields (enters_of Tryz.func19 (by kernel_rfl) rfl) (fun W x => Tryz.isBlank W x) (by kernel_rfl) (by kernel_rfl)
  case g => exact bldCon_ok ⟨Tryz.copyChk_used, Tryz.copyChk_fresh⟩
  case h => exact dataCon_ok sane_valid
theorem f3_valid : Valid (envT Tryz.prog 1) Tryz.prog 3 [(true, (.sl (.pair .i (.pair .i .i)))), (false, .str)] [aB] (F3 Tryz.prog 8003) :=
  fnF_valid mixedT (H5 8003 (H15 8003 (H8 8003 (H7 8003 (H23 8003 (H22 8003 (H21 8003 (H14 8003 (H6 8003 (H20 8003 (H4 8003 (H10 8003 (H32 8003 (ct_ok 8003)))))))))))))) 3 _ _ 8003
abbrev PtK : Ty (Int × (Int × Int)) := (TC.pair .i (.pair .i .i)).ty
theorem opensE_39 : Opens Tryz.prog 39 PtK (fun _ => True) := opens_ints 3 (by kernel_rfl) (by kernel_rfl) (by kernel_rfl) fun h l hl hi => by
  match l, hl, hi with
  | [a0, a1, a2], _, hi => exact ⟨(a0, a1, a2), ⟨[_], _, rfl, rfl, [_], _, rfl, rfl, rfl⟩, trivial⟩
theorem of_laid {W : World} (h : laidMetH Tryz.prog Rows.fixTextsRow.laid W) : Lib.TabIs Tryz.prog W "internal/strconv.uint64pow10" .u64 Lib.pow10Tab := by
  rw [MakeChecks.laidMetH_plain _ _ _ (by kernel_rfl)] at h
  obtain ⟨ps, ⟨g0, t0, cs0, f0, p0, q0, _, _, _, _, ⟨g1, t1, cs1, f1, p1, q1, _, _, _, _, ⟨g2, t2, cs2, f2, p2, q2, hg2, ht2, hv2, hd2, _, _⟩, _⟩, _⟩, _, _⟩ := h
  obtain rfl := Option.some.inj ((show Tryz.prog.globalNamed "internal/strconv.uint64pow10" = some 0 by kernel_rfl).symm.trans hg2)
  obtain rfl := Option.some.inj ((show (Tryz.prog.globals[0]?).map (·.type) = some 158 by kernel_rfl).symm.trans ht2)
  unfold Lib.TabIs
  rw [hv2, ← Lib.cells_of_tab (n := 20) (e := 129) Tryz.underlying158 Tryz.underlying129 (by kernel_rfl) (by kernel_rfl) hd2]
set_option maxRecDepth 100000 in
theorem lifted3 (os : Os) (started : os.Started) (H : Type) (enc : TypeId × Value → H) :
    ReturnsInHanded {} Tryz.checked os 3 .any (fun w args => (Rows.fixTextsSpec.pre enc Tryz.prog Tryz.f3 [] false w args ∧ laidMetH Tryz.prog Rows.fixTextsRow.laid w) ∧ sizedMet enc Tryz.prog Tryz.f3 (OpenSpec.ofChange Rows.fixTextsSpec) false w args)
      (Rows.fixTextsSpec.post enc Tryz.prog Tryz.f3 false true false false) := by
  refine returns_and_shaped (C := Tryz.checked) (X := fun w _ => laidMetH Tryz.prog Rows.fixTextsRow.laid w) (fun _ _ _ hh h => h.of_heap hh) own started (by kernel_rfl) Tryz.func3
    (ChangeSpec.witness_shaped (enc := enc) (C := Tryz.checked) (os := os) (X := fun w _ => laidMetH Tryz.prog Rows.fixTextsRow.laid w) false (World.laidAll Tryz.prog os Rows.fixTextsRow.laid) #[.agg #[.slice none 0 0], .string ByteArray.empty] 8 (World.laidAll_os _ _ _)
      (World.shaped_of_ZipB (by kernel_rfl) (by kernel_rfl)) (by kernel_rfl) (by kernel_rfl) (by kernel_rfl)
      (by rw [MakeChecks.laidMetH_plain _ _ _ (by kernel_rfl)]; exact laidMet_laidAll _ (by kernel_rfl) (by kernel_rfl))) ?_
  intro W base args ds gs before hval hW hL hsh
  have hW' := hW
  obtain ⟨p, q, hA, hV, rfl, _, _⟩ := hW
  obtain ⟨rfl, rfl⟩ := trodVars_none hV
  have hp : Tryz.f3.params.toList = [24, 9] := by kernel_rfl
  rw [hp] at hA
  obtain ⟨v0, v1, d0, d1, p0, p1, rfl, rfl, rfl, h0, h1⟩ := trodAll_two hA
  obtain ⟨q0, x0, rfl, ⟨o0, c0, e0, s0⟩, i0, m0⟩ := arg_agg (by kernel_rfl) (hval 0 24 v0 rfl rfl) h0 (opens_wrap (e := 22) (by kernel_rfl) (opens_slice (by kernel_rfl) (by kernel_rfl) opensE_39))
  subst e0
  obtain ⟨x1, rfl, _⟩ := arg_str Tryz.underlying9 (hval 1 9 v1 rfl rfl) h1
  have hE := env_of (of_laid hL) (cell_of_shapedOpen_int (P := Tryz.prog) hsh (g := 1) (t := 3) (zero := #[.int .i64 0]) eight (by kernel_rfl) rfl (by kernel_rfl) (by kernel_rfl) Tryz.underlying3)
  refine (f3_valid (x := (x0, x1)) (G3_true 8003 (by omega) x0 x1) (z := Zone.all W) (L := []) (w := W) (vs := [_, _]) hE ⟨_, _, rfl, .inl ⟨rfl, [_], rfl, ?_⟩, _, rfl, .inr ⟨rfl, rfl⟩⟩ (St.all W)).mono fun e W' ⟨v, h', he, hle, hv, hs⟩ => ?_
  · exact ⟨o0, c0, rfl, s0⟩
  obtain ⟨vs, rfl, v, rfl, hv⟩ := hv
  have hv' : [v] = [Value.bool true] := rep1 hv
  obtain rfl : v = .bool true := by simpa using hv'
  subst he
  exact ⟨_, rfl, post_true (tb := 4) lays rfl (by kernel_rfl) (by kernel_rfl) (by kernel_rfl) hW' (hs.below hle (hs.size hle)) rfl⟩
theorem fixTexts_said : Rows.FixTextsSaid :=
  OpenClaim.holds_of_wide 3 Tryz.f3 rfl rfl rfl rfl rfl rfl rfl ⟨rfl, rfl, rfl, rfl, rfl⟩ rfl rfl rfl rfl rfl (by kernel_rfl) Tryz.func3 (by kernel_rfl)
    (of_decide_eq_true (by kernel_rfl)) (by unfold Func.isWrapper; first | (rw [if_pos (by decide +kernel)]; kernel_rfl) | (rw [if_neg (by decide +kernel)]; exact ⟨rfl, rfl⟩))
    (fun os started H enc _ => lifted3 os started H enc)
theorem fixTexts_holds : Rows.FixTextsCardSaid :=
  Claim7.holds_tied_plain_at .later [] [.data, .data, .data, .data, .sentinel, .sentinel, .pinned] true (true, "fa84059e5f2f60b16b44fc2a9c97ad5afde2eaccc21faefee199c98d2263834b") true
    fixTexts_said (fun _ h => by cases h) (by kernel_rfl) (fun _ h => by cases h) fixTexts_row_tie rfl ⟨rfl, rfl⟩ (by kernel_rfl) rfl
    (fun f fn hf hfn => by
      obtain rfl : f = 3 := Option.some.inj ((show Tryz.prog.funcNamed "ullage/ullagelaw01.FixTexts" = some 3 by kernel_rfl).symm.trans hf) |>.symm
      obtain rfl : fn = Tryz.f3 := (Option.some.inj (Tryz.func3.symm.trans hfn)).symm
      exact ⟨by kernel_rfl, fun j t ht => by
        rw [Tryz.params3] at ht
        have hm : t ∈ [24, 9] := by simpa using Array.mem_of_getElem? ht
        have hall : ([24, 9].all fun u => !Tryz.prog.wantsStandIn u) = true := by kernel_rfl
        exact (show Tryz.prog.wantsStandIn t = false by simpa using List.all_eq_true.1 hall t hm)⟩)
    (by kernel_rfl)
#print axioms fixTexts_holds
end Go.Proofs.YtdcmpekmpmfffaaGreatDoor
