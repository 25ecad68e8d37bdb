/-
  No cell of these rows narrows 'for every input' (looked for: loops, veiled, ifaces, maps, wideKeys, modest, calm, conditions, laid).
  DERIVED. THE GIVEN ROWS OF THIS SEAT. 9 by the template 'for every input the law returns true; each argument reads behind the call as it read before'; 0 by the template 'total and deterministic' (their statements: YtpjmgeajajcceaaTotals.lean).
  GIVEN WITH THE SEED: the statements are not yours to turn. If you find one false, say at which input.
  Laid BY PROGRAM, IN A SANDBOX (cutbox-rows.mjs): the forced cells as the released guide's own fill.sh prints them over the translation 0d1aed6333729a02… (all of the seat's roots in one cut). By AI agents, Wed Nov 11 2026. No macro, syntax, notation, axiom, sorry.
-/
import Derived.Test.YtpjmgeajajcceaaChecked
import GoSem.Claim
import GoSem.ClaimJoined
import GoSem.ClaimMapViews
import Derived.JoinedTies
import Derived.KernelRfl
namespace Go.Proofs.Ytpjmgeajajcceaa
/- THE CELL 'sum', in the pinned program and in every row, IS THE sha256 OF THE DUMP (.gsa) THAT YtpjmgeajajcceaaProg.lean LOADS. Nothing in Lean hashes anything: it is a label: what it is worth is what the hold of that sum in a sandbox is worth. -/
noncomputable def Try.pinned : Pinned := { name := "ytpjmgeajajcceaa", sum := "0d1aed6333729a02ac7e237505973df4b944a23425ac77c9d2bee9614bd23bbd", checked := Try.checked }
namespace Rows
def none {H : Type} : Left H := { results := [], args := [] }

/-- 'ullagelaw01.FixAreas': WHATEVER THE INPUT: true; the input reads as it did. -/
def fixAreasSpec : ChangeSpec := { name := "fixAreas", fn := fun _ => fun
  | [d1, d2] => { results := [.lit (.bool true)], args := [d1, d2] }
  | _ => none }
def fixAreasRow : OpenClaim := { program := "ytpjmgeajajcceaa", sum := "0d1aed6333729a02ac7e237505973df4b944a23425ac77c9d2bee9614bd23bbd", func := "ullage/ullagelaw01.FixAreas", spec := "fixAreas", unfollowed := true, recurses := true, apart := false }
def FixAreasSaid : Prop := fixAreasRow.holds Try.pinned (OpenSpec.ofChange fixAreasSpec)

/-- ITS FALSE NEIGHBOUR: 'it returns false'. Refute it at one input. -/
def fixAreasWrong : ChangeSpec := { name := "fixAreas", fn := fun _ => fun
  | [d1, d2] => { results := [.lit (.bool false)], args := [d1, d2] }
  | _ => none }
def FixAreasWrongFalsely : Prop := fixAreasRow.holds Try.pinned (OpenSpec.ofChange fixAreasWrong)

/-- 'ullagelaw01.FixOver': WHATEVER THE INPUT: true; the input reads as it did. -/
def fixOverSpec : ChangeSpec := { name := "fixOver", fn := fun _ => fun
  | [d1, d2, d3] => { results := [.lit (.bool true)], args := [d1, d2, d3] }
  | _ => none }
def fixOverRow : OpenClaim := { program := "ytpjmgeajajcceaa", sum := "0d1aed6333729a02ac7e237505973df4b944a23425ac77c9d2bee9614bd23bbd", func := "ullage/ullagelaw01.FixOver", spec := "fixOver", unfollowed := true, recurses := true, apart := false }
def FixOverSaid : Prop := fixOverRow.holds Try.pinned (OpenSpec.ofChange fixOverSpec)

/-- ITS FALSE NEIGHBOUR: 'it returns false'. Refute it at one input. -/
def fixOverWrong : ChangeSpec := { name := "fixOver", fn := fun _ => fun
  | [d1, d2, d3] => { results := [.lit (.bool false)], args := [d1, d2, d3] }
  | _ => none }
def FixOverWrongFalsely : Prop := fixOverRow.holds Try.pinned (OpenSpec.ofChange fixOverWrong)

/-- 'ullagelaw01.FixNarrows': WHATEVER THE INPUT: true; the input reads as it did. -/
def fixNarrowsSpec : ChangeSpec := { name := "fixNarrows", fn := fun _ => fun
  | [d1, d2, d3] => { results := [.lit (.bool true)], args := [d1, d2, d3] }
  | _ => none }
def fixNarrowsRow : OpenClaim := { program := "ytpjmgeajajcceaa", sum := "0d1aed6333729a02ac7e237505973df4b944a23425ac77c9d2bee9614bd23bbd", func := "ullage/ullagelaw01.FixNarrows", spec := "fixNarrows", unfollowed := true, recurses := true, apart := false }
def FixNarrowsSaid : Prop := fixNarrowsRow.holds Try.pinned (OpenSpec.ofChange fixNarrowsSpec)

/-- ITS FALSE NEIGHBOUR: 'it returns false'. Refute it at one input. -/
def fixNarrowsWrong : ChangeSpec := { name := "fixNarrows", fn := fun _ => fun
  | [d1, d2, d3] => { results := [.lit (.bool false)], args := [d1, d2, d3] }
  | _ => none }
def FixNarrowsWrongFalsely : Prop := fixNarrowsRow.holds Try.pinned (OpenSpec.ofChange fixNarrowsWrong)

/-- 'ullagelaw01.FixCurves': WHATEVER THE INPUT: true; the input reads as it did. -/
def fixCurvesSpec : ChangeSpec := { name := "fixCurves", fn := fun _ => fun
  | [d1, d2, d3] => { results := [.lit (.bool true)], args := [d1, d2, d3] }
  | _ => none }
def fixCurvesRow : OpenClaim := { program := "ytpjmgeajajcceaa", sum := "0d1aed6333729a02ac7e237505973df4b944a23425ac77c9d2bee9614bd23bbd", func := "ullage/ullagelaw01.FixCurves", spec := "fixCurves", unfollowed := true, recurses := true, apart := false }
def FixCurvesSaid : Prop := fixCurvesRow.holds Try.pinned (OpenSpec.ofChange fixCurvesSpec)

/-- ITS FALSE NEIGHBOUR: 'it returns false'. Refute it at one input. -/
def fixCurvesWrong : ChangeSpec := { name := "fixCurves", fn := fun _ => fun
  | [d1, d2, d3] => { results := [.lit (.bool false)], args := [d1, d2, d3] }
  | _ => none }
def FixCurvesWrongFalsely : Prop := fixCurvesRow.holds Try.pinned (OpenSpec.ofChange fixCurvesWrong)

/-- 'ullagelaw01.FixContains': WHATEVER THE INPUT: true; the input reads as it did. -/
def fixContainsSpec : ChangeSpec := { name := "fixContains", fn := fun _ => fun
  | [d1, d2, d3] => { results := [.lit (.bool true)], args := [d1, d2, d3] }
  | _ => none }
def fixContainsRow : OpenClaim := { program := "ytpjmgeajajcceaa", sum := "0d1aed6333729a02ac7e237505973df4b944a23425ac77c9d2bee9614bd23bbd", func := "ullage/ullagelaw01.FixContains", spec := "fixContains", unfollowed := true, recurses := true, apart := false }
def FixContainsSaid : Prop := fixContainsRow.holds Try.pinned (OpenSpec.ofChange fixContainsSpec)

/-- ITS FALSE NEIGHBOUR: 'it returns false'. Refute it at one input. -/
def fixContainsWrong : ChangeSpec := { name := "fixContains", fn := fun _ => fun
  | [d1, d2, d3] => { results := [.lit (.bool false)], args := [d1, d2, d3] }
  | _ => none }
def FixContainsWrongFalsely : Prop := fixContainsRow.holds Try.pinned (OpenSpec.ofChange fixContainsWrong)

/-- 'ullagelaw01.FixRanges': WHATEVER THE INPUT: true; the input reads as it did. -/
def fixRangesSpec : ChangeSpec := { name := "fixRanges", fn := fun _ => fun
  | [d] => { results := [.lit (.bool true)], args := [d] }
  | _ => none }
def fixRangesRow : OpenClaim := { program := "ytpjmgeajajcceaa", sum := "0d1aed6333729a02ac7e237505973df4b944a23425ac77c9d2bee9614bd23bbd", func := "ullage/ullagelaw01.FixRanges", spec := "fixRanges", unfollowed := true, recurses := true, apart := false }
def FixRangesSaid : Prop := fixRangesRow.holds Try.pinned (OpenSpec.ofChange fixRangesSpec)

/-- ITS FALSE NEIGHBOUR: 'it returns false'. Refute it at one input. -/
def fixRangesWrong : ChangeSpec := { name := "fixRanges", fn := fun _ => fun
  | [d] => { results := [.lit (.bool false)], args := [d] }
  | _ => none }
def FixRangesWrongFalsely : Prop := fixRangesRow.holds Try.pinned (OpenSpec.ofChange fixRangesWrong)

/-- 'ullagelaw01.FixMakes': WHATEVER THE INPUT: true; the input reads as it did. -/
def fixMakesSpec : ChangeSpec := { name := "fixMakes", fn := fun _ => fun
  | [d1, d2, d3] => { results := [.lit (.bool true)], args := [d1, d2, d3] }
  | _ => none }
def fixMakesRow : OpenClaim := { program := "ytpjmgeajajcceaa", sum := "0d1aed6333729a02ac7e237505973df4b944a23425ac77c9d2bee9614bd23bbd", func := "ullage/ullagelaw01.FixMakes", spec := "fixMakes", unfollowed := true, recurses := true, apart := false }
def FixMakesSaid : Prop := fixMakesRow.holds Try.pinned (OpenSpec.ofChange fixMakesSpec)

/-- ITS FALSE NEIGHBOUR: 'it returns false'. Refute it at one input. -/
def fixMakesWrong : ChangeSpec := { name := "fixMakes", fn := fun _ => fun
  | [d1, d2, d3] => { results := [.lit (.bool false)], args := [d1, d2, d3] }
  | _ => none }
def FixMakesWrongFalsely : Prop := fixMakesRow.holds Try.pinned (OpenSpec.ofChange fixMakesWrong)

/-- 'ullagelaw01.FixTables': WHATEVER THE INPUT: true; the input reads as it did. -/
def fixTablesSpec : ChangeSpec := { name := "fixTables", fn := fun _ => fun
  | [d1, d2, d3] => { results := [.lit (.bool true)], args := [d1, d2, d3] }
  | _ => none }
def fixTablesRow : OpenClaim := { program := "ytpjmgeajajcceaa", sum := "0d1aed6333729a02ac7e237505973df4b944a23425ac77c9d2bee9614bd23bbd", func := "ullage/ullagelaw01.FixTables", spec := "fixTables", unfollowed := true, recurses := true, apart := false }
def FixTablesSaid : Prop := fixTablesRow.holds Try.pinned (OpenSpec.ofChange fixTablesSpec)

/-- ITS FALSE NEIGHBOUR: 'it returns false'. Refute it at one input. -/
def fixTablesWrong : ChangeSpec := { name := "fixTables", fn := fun _ => fun
  | [d1, d2, d3] => { results := [.lit (.bool false)], args := [d1, d2, d3] }
  | _ => none }
def FixTablesWrongFalsely : Prop := fixTablesRow.holds Try.pinned (OpenSpec.ofChange fixTablesWrong)

/-- 'ullagelaw01.FixJoined': WHATEVER THE INPUT: true; the input reads as it did. -/
def fixJoinedSpec : ChangeSpec := { name := "fixJoined", fn := fun _ => fun
  | [d1, d2, d3] => { results := [.lit (.bool true)], args := [d1, d2, d3] }
  | _ => none }
def fixJoinedRow : OpenClaim := { program := "ytpjmgeajajcceaa", sum := "0d1aed6333729a02ac7e237505973df4b944a23425ac77c9d2bee9614bd23bbd", func := "ullage/ullagelaw01.FixJoined", spec := "fixJoined", unfollowed := true, recurses := true, apart := false }
def FixJoinedSaid : Prop := fixJoinedRow.holds Try.pinned (OpenSpec.ofChange fixJoinedSpec)

/-- ITS FALSE NEIGHBOUR: 'it returns false'. Refute it at one input. -/
def fixJoinedWrong : ChangeSpec := { name := "fixJoined", fn := fun _ => fun
  | [d1, d2, d3] => { results := [.lit (.bool false)], args := [d1, d2, d3] }
  | _ => none }
def FixJoinedWrongFalsely : Prop := fixJoinedRow.holds Try.pinned (OpenSpec.ofChange fixJoinedWrong)

/- THE SECOND FORM. 'bulk': how many values and letters a reading holds, each counted each time it is reached (what is shared counts as often as it is met; a slice's spare places count too). A statement '..UptoSaid' is the law's where the arguments, and the package variables that the reading takes, are together of bulk at most 1048576: NARROWER than '..Said'. Prove '..Said' where nothing that the law and all that it calls make is longer than what came in: it says more and counts as full. Else prove '..UptoSaid'. A law counts once. -/
mutual
def uptoBulk {H : Type} : DataW H → Nat
  | .lit (.string bytes) => bytes.length + 1
  | .lit _ => 1
  | .nil => 1
  | .ptr d => uptoBulk d + 1
  | .slice elems spare => uptoBulkAll elems + uptoBulkAll spare + 1
  | .agg parts => uptoBulkAll parts + 1
  | .iface _ d => uptoBulk d + 1
  | .map entries => uptoBulkEntries entries + 1
  | .held _ => 1
def uptoBulkAll {H : Type} : List (DataW H) → Nat
  | [] => 0
  | d :: r => uptoBulk d + uptoBulkAll r
def uptoBulkEntries {H : Type} : List (Lit × DataW H) → Nat
  | [] => 0
  | x :: r => uptoBulkEntry x + uptoBulkEntries r
def uptoBulkEntry {H : Type} : Lit × DataW H → Nat
  | (.string bytes, d) => bytes.length + uptoBulk d + 1
  | (_, d) => uptoBulk d + 1
 end
def uptoSmall : (H : Type) → List (DataW H) → Bool := fun _ ds => decide (uptoBulkAll ds ≤ 1048576)
def OpenSpec.upto (s : _root_.Go.ChangeSpec) : _root_.Go.OpenSpec := { _root_.Go.OpenSpec.ofChange s with cond := some uptoSmall }

/-- 'ullagelaw01.FixAreas', WHERE WHAT IT READS IS OF BULK AT MOST 1048576: true; the input reads as it did. -/
def fixAreasUptoRow : OpenClaim := { program := "ytpjmgeajajcceaa", sum := "0d1aed6333729a02ac7e237505973df4b944a23425ac77c9d2bee9614bd23bbd", func := "ullage/ullagelaw01.FixAreas", spec := "fixAreas", unfollowed := true, recurses := true, apart := false, narrowed := true }
def FixAreasUptoSaid : Prop := fixAreasUptoRow.holds Try.pinned (OpenSpec.upto fixAreasSpec)

/-- 'ullagelaw01.FixOver', WHERE WHAT IT READS IS OF BULK AT MOST 1048576: true; the input reads as it did. -/
def fixOverUptoRow : OpenClaim := { program := "ytpjmgeajajcceaa", sum := "0d1aed6333729a02ac7e237505973df4b944a23425ac77c9d2bee9614bd23bbd", func := "ullage/ullagelaw01.FixOver", spec := "fixOver", unfollowed := true, recurses := true, apart := false, narrowed := true }
def FixOverUptoSaid : Prop := fixOverUptoRow.holds Try.pinned (OpenSpec.upto fixOverSpec)

/-- 'ullagelaw01.FixNarrows', WHERE WHAT IT READS IS OF BULK AT MOST 1048576: true; the input reads as it did. -/
def fixNarrowsUptoRow : OpenClaim := { program := "ytpjmgeajajcceaa", sum := "0d1aed6333729a02ac7e237505973df4b944a23425ac77c9d2bee9614bd23bbd", func := "ullage/ullagelaw01.FixNarrows", spec := "fixNarrows", unfollowed := true, recurses := true, apart := false, narrowed := true }
def FixNarrowsUptoSaid : Prop := fixNarrowsUptoRow.holds Try.pinned (OpenSpec.upto fixNarrowsSpec)

/-- 'ullagelaw01.FixCurves', WHERE WHAT IT READS IS OF BULK AT MOST 1048576: true; the input reads as it did. -/
def fixCurvesUptoRow : OpenClaim := { program := "ytpjmgeajajcceaa", sum := "0d1aed6333729a02ac7e237505973df4b944a23425ac77c9d2bee9614bd23bbd", func := "ullage/ullagelaw01.FixCurves", spec := "fixCurves", unfollowed := true, recurses := true, apart := false, narrowed := true }
def FixCurvesUptoSaid : Prop := fixCurvesUptoRow.holds Try.pinned (OpenSpec.upto fixCurvesSpec)

/-- 'ullagelaw01.FixContains', WHERE WHAT IT READS IS OF BULK AT MOST 1048576: true; the input reads as it did. -/
def fixContainsUptoRow : OpenClaim := { program := "ytpjmgeajajcceaa", sum := "0d1aed6333729a02ac7e237505973df4b944a23425ac77c9d2bee9614bd23bbd", func := "ullage/ullagelaw01.FixContains", spec := "fixContains", unfollowed := true, recurses := true, apart := false, narrowed := true }
def FixContainsUptoSaid : Prop := fixContainsUptoRow.holds Try.pinned (OpenSpec.upto fixContainsSpec)

/-- 'ullagelaw01.FixRanges', WHERE WHAT IT READS IS OF BULK AT MOST 1048576: true; the input reads as it did. -/
def fixRangesUptoRow : OpenClaim := { program := "ytpjmgeajajcceaa", sum := "0d1aed6333729a02ac7e237505973df4b944a23425ac77c9d2bee9614bd23bbd", func := "ullage/ullagelaw01.FixRanges", spec := "fixRanges", unfollowed := true, recurses := true, apart := false, narrowed := true }
def FixRangesUptoSaid : Prop := fixRangesUptoRow.holds Try.pinned (OpenSpec.upto fixRangesSpec)

/-- 'ullagelaw01.FixMakes', WHERE WHAT IT READS IS OF BULK AT MOST 1048576: true; the input reads as it did. -/
def fixMakesUptoRow : OpenClaim := { program := "ytpjmgeajajcceaa", sum := "0d1aed6333729a02ac7e237505973df4b944a23425ac77c9d2bee9614bd23bbd", func := "ullage/ullagelaw01.FixMakes", spec := "fixMakes", unfollowed := true, recurses := true, apart := false, narrowed := true }
def FixMakesUptoSaid : Prop := fixMakesUptoRow.holds Try.pinned (OpenSpec.upto fixMakesSpec)

/-- 'ullagelaw01.FixTables', WHERE WHAT IT READS IS OF BULK AT MOST 1048576: true; the input reads as it did. -/
def fixTablesUptoRow : OpenClaim := { program := "ytpjmgeajajcceaa", sum := "0d1aed6333729a02ac7e237505973df4b944a23425ac77c9d2bee9614bd23bbd", func := "ullage/ullagelaw01.FixTables", spec := "fixTables", unfollowed := true, recurses := true, apart := false, narrowed := true }
def FixTablesUptoSaid : Prop := fixTablesUptoRow.holds Try.pinned (OpenSpec.upto fixTablesSpec)

/-- 'ullagelaw01.FixJoined', WHERE WHAT IT READS IS OF BULK AT MOST 1048576: true; the input reads as it did. -/
def fixJoinedUptoRow : OpenClaim := { program := "ytpjmgeajajcceaa", sum := "0d1aed6333729a02ac7e237505973df4b944a23425ac77c9d2bee9614bd23bbd", func := "ullage/ullagelaw01.FixJoined", spec := "fixJoined", unfollowed := true, recurses := true, apart := false, narrowed := true }
def FixJoinedUptoSaid : Prop := fixJoinedUptoRow.holds Try.pinned (OpenSpec.upto fixJoinedSpec)

end Rows
end Go.Proofs.Ytpjmgeajajcceaa
