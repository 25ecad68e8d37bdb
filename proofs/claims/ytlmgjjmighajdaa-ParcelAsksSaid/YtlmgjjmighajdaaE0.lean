/-
  Facts of element types and of types of maps. No condition.
-/
import Derived.Test.YtlmgjjmighajdaaSr
import Derived.Test.YtlmgjjmighajdaaSp
import Derived.Test.YtlmgjjmighajdaaSk

import Derived.Test.YtlmgjjmighajdaaProg
set_option linter.unusedVariables false
namespace Go.Proofs.Ytlmgjjmighajdaa
open Go.Sl Go.Sx
theorem el22 : ElemOK Try.prog 22 33 4 (.agg #[.int .i64 0, .int .i64 0, .int .i64 0, .int .i64 0]) := ElemOK.of (i := (Try.prog.info? 33).getD default) (by kernel_rfl) (by kernel_rfl) (by kernel_rfl) (by kernel_rfl)
theorem el23 : ElemOK Try.prog 23 40 1 (.agg #[.slice none 0 0]) := ElemOK.of (i := (Try.prog.info? 40).getD default) (by kernel_rfl) (by kernel_rfl) (by kernel_rfl) (by kernel_rfl)
theorem el38 : ElemOK Try.prog 38 56 2 (.agg #[.int .i64 0, .int .i64 0]) := ElemOK.of (i := (Try.prog.info? 56).getD default) (by kernel_rfl) (by kernel_rfl) (by kernel_rfl) (by kernel_rfl)
theorem el53 : ElemOK Try.prog 53 3 1 (.int .i64 0) := ElemOK.of (i := (Try.prog.info? 3).getD default) (by kernel_rfl) (by kernel_rfl) (by kernel_rfl) (by kernel_rfl)
theorem el64 : ElemOK Try.prog 64 28 5 (.agg #[.int .i64 0, .int .i64 0, .int .i64 0, .int .i64 0, .int .i64 0]) := ElemOK.of (i := (Try.prog.info? 28).getD default) (by kernel_rfl) (by kernel_rfl) (by kernel_rfl) (by kernel_rfl)
theorem el78 : ElemOK Try.prog 78 83 5 (.agg #[.int .i64 0, .int .i64 0, .int .i64 0, .int .i64 0, .int .i64 0]) := ElemOK.of (i := (Try.prog.info? 83).getD default) (by kernel_rfl) (by kernel_rfl) (by kernel_rfl) (by kernel_rfl)
theorem el85 : ElemOK Try.prog 85 89 2 (.agg #[.int .i64 0, .int .i64 0]) := ElemOK.of (i := (Try.prog.info? 89).getD default) (by kernel_rfl) (by kernel_rfl) (by kernel_rfl) (by kernel_rfl)
theorem el123 : ElemOK Try.prog 123 117 1 (.map none) := ElemOK.of (i := (Try.prog.info? 117).getD default) (by kernel_rfl) (by kernel_rfl) (by kernel_rfl) (by kernel_rfl)
theorem el178 : ElemOK Try.prog 178 4 1 (.bool false) := ElemOK.of (i := (Try.prog.info? 4).getD default) (by kernel_rfl) (by kernel_rfl) (by kernel_rfl) (by kernel_rfl)
theorem mp117 : MapOK Try.prog 117 (Value.bool false) := MapOK.of (kt := 3) (et := 4) (by kernel_rfl) (by kernel_rfl) (by kernel_rfl)
theorem mp164 : MapOK Try.prog 164 (rowV zrow) := MapOK.of (kt := 3) (et := 163) (by kernel_rfl) (by kernel_rfl) (by kernel_rfl)
end Go.Proofs.Ytlmgjjmighajdaa
