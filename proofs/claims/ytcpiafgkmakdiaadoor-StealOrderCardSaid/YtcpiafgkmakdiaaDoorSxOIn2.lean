/-
  treadlelaw23.StealOrder up to the check: rings, one by one. Conditions: none.
-/
import Derived.Test.YtcpiafgkmakdiaaDoorSxOIn
set_option maxRecDepth 100000
namespace Go.Proofs.YtcpiafgkmakdiaaDoor
open Go.Proofs.YtcpiafgkmakdiaaDoor.SX Go.Conc
theorem in6 : InOk 6 := by unfold InOk; kernel_rfl
theorem in10 : InOk 10 := by unfold InOk; kernel_rfl
theorem in14 : InOk 14 := by unfold InOk; kernel_rfl
theorem in18 : InOk 18 := by unfold InOk; kernel_rfl
theorem in22 : InOk 22 := by unfold InOk; kernel_rfl
theorem in26 : InOk 26 := by unfold InOk; kernel_rfl
theorem in30 : InOk 30 := by unfold InOk; kernel_rfl
theorem in34 : InOk 34 := by unfold InOk; kernel_rfl
theorem in38 : InOk 38 := by unfold InOk; kernel_rfl
theorem in42 : InOk 42 := by unfold InOk; kernel_rfl
theorem in46 : InOk 46 := by unfold InOk; kernel_rfl
theorem in50 : InOk 50 := by unfold InOk; kernel_rfl
theorem in54 : InOk 54 := by unfold InOk; kernel_rfl
theorem in58 : InOk 58 := by unfold InOk; kernel_rfl
theorem in62 : InOk 62 := by unfold InOk; kernel_rfl
end Go.Proofs.YtcpiafgkmakdiaaDoor
