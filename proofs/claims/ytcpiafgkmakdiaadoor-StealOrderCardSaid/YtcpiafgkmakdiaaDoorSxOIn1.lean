/-
  treadlelaw23.StealOrder up to the check: rings, one by one. Conditions: none.
-/
import Derived.Test.YtcpiafgkmakdiaaDoorSxOIn
set_option maxRecDepth 100000
namespace Go.Proofs.YtcpiafgkmakdiaaDoor
open Go.Proofs.YtcpiafgkmakdiaaDoor.SX Go.Conc
theorem in5 : InOk 5 := by unfold InOk; kernel_rfl
theorem in9 : InOk 9 := by unfold InOk; kernel_rfl
theorem in13 : InOk 13 := by unfold InOk; kernel_rfl
theorem in17 : InOk 17 := by unfold InOk; kernel_rfl
theorem in21 : InOk 21 := by unfold InOk; kernel_rfl
theorem in25 : InOk 25 := by unfold InOk; kernel_rfl
theorem in29 : InOk 29 := by unfold InOk; kernel_rfl
theorem in33 : InOk 33 := by unfold InOk; kernel_rfl
theorem in37 : InOk 37 := by unfold InOk; kernel_rfl
theorem in41 : InOk 41 := by unfold InOk; kernel_rfl
theorem in45 : InOk 45 := by unfold InOk; kernel_rfl
theorem in49 : InOk 49 := by unfold InOk; kernel_rfl
theorem in53 : InOk 53 := by unfold InOk; kernel_rfl
theorem in57 : InOk 57 := by unfold InOk; kernel_rfl
theorem in61 : InOk 61 := by unfold InOk; kernel_rfl
end Go.Proofs.YtcpiafgkmakdiaaDoor
