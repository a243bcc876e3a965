/-
  treadlelaw23.StealOrder up to the check: rings, one by one. Conditions: none.
-/
import Derived.Test.YtcpiafgkmakdiaaDoorSxOIn
set_option maxRecDepth 100000
namespace Go.Proofs.YtcpiafgkmakdiaaDoor
open Go.Proofs.YtcpiafgkmakdiaaDoor.SX Go.Conc
theorem in3 : InOk 3 := by unfold InOk; kernel_rfl
theorem in7 : InOk 7 := by unfold InOk; kernel_rfl
theorem in11 : InOk 11 := by unfold InOk; kernel_rfl
theorem in15 : InOk 15 := by unfold InOk; kernel_rfl
theorem in19 : InOk 19 := by unfold InOk; kernel_rfl
theorem in23 : InOk 23 := by unfold InOk; kernel_rfl
theorem in27 : InOk 27 := by unfold InOk; kernel_rfl
theorem in31 : InOk 31 := by unfold InOk; kernel_rfl
theorem in35 : InOk 35 := by unfold InOk; kernel_rfl
theorem in39 : InOk 39 := by unfold InOk; kernel_rfl
theorem in43 : InOk 43 := by unfold InOk; kernel_rfl
theorem in47 : InOk 47 := by unfold InOk; kernel_rfl
theorem in51 : InOk 51 := by unfold InOk; kernel_rfl
theorem in55 : InOk 55 := by unfold InOk; kernel_rfl
theorem in59 : InOk 59 := by unfold InOk; kernel_rfl
theorem in63 : InOk 63 := by unfold InOk; kernel_rfl
end Go.Proofs.YtcpiafgkmakdiaaDoor
