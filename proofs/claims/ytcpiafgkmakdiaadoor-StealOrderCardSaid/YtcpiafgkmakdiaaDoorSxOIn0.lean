/-
  treadlelaw23.StealOrder up to the check: rings, one by one. Conditions: none.
-/
import Derived.Test.YtcpiafgkmakdiaaDoorSxOIn
set_option maxRecDepth 100000
namespace Go.Proofs.YtcpiafgkmakdiaaDoor
open Go.Proofs.YtcpiafgkmakdiaaDoor.SX Go.Conc
theorem in4 : InOk 4 := by unfold InOk; kernel_rfl
theorem in8 : InOk 8 := by unfold InOk; kernel_rfl
theorem in12 : InOk 12 := by unfold InOk; kernel_rfl
theorem in16 : InOk 16 := by unfold InOk; kernel_rfl
theorem in20 : InOk 20 := by unfold InOk; kernel_rfl
theorem in24 : InOk 24 := by unfold InOk; kernel_rfl
theorem in28 : InOk 28 := by unfold InOk; kernel_rfl
theorem in32 : InOk 32 := by unfold InOk; kernel_rfl
theorem in36 : InOk 36 := by unfold InOk; kernel_rfl
theorem in40 : InOk 40 := by unfold InOk; kernel_rfl
theorem in44 : InOk 44 := by unfold InOk; kernel_rfl
theorem in48 : InOk 48 := by unfold InOk; kernel_rfl
theorem in52 : InOk 52 := by unfold InOk; kernel_rfl
theorem in56 : InOk 56 := by unfold InOk; kernel_rfl
theorem in60 : InOk 60 := by unfold InOk; kernel_rfl
theorem in64 : InOk 64 := by unfold InOk; kernel_rfl
end Go.Proofs.YtcpiafgkmakdiaaDoor
