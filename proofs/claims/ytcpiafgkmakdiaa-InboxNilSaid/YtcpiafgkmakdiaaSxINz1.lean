/-
  InboxNil's runs come to 'true': class 1 of what is called. Conditions: none.
-/
import Derived.Test.YtcpiafgkmakdiaaSxINa
set_option maxRecDepth 100000
namespace Go.Proofs.Ytcpiafgkmakdiaa
open Go.Proofs.Ytcpiafgkmakdiaa.SX

theorem inZ10 : inZ 1 0 = true := by kernel_rfl
theorem inZ11 : inZ 1 1 = true := by kernel_rfl
theorem inZ12 : inZ 1 2 = true := by kernel_rfl
end Go.Proofs.Ytcpiafgkmakdiaa
