/-
  InboxNil's runs come to 'true': class 2 of what is called. Conditions: none.
-/
import Derived.Test.YtcpiafgkmakdiaaSxINa
set_option maxRecDepth 100000
namespace Go.Proofs.Ytcpiafgkmakdiaa
open Go.Proofs.Ytcpiafgkmakdiaa.SX

theorem inZ20 : inZ 2 0 = true := by kernel_rfl
theorem inZ21 : inZ 2 1 = true := by kernel_rfl
theorem inZ22 : inZ 2 2 = true := by kernel_rfl
end Go.Proofs.Ytcpiafgkmakdiaa
