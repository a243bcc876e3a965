/-
  InboxNil's runs come to 'true': class 0 of what is called. Conditions: none.
-/
import Derived.Test.YtcpiafgkmakdiaaSxINa
set_option maxRecDepth 100000
namespace Go.Proofs.Ytcpiafgkmakdiaa
open Go.Proofs.Ytcpiafgkmakdiaa.SX

theorem inZ00 : inZ 0 0 = true := by kernel_rfl
theorem inZ01 : inZ 0 1 = true := by kernel_rfl
theorem inZ02 : inZ 0 2 = true := by kernel_rfl
end Go.Proofs.Ytcpiafgkmakdiaa
