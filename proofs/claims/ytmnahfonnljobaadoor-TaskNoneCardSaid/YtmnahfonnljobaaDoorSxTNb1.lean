/-
  TaskNone's runs answer true. Conditions: none.
-/
import Derived.Test.YtmnahfonnljobaaDoorSxTNb0
set_option maxRecDepth 100000
namespace Go.Proofs.YtmnahfonnljobaaDoor
open Go.Proofs.YtmnahfonnljobaaDoor.SX
theorem taskNone_run1 : okT (call? Tryd.prog (OB true) (ext? Tryd.prog (OB true) tab) 8000 3 [.int .i64 (.var 1), .int .i64 (.var 2)] h0) = true := by kernel_rfl
theorem taskNone_run2 : okT (call? Tryd.prog (OB false) (ext? Tryd.prog (OB false) tab) 8000 3 [.int .i64 (.var 1), .int .i64 (.var 2)] h0) = true := by kernel_rfl
end Go.Proofs.YtmnahfonnljobaaDoor
