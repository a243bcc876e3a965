/-
  A symbolic run of the model, proved sound: a text of its parts. Conditions: none.
-/
import Derived.Test.YtmnahfonnljobaaDoorSxFNb0
set_option maxRecDepth 100000
namespace Go.Proofs.YtmnahfonnljobaaDoor
open Go.ChangeShapes Go.WideShapes Go.RowKit Go.Proofs.YtmnahfonnljobaaDoor.SX

theorem futureNone_run : okT (call? Tryd.prog O (ext? Tryd.prog O tab) 8000 4 [.int .i64 (.var 1)] h0) = true := by kernel_rfl

end Go.Proofs.YtmnahfonnljobaaDoor
