/-
  JoinNone's runs answer true: cases of many, k, nobody. Conditions: none.
-/
import Derived.Test.YtmnahfonnljobaaGreatDoorSxJNcases
set_option maxRecDepth 100000
namespace Go.Proofs.YtmnahfonnljobaaGreatDoor
open Go.Proofs.YtmnahfonnljobaaGreatDoor.SX
theorem jr5k0n0 : jrun 5 (jb 5 0 0) (.int .i64 (.var 3)) = true := by kernel_rfl
theorem jr5k1n0 : jrun 5 (jb 5 1 0) (.int .i64 (.var 3)) = true := by kernel_rfl
theorem jr5k2n0 : jrun 5 (jb 5 2 0) (.int .i64 (.var 3)) = true := by kernel_rfl
theorem jr5k3n0 : jrun 5 (jb 5 3 0) (.int .i64 (.var 3)) = true := by kernel_rfl
end Go.Proofs.YtmnahfonnljobaaGreatDoor
