/-
  JoinNone's runs answer true: cases of many, k, nobody. Conditions: none.
-/
import Derived.Test.YtmnahfonnljobaaGreatDoorSxJNcases
set_option maxRecDepth 100000
namespace Go.Proofs.YtmnahfonnljobaaGreatDoor
open Go.Proofs.YtmnahfonnljobaaGreatDoor.SX
theorem jr4k0n0 : jrun 4 (jb 4 0 0) (.int .i64 (.var 3)) = true := by kernel_rfl
theorem jr4k1n0 : jrun 4 (jb 4 1 0) (.int .i64 (.var 3)) = true := by kernel_rfl
theorem jr4k2n0 : jrun 4 (jb 4 2 0) (.int .i64 (.var 3)) = true := by kernel_rfl
theorem jr4k3n0 : jrun 4 (jb 4 3 0) (.int .i64 (.var 3)) = true := by kernel_rfl
end Go.Proofs.YtmnahfonnljobaaGreatDoor
