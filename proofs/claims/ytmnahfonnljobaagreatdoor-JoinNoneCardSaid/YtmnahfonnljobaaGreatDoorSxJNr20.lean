/-
  JoinNone's runs answer true: cases of many, k, nobody. Conditions: none.
-/
import Derived.Test.YtmnahfonnljobaaGreatDoorSxJNcases
set_option maxRecDepth 100000
namespace Go.Proofs.YtmnahfonnljobaaGreatDoor
open Go.Proofs.YtmnahfonnljobaaGreatDoor.SX
theorem jr2k0n0 : jrun 2 (jb 2 0 0) (.int .i64 (.var 3)) = true := by kernel_rfl
theorem jr2k1n0 : jrun 2 (jb 2 1 0) (.int .i64 (.var 3)) = true := by kernel_rfl
theorem jr2k2n0 : jrun 2 (jb 2 2 0) (.int .i64 (.var 3)) = true := by kernel_rfl
theorem jr2k3n0 : jrun 2 (jb 2 3 0) (.int .i64 (.var 3)) = true := by kernel_rfl
end Go.Proofs.YtmnahfonnljobaaGreatDoor
