/-
  JoinNone's runs answer true: cases of many, k, nobody. Conditions: none.
-/
import Derived.Test.YtmnahfonnljobaaGreatDoorSxJNcases
set_option maxRecDepth 100000
namespace Go.Proofs.YtmnahfonnljobaaGreatDoor
open Go.Proofs.YtmnahfonnljobaaGreatDoor.SX
theorem jr2k0n1 : jrun 2 (jb 2 0 1) (.int .i64 (.var 3)) = true := by kernel_rfl
theorem jr2k1n1 : jrun 2 (jb 2 1 1) (.int .i64 (.var 3)) = true := by kernel_rfl
theorem jr2k2n1 : jrun 2 (jb 2 2 1) (.int .i64 (.var 3)) = true := by kernel_rfl
theorem jr2k3n1 : jrun 2 (jb 2 3 1) (.int .i64 (.var 3)) = true := by kernel_rfl
end Go.Proofs.YtmnahfonnljobaaGreatDoor
