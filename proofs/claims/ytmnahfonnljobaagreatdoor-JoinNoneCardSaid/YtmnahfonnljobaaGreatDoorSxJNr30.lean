/-
  JoinNone's runs answer true: cases of many, k, nobody. Conditions: none.
-/
import Derived.Test.YtmnahfonnljobaaGreatDoorSxJNcases
set_option maxRecDepth 100000
namespace Go.Proofs.YtmnahfonnljobaaGreatDoor
open Go.Proofs.YtmnahfonnljobaaGreatDoor.SX
theorem jr3k0n0 : jrun 3 (jb 3 0 0) (.int .i64 (.var 3)) = true := by kernel_rfl
theorem jr3k1n0 : jrun 3 (jb 3 1 0) (.int .i64 (.var 3)) = true := by kernel_rfl
theorem jr3k2n0 : jrun 3 (jb 3 2 0) (.int .i64 (.var 3)) = true := by kernel_rfl
theorem jr3k3n0 : jrun 3 (jb 3 3 0) (.int .i64 (.var 3)) = true := by kernel_rfl
end Go.Proofs.YtmnahfonnljobaaGreatDoor
