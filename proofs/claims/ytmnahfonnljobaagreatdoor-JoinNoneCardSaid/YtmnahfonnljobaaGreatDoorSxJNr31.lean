/-
  JoinNone's runs answer true: cases of many, k, nobody. Conditions: none.
-/
import Derived.Test.YtmnahfonnljobaaGreatDoorSxJNcases
set_option maxRecDepth 100000
namespace Go.Proofs.YtmnahfonnljobaaGreatDoor
open Go.Proofs.YtmnahfonnljobaaGreatDoor.SX
theorem jr3k0n1 : jrun 3 (jb 3 0 1) (.int .i64 (.var 3)) = true := by kernel_rfl
theorem jr3k1n1 : jrun 3 (jb 3 1 1) (.int .i64 (.var 3)) = true := by kernel_rfl
theorem jr3k2n1 : jrun 3 (jb 3 2 1) (.int .i64 (.var 3)) = true := by kernel_rfl
theorem jr3k3n1 : jrun 3 (jb 3 3 1) (.int .i64 (.var 3)) = true := by kernel_rfl
end Go.Proofs.YtmnahfonnljobaaGreatDoor
