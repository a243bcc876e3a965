/-
  JoinNone's runs answer true: cases of many, k, nobody. Conditions: none.
-/
import Derived.Test.YtmnahfonnljobaaGreatDoorSxJNcases
set_option maxRecDepth 100000
namespace Go.Proofs.YtmnahfonnljobaaGreatDoor
open Go.Proofs.YtmnahfonnljobaaGreatDoor.SX
theorem jr0k0n2 : jrun 0 (jb 0 0 2) (.int .i64 (.var 3)) = true := by kernel_rfl
theorem jr0k1n2 : jrun 0 (jb 0 1 2) (.int .i64 (.var 3)) = true := by kernel_rfl
theorem jr0k2n2 : jrun 0 (jb 0 2 2) (.int .i64 (.var 3)) = true := by kernel_rfl
theorem jr0k3n2 : jrun 0 (jb 0 3 2) (.int .i64 (.var 3)) = true := by kernel_rfl
theorem jr1b0 : jrun 1 [jm 1] (.int .i64 (.lit 0)) = true := by kernel_rfl
theorem jr2b0 : jrun 2 [jm 2] (.int .i64 (.lit 0)) = true := by kernel_rfl
theorem jr2b1 : jrun 2 [jm 2] (.int .i64 (.lit 1)) = true := by kernel_rfl
theorem jr3b0 : jrun 3 [jm 3] (.int .i64 (.lit 0)) = true := by kernel_rfl
theorem jr3b1 : jrun 3 [jm 3] (.int .i64 (.lit 1)) = true := by kernel_rfl
theorem jr3b2 : jrun 3 [jm 3] (.int .i64 (.lit 2)) = true := by kernel_rfl
theorem jr4b0 : jrun 4 [jm 4] (.int .i64 (.lit 0)) = true := by kernel_rfl
theorem jr4b1 : jrun 4 [jm 4] (.int .i64 (.lit 1)) = true := by kernel_rfl
theorem jr4b2 : jrun 4 [jm 4] (.int .i64 (.lit 2)) = true := by kernel_rfl
theorem jr4b3 : jrun 4 [jm 4] (.int .i64 (.lit 3)) = true := by kernel_rfl
theorem jr5b0 : jrun 5 [jm 5] (.int .i64 (.lit 0)) = true := by kernel_rfl
theorem jr5b1 : jrun 5 [jm 5] (.int .i64 (.lit 1)) = true := by kernel_rfl
theorem jr5b2 : jrun 5 [jm 5] (.int .i64 (.lit 2)) = true := by kernel_rfl
theorem jr5b3 : jrun 5 [jm 5] (.int .i64 (.lit 3)) = true := by kernel_rfl
theorem jr5b4 : jrun 5 [jm 5] (.int .i64 (.lit 4)) = true := by kernel_rfl
theorem jr1k0n0 : jrun 1 (jb 1 0 0) (.int .i64 (.var 3)) = true := by kernel_rfl
theorem jr1k0n1 : jrun 1 (jb 1 0 1) (.int .i64 (.var 3)) = true := by kernel_rfl
theorem jr1k1n0 : jrun 1 (jb 1 1 0) (.int .i64 (.var 3)) = true := by kernel_rfl
theorem jr1k1n1 : jrun 1 (jb 1 1 1) (.int .i64 (.var 3)) = true := by kernel_rfl
theorem jr1k2n0 : jrun 1 (jb 1 2 0) (.int .i64 (.var 3)) = true := by kernel_rfl
theorem jr1k2n1 : jrun 1 (jb 1 2 1) (.int .i64 (.var 3)) = true := by kernel_rfl
theorem jr1k3n0 : jrun 1 (jb 1 3 0) (.int .i64 (.var 3)) = true := by kernel_rfl
theorem jr1k3n1 : jrun 1 (jb 1 3 1) (.int .i64 (.var 3)) = true := by kernel_rfl
end Go.Proofs.YtmnahfonnljobaaGreatDoor
