/-
  InboxNil's runs, as closed data: classes of what is called, classes of the size. Conditions: none.
-/
import Derived.Test.YtcpiafgkmakdiaaSxYCtx
set_option maxRecDepth 100000
namespace Go.Proofs.Ytcpiafgkmakdiaa
open Go.Proofs.Ytcpiafgkmakdiaa.SX

noncomputable def inDo : Nat → AV
  | 0 => .agg [.int .i64 (.lit 0), .int .i64 (.var 2)]
  | 1 => .agg [.int .i64 (.lit 1), .int .i64 (.var 2)]
  | _ => .agg [.int .i64 (.var 1), .int .i64 (.var 2)]
noncomputable def inBd : Nat → List (BE × Bool)
  | 2 => [(.cmp .eql (.var 1) (.lit 0), false), (.cmp .eql (.var 1) (.lit 1), false)]
  | _ => []
noncomputable def inBm : Nat → List (BE × Bool)
  | 0 => [(.cmp .lss (.var 3) (.lit 1), true), (.cmp .geq (.var 3) (.lit 1), false)]
  | 1 => [(.cmp .lss (.var 3) (.lit 1), false), (.cmp .gtr (.var 3) (.lit 4096), true), (.cmp .geq (.var 3) (.lit 1), true), (.cmp .leq (.var 3) (.lit 4096), false)]
  | _ => [(.cmp .lss (.var 3) (.lit 1), false), (.cmp .gtr (.var 3) (.lit 4096), false), (.cmp .geq (.var 3) (.lit 1), true), (.cmp .leq (.var 3) (.lit 4096), true), (.cmp .lss (.op .add .i64 (.var 3) (.lit 1)) (.lit 0), false), (.cmp .gtr (.op .add .i64 (.var 3) (.lit 1)) (.lit 1048576), false)]
noncomputable def inBs (d m : Nat) : List (BE × Bool) := inBd d ++ inBm m
noncomputable def inOf (r : M AFrame) : AFrame :=
  match r with
  | .ok fr => fr
  | .error _ => ⟨0, 0, .leaf, [], [], .run, .normal⟩
noncomputable def inF (d : Nat) : AFrame := inOf (enterA Try.prog 4 [inDo d, .int .i64 (.var 3)] .normal)
theorem inE0 : enterA Try.prog 4 [inDo 0, .int .i64 (.var 3)] .normal = .ok (inF 0) := by kernel_rfl
theorem inE1 : enterA Try.prog 4 [inDo 1, .int .i64 (.var 3)] .normal = .ok (inF 1) := by kernel_rfl
theorem inE2 : enterA Try.prog 4 [inDo 2, .int .i64 (.var 3)] .normal = .ok (inF 2) := by kernel_rfl
noncomputable def inZ (d m : Nat) : Bool := clast? Try.prog (OB (inBs d m) []) (EX (inBs d m) []) noSums 40000 4500 ⟨0, ⟨inF d, [], h0⟩, [], 1, 0⟩
end Go.Proofs.Ytcpiafgkmakdiaa
