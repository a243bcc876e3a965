/-
  GateNil's run, as closed data. Conditions: none.
-/
import Derived.Test.YtcpiafgkmakdiaaSxYCtx
set_option maxRecDepth 100000
namespace Go.Proofs.Ytcpiafgkmakdiaa
open Go.Proofs.Ytcpiafgkmakdiaa.SX

noncomputable def frOf (r : M AFrame) : AFrame :=
  match r with
  | .ok fr => fr
  | .error _ => ⟨0, 0, .leaf, [], [], .run, .normal⟩
noncomputable def gnBs : List (BE × Bool) := [(.cmp .neq (.var 1) (.var 1), false), (.cmp .eql (.var 1) (.var 1), true)]
noncomputable def gnF : AFrame := frOf (enterA Try.prog 3 [.int .i64 (.var 1), .opq 1] .normal)
theorem gnE : enterA Try.prog 3 [.int .i64 (.var 1), .opq 1] .normal = .ok gnF := by kernel_rfl
theorem gnZ : clast? Try.prog (OB gnBs []) (EX gnBs []) noSums 40000 4500 ⟨0, ⟨gnF, [], h0⟩, [], 1⟩ = true := by kernel_rfl
end Go.Proofs.Ytcpiafgkmakdiaa
