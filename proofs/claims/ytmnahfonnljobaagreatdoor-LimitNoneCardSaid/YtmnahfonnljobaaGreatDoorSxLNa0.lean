/-
  A run in pieces. Conditions: none.
-/
import Derived.Test.YtmnahfonnljobaaGreatDoorSxLNcases
set_option maxRecDepth 100000
namespace Go.Proofs.YtmnahfonnljobaaGreatDoor
open Go.Proofs.YtmnahfonnljobaaGreatDoor.SX Go.Proofs.YtmnahfonnljobaaGreatDoor.SX.Short
noncomputable def LNaf : AFrame := ⟨5, 181, (N1 (.int .i64 (.var 1))),
    [.code (pc (bodyOf Tryz.f5) [])],
    [], .run, .normal⟩
noncomputable def LNac0 : ACfg := ⟨LNaf, [], h0⟩
theorem LNae : enterA Tryz.prog 5 [(.int .i64 (.var 1))] .normal = .ok LNaf := by kernel_rfl
theorem LNaz : lastB? Tryz.prog (OB ln1 []) (ext? Tryz.prog (OB ln1 []) tab) (truth 29) 40000 9000 LNac0 = true := by kernel_rfl
theorem LNaruns : Runs Tryz.prog (OB ln1 []) (ext? Tryz.prog (OB ln1 []) tab) (truth 29) LNac0 :=
  (.last _ _ _ LNaz)
end Go.Proofs.YtmnahfonnljobaaGreatDoor
