/-
  PoolNil: its first part, works(). Conditions: none.
-/
import Derived.Test.YtcpiafgkmakdiaaGreatSxPNA4
set_option maxRecDepth 100000
namespace Go.Proofs.YtcpiafgkmakdiaaGreat
open Go.Proofs.YtcpiafgkmakdiaaGreat.SX Go.Proofs.YtcpiafgkmakdiaaGreat.SX.Short
def pnn31 : Nat := 3643551411503900458407878983788
noncomputable def pnA5 : CSt := ⟨0, ⟨⟨3, 185, (N (.agg [(.int .i64 (.var 1)), (.int .i64 (.var 2)), (.int .i64 (.var 3))]) (N (A 100 0) L (N F (N Z L (N1 T)) L)) (N1 (.int .i64 (.var 4)))),
    [.inRegion (opsOf (pc (bodyOf Tryz.f3) [1,0])) [1], .code (pc (bodyOf Tryz.f3) [1,1])],
    [], .run, .normal⟩,
   [],
   ⟨[(100, .cells [(.int .i64 (.var 1)), (.int .i64 (.var 2)), (.int .i64 (.var 3))] 23)], pnn31, pnn0⟩⟩, [], 1, 0⟩
theorem pnAs5 : mchunk? Tryz.prog (OB [] []) (EX [] []) (SM [] []) 40000 739 [100] pnA4 = .ok pnA5 := by kernel_rfl
end Go.Proofs.YtcpiafgkmakdiaaGreat
