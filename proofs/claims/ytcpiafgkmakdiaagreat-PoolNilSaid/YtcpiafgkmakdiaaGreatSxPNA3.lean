/-
  PoolNil: its first part, works(). Conditions: none.
-/
import Derived.Test.YtcpiafgkmakdiaaGreatSxPNA2
set_option maxRecDepth 100000
namespace Go.Proofs.YtcpiafgkmakdiaaGreat
open Go.Proofs.YtcpiafgkmakdiaaGreat.SX Go.Proofs.YtcpiafgkmakdiaaGreat.SX.Short
def pnn29 : Nat := 3643551411503900458407878983778
noncomputable def pnA3 : CSt := ⟨0, ⟨⟨68, 7, (N (A pnn25 0) (N1 (I 0)) L),
    [.inRegion (opsOf (pc (bodyOf Tryz.f68) [1,0])) [0, 1, 2, 3, 4], .code .ret],
    [], .run, .normal⟩,
   [⟨43, 26, (N (A pnn25 0) (N Z (N Z (N Z L (N1 (A pnn25 0))) (N1 (.ptr none))) (N (I 0) L (N (A pnn25 0) (N1 (A pnn25 0)) L))) (N (.ptr none) (N Z L (N1 F)) (N Z (N1 F) (N Z (N1 (A pnn25 0)) L)))),
    [.inRegion (opsOf (pc (bodyOf Tryz.f43) [1,1,1,0])) [3, 4], .code .ret],
    [], .run, .normal⟩,
    ⟨14, 80, (N (A pnn2 0) (N (I 0) (N (I 0) (N (I 0) (N (I 0) L (N1 (I 0))) (N (I 1) (N1 (I 0)) (N1 (A pnn2 0)))) (N F (N (A pnn2 0) L (N1 (I 5))) (N (A pnn2 0) (N1 T) (N1 (.ptr none))))) (N Z (N F (N (A pnn2 3) L (N1 (A pnn2 0))) (N (A pnn2 3) (N1 (.ptr none)) (N1 F))) (N (I 2) (N F L (N1 (A pnn25 0))) (N F (N1 (I 2)) (N1 (A pnn12 0)))))) (N (.ptr none) (N Z (N F (N (.slice (some ⟨(.dyn pnn12), (.lit (.ofNat 0))⟩) (.lit (.ofNat 1)) (.var pnn12)) L (N1 (.ptr none))) (N (.slice (some ⟨(.dyn pnn12), (.lit (.ofNat 0))⟩) (.lit (.ofNat 1)) (.var pnn12)) (N1 (I 2)) (N1 (A pnn2 0)))) (N T (N F L (N1 (.ptr none))) (N (I 0) (N1 T) (N1 (A pnn13 0))))) (N Z (N (A pnn2 0) (N (A pnn2 0) L (N1 (.tuple [(I 2), T]))) (N (A pnn2 0) (N1 (A pnn2 0)) (N1 T))) (N (I 5) (N F (N1 Z) (N1 (A pnn2 1))) (N F (N1 (.tuple [(I 2), T])) (N1 (A pnn12 0))))))),
    [.inRegion (opsOf (pc (bodyOf Tryz.f14) [1,0,1,1,0,0,0,0])) [5, 6], .code (pc (bodyOf Tryz.f14) [1,0,1,1,0,0,0,1]), .inBlock 2, .inLoop (pc (bodyOf Tryz.f14) [1,0,1,1,0,0]), .inBlock 1, .inScope (pc (bodyOf Tryz.f14) [1,0])],
    [], .run, .normal⟩,
    ⟨4, 113, (N F (N (I 0) (N (I 2) (N Z (N (I 0) L (N1 (A pnn2 0))) (N (I 0) L (N1 (A pnn2 0)))) (N T (N (A pnn2 0) L (N1 (A pnn2 0))) (N (I 0) (N1 (A pnn2 0)) (N1 (.tuple [(I 2), (I 0)]))))) (N (I 1) (N (I 12) (N (.tuple [(I 1), (I 0)]) L (N1 T)) (N F (N1 (A pnn2 0)) (N1 (I 0)))) (N (I 3) (N F L (N1 (I 3))) (N (.tuple [(A pnn2 0), (I 0)]) (N1 (I 0)) (N1 (A pnn2 0)))))) (N (A pnn2 0) (N (I 0) (N T (N (I 1) L (N1 (.tuple [(I 0), (I 12)]))) (N F L (N1 (.tuple [(I 3), (I 0)])))) (N (I 0) (N (.tuple [(I 1), (I 0)]) L (N1 (I 0))) (N (A pnn2 0) (N1 (I 12)) (N1 (.func (.func 21) [] [(A pnn5 0)]))))) (N (A pnn5 0) (N (I 0) (N (.func (.func 20) [] [(A pnn5 0)]) L (N1 (I 2))) (N (A pnn2 0) (N1 T) (N1 (I 2)))) (N (I 0) (N F L (N1 (.tuple [(I 3), (I 0)]))) (N (.tuple [(A pnn2 0), (I 0)]) (N1 (.tuple [(I 0), (I 12)])) (N1 (.tuple [(I 2), (I 0)]))))))),
    [.inRegion (opsOf (pc (bodyOf Tryz.f4) [1,1,1,1,1,1,1,1,1,1,0])) [1, 2], .code (pc (bodyOf Tryz.f4) [1,1,1,1,1,1,1,1,1,1,1])],
    [], .run, .normal⟩,
    ⟨3, 185, (N (.agg [(.int .i64 (.var 1)), (.int .i64 (.var 2)), (.int .i64 (.var 3))]) (N (A 100 0) L (N1 F)) (N1 (.int .i64 (.var 4)))),
    [.inRegion (opsOf (pc (bodyOf Tryz.f3) [1,0])) [0, 1], .code (pc (bodyOf Tryz.f3) [1,1])],
    [], .run, .normal⟩],
   ⟨[(pnn5, .cells [(I 1)] 3),
     (pnn6, .cells [(I 0), T, (.int .i32 (.lit (.ofNat 0))), (.int .u32 (.lit (.ofNat 0))), (.chan none)] 86),
     (pnn7, .cells [(I 2), T, (.int .i32 (.lit (.ofNat 0))), (.int .u32 (.lit (.ofNat 0))), (.chan none)] 86),
     (pnn8, .cells [(I 3), T, (.int .i32 (.lit (.ofNat 0))), (.int .u32 (.lit (.ofNat 0))), (.chan none)] 86),
     (pnn9, .cells [(I 0), T, (.int .i32 (.lit (.ofNat 0))), (.int .u32 (.lit (.ofNat 0))), (.chan none)] 86),
     (pnn10, .row [(A pnn11 0)] 111 (.var pnn10)),
     (pnn12, .row [(A pnn13 0), (A pnn11 0)] 115 (.var pnn12)),
     (pnn13, .cells [(I 1), T, (.int .i32 (.lit (.ofNat 0))), (.int .u32 (.lit (.ofNat 0))), (.chan none)] 86),
     (pnn14, .row [(A pnn15 0), (A pnn16 0), (A pnn17 0), (A pnn18 0)] 26 (.var pnn14)),
     (pnn18, .cells [(I 0), T, (.int .i32 (.lit (.ofNat 0))), (.int .u32 (.lit (.ofNat 0))), (.chan none)] 86),
     (pnn17, .cells [(I 0), T, (.int .i32 (.lit (.ofNat 0))), (.int .u32 (.lit (.ofNat 0))), (.chan none)] 86),
     (pnn16, .cells [(I 2), T, (.int .i32 (.lit (.ofNat 0))), (.int .u32 (.lit (.ofNat 0))), (.chan none)] 86),
     (pnn15, .cells [(I 3), T, (.int .i32 (.lit (.ofNat 0))), (.int .u32 (.lit (.ofNat 0))), (.chan none)] 86),
     (pnn11, .cells [(A pnn19 0), (A pnn20 0), (.slice (some ⟨(.dyn pnn14), (.lit (.ofNat 0))⟩) (.lit (.ofNat 4)) (.var pnn14))] 148),
     (pnn20, .cells [(I 1), T, (.int .i32 (.lit (.ofNat 0))), (.int .u32 (.lit (.ofNat 0))), (.chan none)] 86),
     (pnn19, .cells [(I 0), T, (.int .i32 (.lit (.ofNat 0))), (.int .u32 (.lit (.ofNat 0))), (.chan none)] 86),
     (pnn21, .cells [(A pnn22 0), (A pnn23 0), (.slice (some ⟨(.dyn pnn24), (.lit (.ofNat 0))⟩) (.lit (.ofNat 4)) (.lit (.ofNat 4)))] 146),
     (pnn24, .cells [(I 0), (I 0), (I 1), (I 0), (I 2), (I 1), (I 3), (I 2)] 151),
     (pnn23, .cells [(I 0), T, (.int .i32 (.lit (.ofNat 0))), (.int .u32 (.lit (.ofNat 0))), (.chan none)] 86),
     (pnn22, .cells [(I 3), T, (.int .i32 (.lit (.ofNat 0))), (.int .u32 (.lit (.ofNat 0))), (.chan none)] 86),
     (pnn2, .cells [(A 101 0), (A pnn25 0), (A pnn1 0), (.slice (some ⟨(.dyn pnn12), (.lit (.ofNat 0))⟩) (.lit (.ofNat 1)) (.var pnn12)), (.slice (some ⟨(.dyn pnn10), (.lit (.ofNat 0))⟩) (.lit (.ofNat 1)) (.var pnn10)), (.slice (some ⟨(.dyn pnn26), (.lit (.ofNat 0))⟩) (.lit (.ofNat 4)) (.lit (.ofNat 4))), (A pnn21 0)] 32),
     (pnn26, .cells [.nilFunc, (A pnn9 0), .nilIface, (.func (.func 20) [] [(A pnn5 0)]), (A pnn8 0), .nilIface, (.func (.func 21) [] [(A pnn5 0)]), (A pnn7 0), .nilIface, (.func (.func 22) [] []), (A pnn6 0), .nilIface] 117),
     (pnn1, .cells [(I 4), T, (.int .i32 (.lit (.ofNat 0))), (.int .u32 (.lit (.ofNat 0))), (.chan none)] 86),
     (pnn25, .cells [(I 5), T, (.int .i32 (.lit (.ofNat 0))), (.int .u32 (.lit (.ofNat 0))), (.chan none)] 86),
     (101, .cells [(I 3), T, (.int .i32 (.lit (.ofNat 0))), (.int .u32 (.lit (.ofNat 0))), (.chan none)] 86),
     (100, .cells [(.int .i64 (.var 1)), (.int .i64 (.var 2)), (.int .i64 (.var 3))] 23)], pnn29, pnn0⟩⟩, [], 1, 0⟩
theorem pnAs3 : mchunk? Tryz.prog (OB [] []) (EX [] []) (SM [] []) 40000 4000 [pnn5, pnn6, pnn7, pnn8, pnn9, pnn10, pnn12, pnn13, pnn14, pnn18, pnn17, pnn16, pnn15, pnn11, pnn20, pnn19, pnn21, pnn24, pnn23, pnn22, pnn2, pnn26, pnn1, pnn25, 101, 100] pnA2 = .ok pnA3 := by kernel_rfl
end Go.Proofs.YtcpiafgkmakdiaaGreat
