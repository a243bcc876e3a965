/-
  PoolNil: its first part, works(). Conditions: none.
-/
import Derived.Test.YtcpiafgkmakdiaaGreatSxPCtx
set_option maxRecDepth 100000
namespace Go.Proofs.YtcpiafgkmakdiaaGreat
open Go.Proofs.YtcpiafgkmakdiaaGreat.SX Go.Proofs.YtcpiafgkmakdiaaGreat.SX.Short
def pnn0 : Nat := 5192296858534827628530496329220096
noncomputable def pnF : AFrame := ⟨3, 185, (N (.agg [(.int .i64 (.var 1)), (.int .i64 (.var 2)), (.int .i64 (.var 3))]) L (N1 (.int .i64 (.var 4)))),
    [.code (pc (bodyOf Tryz.f3) [])],
    [], .run, .normal⟩
noncomputable def pnA0 : CSt := ⟨0, ⟨pnF, [], ⟨[], 100, pnn0⟩⟩, [], 1, 0⟩
theorem pnE : enterA Tryz.prog 3 [.agg [.int .i64 (.var 1), .int .i64 (.var 2), .int .i64 (.var 3)], .int .i64 (.var 4)] .normal = .ok pnF := by kernel_rfl
def pnn1 : Nat := 158456325028528675187087900771
def pnn2 : Nat := 713053462628379038341895553116
def pnn3 : Nat := 1426009002265369291720639905906
def pnn4 : Nat := 1426009002265369291720639905907
def pnn5 : Nat := 1426009002265369291720639905901
def pnn6 : Nat := 1426009002265369291720639905900
def pnn7 : Nat := 1426009002265369291720639905899
def pnn8 : Nat := 1426009002265369291720639905898
def pnn9 : Nat := 1426009002265369291720639905897
def pnn10 : Nat := 1426009002265369291720639905896
def pnn11 : Nat := 1426009002265369291720639905879
def pnn12 : Nat := 1426009002265369291720639905894
def pnn13 : Nat := 1426009002265369291720639905892
def pnn14 : Nat := 1426009002265369291720639905891
def pnn15 : Nat := 1426009002265369291720639905880
def pnn16 : Nat := 1426009002265369291720639905883
def pnn17 : Nat := 1426009002265369291720639905886
def pnn18 : Nat := 1426009002265369291720639905889
def pnn19 : Nat := 1426009002265369291720639905877
def pnn20 : Nat := 1426009002265369291720639905878
def pnn21 : Nat := 1426009002265369291720639905876
def pnn22 : Nat := 713053462628379038341895553117
def pnn23 : Nat := 792270744810266844272867147868
def pnn24 : Nat := 1029922591355930262065781932121
def pnn25 : Nat := 79228162514264337593543950436
def pnn26 : Nat := 396140812571321687967719751776
def pnn27 : Nat := 1426009002265369291720639905908
noncomputable def pnA1 : CSt := ⟨0, ⟨⟨57, 19, (N (.ptr none) (N F (N Z (N1 Z) (N1 Z)) (N F (N1 F) (N1 Z))) (N Z (N F (N1 Z) (N1 Z)) (N (.ptr none) (N1 F) (N1 Z)))),
    [.inRegion (opsOf (pc (bodyOf Tryz.f57) [1,0])) [12, 13, 14, 15, 16], .code .ret],
    [], .run, .normal⟩,
   [⟨33, 34, (N (A pnn1 0) (N (I 1) (N1 (I 0)) (N Z (N1 F) L)) (N (.ptr none) (N Z (N1 (.ptr none)) L) (N Z (N1 (A pnn1 0)) L))),
    [.inRegion (opsOf (pc (bodyOf Tryz.f33) [1,1,0,0])) [1], .code (pc (bodyOf Tryz.f33) [1,1,0,1]), .code (pc (bodyOf Tryz.f33) [1,1,1])],
    [], .run, .normal⟩,
    ⟨37, 64, (N (A pnn2 0) (N (.func (.func 22) [] []) (N Z (N (A pnn2 0) (N1 (A pnn2 0)) (N1 (A pnn2 0))) (N (I 4) (N1 (I 4)) (N (I 4) L (N1 (.ptr none))))) (N Z (N (A pnn2 0) (N1 (I 6)) (N1 F)) (N (I 0) (N1 (A 101 0)) (N (.ptr none) L (N1 (A pnn2 2)))))) (N (.ptr none) (N Z (N (A pnn2 0) (N1 T) (N1 (A pnn2 0))) (N (I 0) (N1 (.ptr none)) (N (I 4) L (N1 (A pnn1 0))))) (N (.func (.func 38) [] [(A pnn3 0), (A pnn4 0)]) (N Z (N1 (I 4)) (N1 (I 0))) (N Z (N1 (A pnn2 0)) (N (A 101 0) L (N1 (A pnn2 0))))))),
    [.inRegion (opsOf (pc (bodyOf Tryz.f37) [1,1,0])) [5, 6], .code (pc (bodyOf Tryz.f37) [1,1,1])],
    [], .run, .normal⟩,
    ⟨11, 21, (N (A pnn2 0) (N (.func (.func 22) [] []) (N (I 0) (N1 (A pnn2 0)) (N1 F)) (N (A pnn4 0) (N1 (.func (.func 22) [] [])) (N F L (N1 (.func (.func 22) [] []))))) (N (.ptr none) (N Z (N1 F) (N (A pnn2 0) L (N1 (.func (.func 38) [] [(A pnn3 0), (A pnn4 0)])))) (N (A pnn3 0) (N1 F) (N (I 0) L (N1 (.ptr none)))))),
    [.inRegion (opsOf (pc (bodyOf Tryz.f11) [1,1,0])) [4, 5, 6, 7, 8], .code .ret],
    [], .run, .normal⟩,
    ⟨4, 113, (N F (N (I 0) (N (I 2) (N Z (N1 (I 0)) (N (I 0) L (N1 (A pnn2 0)))) (N Z (N1 (A pnn2 0)) (N (I 0) L (N1 (.tuple [(I 2), (I 0)]))))) (N (I 1) (N Z (N1 (.tuple [(I 1), (I 0)])) (N F L (N1 (I 0)))) (N Z (N1 F) (N (.tuple [(A pnn2 0), (I 0)]) L (N1 (A pnn2 0)))))) (N (A pnn2 0) (N (I 0) (N Z (N1 (I 1)) (N1 F)) (N Z (N1 (.tuple [(I 1), (I 0)])) (N (A pnn2 0) L (N1 (.func (.func 21) [] [(A pnn5 0)]))))) (N (A pnn5 0) (N Z (N1 (.func (.func 20) [] [(A pnn5 0)])) (N (A pnn2 0) L (N1 (I 2)))) (N (I 0) (N1 F) (N (.tuple [(A pnn2 0), (I 0)]) L (N1 (.tuple [(I 2), (I 0)]))))))),
    [.inRegion (opsOf (pc (bodyOf Tryz.f4) [1,1,1,1,1,1,0])) [1, 2, 3, 4, 5, 6], .code (pc (bodyOf Tryz.f4) [1,1,1,1,1,1,1])],
    [], .run, .normal⟩,
    ⟨3, 185, (N (.agg [(.int .i64 (.var 1)), (.int .i64 (.var 2)), (.int .i64 (.var 3))]) (N (A 100 0) L (N1 F)) (N1 (.int .i64 (.var 4)))),
    [.inRegion (opsOf (pc (bodyOf Tryz.f3) [1,0])) [0, 1], .code (pc (bodyOf Tryz.f3) [1,1])],
    [], .run, .normal⟩],
   ⟨[(pnn4, .cells [(.ptr none)] 52),
     (pnn3, .cells [(A pnn2 0)] 25),
     (pnn5, .cells [(I 0)] 3),
     (pnn6, .cells [(I 0), T, (.int .i32 (.lit (.ofNat 0))), (.int .u32 (.lit (.ofNat 0))), (.chan none)] 86),
     (pnn7, .cells [(I 0), T, (.int .i32 (.lit (.ofNat 0))), (.int .u32 (.lit (.ofNat 0))), (.chan none)] 86),
     (pnn8, .cells [(I 0), T, (.int .i32 (.lit (.ofNat 0))), (.int .u32 (.lit (.ofNat 0))), (.chan none)] 86),
     (pnn9, .cells [(I 0), T, (.int .i32 (.lit (.ofNat 0))), (.int .u32 (.lit (.ofNat 0))), (.chan none)] 86),
     (pnn10, .row [(A pnn11 0)] 111 (.var pnn10)),
     (pnn12, .row [(A pnn13 0), (A pnn11 0)] 115 (.var pnn12)),
     (pnn13, .cells [(I 0), T, (.int .i32 (.lit (.ofNat 0))), (.int .u32 (.lit (.ofNat 0))), (.chan none)] 86),
     (pnn14, .row [(A pnn15 0), (A pnn16 0), (A pnn17 0), (A pnn18 0)] 26 (.var pnn14)),
     (pnn18, .cells [(I 0), T, (.int .i32 (.lit (.ofNat 0))), (.int .u32 (.lit (.ofNat 0))), (.chan none)] 86),
     (pnn17, .cells [(I 0), T, (.int .i32 (.lit (.ofNat 0))), (.int .u32 (.lit (.ofNat 0))), (.chan none)] 86),
     (pnn16, .cells [(I 0), T, (.int .i32 (.lit (.ofNat 0))), (.int .u32 (.lit (.ofNat 0))), (.chan none)] 86),
     (pnn15, .cells [(I 0), T, (.int .i32 (.lit (.ofNat 0))), (.int .u32 (.lit (.ofNat 0))), (.chan none)] 86),
     (pnn11, .cells [(A pnn19 0), (A pnn20 0), (.slice (some ⟨(.dyn pnn14), (.lit (.ofNat 0))⟩) (.lit (.ofNat 4)) (.var pnn14))] 148),
     (pnn20, .cells [(I 0), T, (.int .i32 (.lit (.ofNat 0))), (.int .u32 (.lit (.ofNat 0))), (.chan none)] 86),
     (pnn19, .cells [(I 0), T, (.int .i32 (.lit (.ofNat 0))), (.int .u32 (.lit (.ofNat 0))), (.chan none)] 86),
     (pnn21, .cells [(A pnn22 0), (A pnn23 0), (.slice (some ⟨(.dyn pnn24), (.lit (.ofNat 0))⟩) (.lit (.ofNat 4)) (.lit (.ofNat 4)))] 146),
     (pnn24, .cells [(I 0), (I 0), (I 1), (I 0), (I 2), (I 1), (I 0), (I 0)] 151),
     (pnn23, .cells [(I 2), T, (.int .i32 (.lit (.ofNat 0))), (.int .u32 (.lit (.ofNat 0))), (.chan none)] 86),
     (pnn22, .cells [(I 2), T, (.int .i32 (.lit (.ofNat 0))), (.int .u32 (.lit (.ofNat 0))), (.chan none)] 86),
     (pnn2, .cells [(A 101 0), (A pnn25 0), (A pnn1 0), (.slice (some ⟨(.dyn pnn12), (.lit (.ofNat 0))⟩) (.lit (.ofNat 1)) (.var pnn12)), (.slice (some ⟨(.dyn pnn10), (.lit (.ofNat 0))⟩) (.lit (.ofNat 1)) (.var pnn10)), (.slice (some ⟨(.dyn pnn26), (.lit (.ofNat 0))⟩) (.lit (.ofNat 4)) (.lit (.ofNat 4))), (A pnn21 0)] 32),
     (pnn26, .cells [.nilFunc, (A pnn9 0), .nilIface, (.func (.func 20) [] [(A pnn5 0)]), (A pnn8 0), .nilIface, (.func (.func 21) [] [(A pnn5 0)]), (A pnn7 0), .nilIface, .nilFunc, (A pnn6 0), .nilIface] 117),
     (pnn1, .cells [(I 2), T, (.int .i32 (.lit (.ofNat 0))), (.int .u32 (.lit (.ofNat 0))), (.chan none)] 86),
     (pnn25, .cells [(I 2), T, (.int .i32 (.lit (.ofNat 0))), (.int .u32 (.lit (.ofNat 0))), (.chan none)] 86),
     (101, .cells [(I 6), T, (.int .i32 (.lit (.ofNat 0))), (.int .u32 (.lit (.ofNat 0))), (.chan none)] 86),
     (100, .cells [(.int .i64 (.var 1)), (.int .i64 (.var 2)), (.int .i64 (.var 3))] 23)], pnn27, pnn0⟩⟩, [], 1, 0⟩
theorem pnAs1 : mchunk? Tryz.prog (OB [] []) (EX [] []) (SM [] []) 40000 4000 [pnn4, pnn3, pnn5, pnn6, pnn7, pnn8, pnn9, pnn10, pnn12, pnn13, pnn14, pnn18, pnn17, pnn16, pnn15, pnn11, pnn20, pnn19, pnn21, pnn24, pnn23, pnn22, pnn2, pnn26, pnn1, pnn25, 101, 100] pnA0 = .ok pnA1 := by kernel_rfl
end Go.Proofs.YtcpiafgkmakdiaaGreat
