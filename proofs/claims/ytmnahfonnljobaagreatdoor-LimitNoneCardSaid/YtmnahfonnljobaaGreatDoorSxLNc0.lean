/-
  A run in pieces. Conditions: none.
-/
import Derived.Test.YtmnahfonnljobaaGreatDoorSxLNcases
set_option maxRecDepth 100000
namespace Go.Proofs.YtmnahfonnljobaaGreatDoor
open Go.Proofs.YtmnahfonnljobaaGreatDoor.SX Go.Proofs.YtmnahfonnljobaaGreatDoor.SX.Short
noncomputable def LNcf : AFrame := ⟨5, 181, (N1 (.int .i64 (.var 1))),
    [.code (pc (bodyOf Tryz.f5) [])],
    [], .run, .normal⟩
noncomputable def LNcc0 : ACfg := ⟨LNcf, [], h0⟩
theorem LNce : enterA Tryz.prog 5 [(.int .i64 (.var 1))] .normal = .ok LNcf := by kernel_rfl
def LNcn0 : Nat := 3722672019385744198767527067778
def LNcn1 : Nat := 3722672019385744198767527067779
def LNcn2 : Nat := 3722672019385744198767527067775
def LNcn3 : Nat := 1663617333384484686450321784972
def LNcn4 : Nat := 1742826154266226810694481739915
def LNcn5 : Nat := 2614036162555730060300383158407
def LNcn6 : Nat := 1267573228975774065229522010236
def LNcn7 : Nat := 633825300114114700748351602817
def LNcn8 : Nat := 1267582898021291856016172908683
def LNcn9 : Nat := 1267573228975774065229522010250
def LNcn10 : Nat := 1267573228975774065229522010243
def LNcn11 : Nat := 3722672019385744198767527067776
def LNcn12 : Nat := 3485107192922169740524567658623
def LNcn13 : Nat := 2614036162555730060300383158409
def LNcn14 : Nat := 1980452616911453183426961604749
def LNcn15 : Nat := 2614036162555730060300383158406
def LNcn16 : Nat := 1980452616911453183426961604750
def LNcn17 : Nat := 2059650560116987793036139298957
def LNcn18 : Nat := 2297244389733591621863672381578
def LNcn19 : Nat := 1980452616911453183426961604746
def LNcn20 : Nat := 1980452616911453183426961604745
def LNcn21 : Nat := 1267573228975774065229522010257
def LNcn22 : Nat := 1267582898021291856016172908682
def LNcn23 : Nat := 1267573228975774065229522010258
def LNcn24 : Nat := 1267574437606463789077853372561
def LNcn25 : Nat := 1267578063498532960622847459470
def LNcn26 : Nat := 1267573228975774065229522010254
def LNcn27 : Nat := 633825300114114700748351602818
def LNcn28 : Nat := 1267573228975774065229522010235
def LNcn29 : Nat := 633825300114114700748351602819
def LNcn30 : Nat := 713043791221822121308497903746
def LNcn31 : Nat := 950699264544944382988936806527
def LNcn32 : Nat := 633825300114114700748351602816
def LNcn33 : Nat := 79228162514264337593543950471
def LNcn34 : Nat := 316912650057057350374175801476
def LNcn35 : Nat := 3722672019385744198767527067780
def LNcn36 : Nat := 5192296858534827628530496329220096
noncomputable def LNcc1 : ACfg := ⟨⟨85, 19, (N (.ptr none) (N F (N1 Z) (N F L (N1 Z))) (N Z (N F L (N1 Z)) (N (.ptr none) L (N1 Z)))),
    [.inRegion (opsOf (pc (bodyOf Tryz.f85) [1,0])) [7, 8, 9, 10, 11, 12, 13, 14, 15, 16], .code .ret],
    [], .run, .normal⟩,
   [⟨46, 26, (N (A 106 0) (N Z (N Z L (N1 (.ptr none))) (N (I 0) L (N1 (A 106 0)))) (N (.ptr none) (N Z L (N1 F)) L)),
    [.inRegion (opsOf (pc (bodyOf Tryz.f46) [1,1,0,0])) [1], .code (pc (bodyOf Tryz.f46) [1,1,0,1]), .code (pc (bodyOf Tryz.f46) [1,1,1])],
    [], .run, .normal⟩,
    ⟨78, 57, (N (A 102 0) (N (I 4611686018427387904) (N (A LNcn0 0) (N (I 1) (N1 (I 1)) (N (A 102 5) (N1 (I 1)) L)) (N F (N1 (I 2)) (N (I 1) L (N1 (A 102 6))))) (N Z (N (I 2) (N1 F) (N (A 102 2) L (N1 (.ptr none)))) (N (A LNcn1 0) (N1 (.ptr none)) (N (I 1) L (N1 (A 102 2)))))) (N (.ptr none) (N Z (N Z (N1 (A 102 0)) (N1 (A 102 5))) (N (I 0) (N1 (I 2)) (N (A 102 0) L (N1 (A 102 5))))) (N Z (N (I 1) (N1 (I 2)) (N (A 102 0) L (N1 (A 106 0)))) (N F (N1 (A 105 0)) (N T L (N1 (A 102 0))))))),
    [.inRegion (opsOf (pc (bodyOf Tryz.f78) [1,1,1,1,0,1,0,0,1,1,0,0,1,1,1,0])) [8, 9], .code (pc (bodyOf Tryz.f78) [1,1,1,1,0,1,0,0,1,1,0,0,1,1,1,1]), .inBlock 1, .code (pc (bodyOf Tryz.f78) [1,1,1,1,0,1,0,0,1,1,1]), .inLoop (pc (bodyOf Tryz.f78) [1,1,1,1,0,1,0,0]), .inBlock 0, .code (pc (bodyOf Tryz.f78) [1,1,1,1,1])],
    [], .run, .normal⟩,
    ⟨30, 101, (N (A 102 0) (N (.int .i64 (.var 1)) (N (I 0) (N T (N (I 0) (N1 (A 102 2)) (N (.ptr none) L (N1 (A 102 4)))) (N (.ptr none) (N (I 0) L (N1 (.ptr none))) (N (A 102 0) L (N1 (A LNcn2 1))))) (N (A LNcn2 0) (N (A 102 0) (N (A LNcn2 0) L (N1 (I 4))) (N (I 4611686018427387904) L (N1 T))) (N (A 102 0) (N T L (N1 (A 102 2))) (N (I 4611686018427387904) L (N1 (A 103 0)))))) (N Z (N (A 102 2) (N (A 100 0) (N (A 102 0) L (N1 (I 0))) (N (.tuple [(.agg [(I 0), (I 2)]), T]) L (N1 (A 102 2)))) (N (A 102 1) (N F L (N1 (A 102 2))) (N (I 4611686018427387904) L (N1 (A LNcn2 1))))) (N (I 4611686018427387904) (N F (N F L (N1 (I 2))) (N (A 100 0) L (N1 (I 5)))) (N (.int .i64 (.var 1)) (N (.tuple [(.agg [(I 0), (I 2)]), T]) L (N1 (.ptr none))) (N (.int .i64 (.var 1)) L (N1 (A 102 2))))))) (N (.ptr none) (N Z (N (A 102 0) (N (.ptr none) (N (A 102 2) L (N1 (I 1))) (N (A 102 0) L (N1 (A 102 2)))) (N (A 101 0) (N F L (N1 (A 103 0))) (N (A 102 0) L (N1 (I 2))))) (N (I 1) (N (A 102 0) (N (A 102 0) L (N1 (I 6))) (N (.ptr none) L (N1 (I 3)))) (N F (N (.agg [(I 0), (I 2)]) L (N1 Z)) (N (I 0) L (N1 (A 102 2)))))) (N Z (N T (N (A 102 0) (N (I 0) L (N1 Z)) (N Z L (N1 F))) (N (A 102 0) (N T L (N1 (A 102 2))) (N (I 4611686018427387904) L (N1 (.ptr none))))) (N (I 0) (N T (N F L (N1 (A LNcn2 1))) (N (A 102 0) L (N1 (I 2)))) (N F (N (I 4611686018427387904) L (N1 (.func (.func 67) [] [(A LNcn3 0), (A LNcn4 0)]))) (N (I 0) L (N1 (A 102 2)))))))),
    [.inRegion (opsOf (pc (bodyOf Tryz.f30) [1,1,1,1,1,1,1,1,0,0,0,0,0])) [3, 4, 5, 6, 7, 8, 9], .code (pc (bodyOf Tryz.f30) [1,1,1,1,1,1,1,1,0,0,0,0,1]), .inBlock 1, .inLoop (pc (bodyOf Tryz.f30) [1,1,1,1,1,1,1,1,0,0,0]), .inBlock 0, .code (pc (bodyOf Tryz.f30) [1,1,1,1,1,1,1,1,1])],
    [], .run, .normal⟩,
    ⟨5, 181, (N (.int .i64 (.var 1)) (N F (N (.ptr none) (N (.ptr none) (N (.tuple [(.ptr none), (I 2)]) (N F L (N1 F)) (N (I 2) (N1 (.tuple [(A LNcn5 0), (I 0)])) (N F L (N1 F)))) (N Z (N (A 102 0) L (N1 F)) (N (I 2) (N1 (.int .i64 (.var 1))) (N F L (N1 F))))) (N (.ptr none) (N (A LNcn6 0) (N (.tuple [(.ptr none), (I 2)]) L (N1 F)) (N (A LNcn6 0) (N1 (.tuple [(A LNcn5 0), (I 0)])) (N F L (N1 F)))) (N (A LNcn5 0) (N (.tuple [(.ptr none), (I 2)]) (N1 F) (N1 F)) (N (A 102 0) (N1 F) (N1 F))))) (N (A LNcn7 0) (N (.ptr none) (N (A LNcn6 0) (N (I 2) L (N1 (I 2))) (N (.tuple [(.ptr none), (I 2)]) (N1 (A LNcn7 0)) (N (.ptr none) L (N1 F)))) (N Z (N (I 2) L (N (I 2) L (N1 (.int .i64 (.var 1))))) (N (.tuple [(.ptr none), (I 2)]) (N1 (A 102 0)) (N (.ptr none) L (N1 (A LNcn8 0)))))) (N (.ptr none) (N (A 102 0) (N (A LNcn9 0) L (N1 (I 2))) (N (.agg [(.ptr none), (.ptr none), (.ptr none), (.ptr none), .nilFunc, (.ptr none), (.ptr none), .nilFunc, (.ptr none), (.ptr none), .nilFunc, (.ptr none), (.ptr none), .nilFunc, (.ptr none), (.ptr none), .nilFunc, (.ptr none), (.ptr none), .nilFunc, (.ptr none), (.ptr none), .nilFunc, (.ptr none), (.ptr none), .nilFunc, (.ptr none), (.ptr none), .nilFunc, (.ptr none), (.ptr none), .nilFunc, (.ptr none), (.ptr none), .nilFunc, (.ptr none), (.ptr none), .nilFunc, (.ptr none), (.ptr none), .nilFunc, (.ptr none), (.ptr none), .nilFunc, (.ptr none), (.ptr none), .nilFunc, (.ptr none), (.ptr none), .nilFunc]) (N1 (A LNcn8 0)) (N (.ptr none) L (N1 F)))) (N (A LNcn8 0) (N (A LNcn7 0) (N1 (I 0)) (N (I 2) L (N1 F))) (N (I 2) (N1 (I 2)) (N1 (.ptr none))))))) (N Z (N (A LNcn6 0) (N (I 2) (N (.int .i64 (.var 1)) (N (.ptr none) L (N1 F)) (N (.ptr none) (N1 (.int .i64 (.var 1))) (N F L (N1 F)))) (N Z (N (.tuple [(.ptr none), (I 2)]) L (N1 F)) (N (.ptr none) (N1 (A LNcn6 0)) (N F L (N1 F))))) (N (I 2) (N (A LNcn7 0) (N (.int .i64 (.var 1)) L (N1 F)) (N (A LNcn10 0) (N1 (I 0)) (N F L (N1 F)))) (N (I 0) (N (.int .i64 (.var 1)) (N1 (.int .i64 (.var 1))) (N F L (N1 F))) (N (.tuple [(.ptr none), (I 2)]) (N1 F) (N1 F))))) (N (A 102 0) (N (I 2) (N (.tuple [(.ptr none), (I 2)]) (N (.ptr none) L (N1 F)) (N (.int .i64 (.var 1)) (N1 (A 102 0)) (N F L (N1 (I 0))))) (N (I 0) (N (.ptr none) L (N F L (N1 (A 102 0)))) (N (.int .i64 (.var 1)) (N1 (.tuple [(A LNcn8 0), (I 0)])) (N1 F)))) (N (I 2) (N Z (N (.agg [(.ptr none), (.ptr none), (I 0)]) L (N1 F)) (N (.tuple [(.ptr none), (I 2)]) (N1 (.tuple [(A LNcn8 0), (I 0)])) (N F L (N1 (A LNcn5 0))))) (N (I 2) (N (.tuple [(.ptr none), (I 2)]) (N1 (A LNcn5 0)) (N F L (N1 (I 0)))) (N (.ptr none) (N1 F) (N1 F))))))),
    [.inRegion (opsOf (pc (bodyOf Tryz.f5) [1,1,1,1,1,1,1,1,1,1,1,1,1,1,0])) [2, 3, 4, 5, 6, 7], .code (pc (bodyOf Tryz.f5) [1,1,1,1,1,1,1,1,1,1,1,1,1,1,1])],
    [], .run, .normal⟩],
   ⟨[(LNcn1, .cells [(I 0), (I 0)] 126),
     (LNcn0, .cells [(I 0), (I 0)] 126),
     (LNcn11, .cells [(I 4611686018427387904)] 131),
     (LNcn2, .cells [(I 0), (I 2)] 126),
     (LNcn12, .cells [(I 1), (I 2)] 126),
     (LNcn13, .cells [(A LNcn5 0)] 64),
     (LNcn5, .cells [(A LNcn14 0), (A LNcn15 0), (I 1)] 77),
     (LNcn15, .cells [(A LNcn16 0), (A LNcn17 0), (.slice (some ⟨(.dyn LNcn18), (.lit (.ofNat 0))⟩) (.lit (.ofNat 65)) (.lit (.ofNat 65)))] 201),
     (LNcn18, .cells [(.ptr none), .nilFunc, (I 0), (.ptr none), (.func (.func 74) [] [(A LNcn19 0), (A LNcn12 0)]), (I 0), (.ptr none), .nilFunc, (I 0), (.ptr none), .nilFunc, (I 0), (.ptr none), .nilFunc, (I 0), (.ptr none), .nilFunc, (I 0), (.ptr none), .nilFunc, (I 0), (.ptr none), .nilFunc, (I 0), (.ptr none), .nilFunc, (I 0), (.ptr none), .nilFunc, (I 0), (.ptr none), .nilFunc, (I 0), (.ptr none), .nilFunc, (I 0), (.ptr none), .nilFunc, (I 0), (.ptr none), .nilFunc, (I 0), (.ptr none), .nilFunc, (I 0), (.ptr none), .nilFunc, (I 0), (.ptr none), .nilFunc, (I 0), (.ptr none), .nilFunc, (I 0), (.ptr none), .nilFunc, (I 0), (.ptr none), .nilFunc, (I 0), (.ptr none), .nilFunc, (I 0), (.ptr none), .nilFunc, (I 0), (.ptr none), .nilFunc, (I 0), (.ptr none), .nilFunc, (I 0), (.ptr none), .nilFunc, (I 0), (.ptr none), .nilFunc, (I 0), (.ptr none), .nilFunc, (I 0), (.ptr none), .nilFunc, (I 0), (.ptr none), .nilFunc, (I 0), (.ptr none), .nilFunc, (I 0), (.ptr none), .nilFunc, (I 0), (.ptr none), .nilFunc, (I 0), (.ptr none), .nilFunc, (I 0), (.ptr none), .nilFunc, (I 0), (.ptr none), .nilFunc, (I 0), (.ptr none), .nilFunc, (I 0), (.ptr none), .nilFunc, (I 0), (.ptr none), .nilFunc, (I 0), (.ptr none), .nilFunc, (I 0), (.ptr none), .nilFunc, (I 0), (.ptr none), .nilFunc, (I 0), (.ptr none), .nilFunc, (I 0), (.ptr none), .nilFunc, (I 0), (.ptr none), .nilFunc, (I 0), (.ptr none), .nilFunc, (I 0), (.ptr none), .nilFunc, (I 0), (.ptr none), .nilFunc, (I 0), (.ptr none), .nilFunc, (I 0), (.ptr none), .nilFunc, (I 0), (.ptr none), .nilFunc, (I 0), (.ptr none), .nilFunc, (I 0), (.ptr none), .nilFunc, (I 0), (.ptr none), .nilFunc, (I 0), (.ptr none), .nilFunc, (I 0), (.ptr none), .nilFunc, (I 0), (.ptr none), .nilFunc, (I 0), (.ptr none), .nilFunc, (I 0), (.ptr none), .nilFunc, (I 0), (.ptr none), .nilFunc, (I 0), (.ptr none), .nilFunc, (I 0), (.ptr none), .nilFunc, (I 0), (.ptr none), .nilFunc, (I 0), (.ptr none), .nilFunc, (I 0), (.ptr none), .nilFunc, (I 0), (.ptr none), .nilFunc, (I 0)] 238),
     (LNcn17, .cells [(I 1), T, (.int .i32 (.lit (.ofNat 0))), (.int .u32 (.lit (.ofNat 0))), (.chan none)] 155),
     (LNcn16, .cells [(I 1), T, (.int .i32 (.lit (.ofNat 0))), (.int .u32 (.lit (.ofNat 0))), (.chan none)] 155),
     (LNcn14, .cells [(I 0), T, (.int .i32 (.lit (.ofNat 0))), (.int .u32 (.lit (.ofNat 0))), (.chan none)] 155),
     (LNcn19, .cells [(A 102 0)] 62),
     (LNcn20, .cells [(I 0), (I 2)] 126),
     (LNcn4, .cells [(I 4611686018427387904)] 2),
     (LNcn3, .cells [(A LNcn8 0)] 43),
     (LNcn8, .cells [(A LNcn21 0), (A LNcn22 0), (I 0), (.iface 129 (A LNcn11 0))] 48),
     (LNcn22, .cells [(A LNcn23 0), (A LNcn24 0), (.slice (some ⟨(.dyn LNcn25), (.lit (.ofNat 0))⟩) (.lit (.ofNat 65)) (.lit (.ofNat 65)))] 194),
     (LNcn25, .cells [.nilFunc, (I 0), .nilFunc, (I 0), .nilFunc, (I 0), .nilFunc, (I 0), .nilFunc, (I 0), .nilFunc, (I 0), .nilFunc, (I 0), .nilFunc, (I 0), .nilFunc, (I 0), .nilFunc, (I 0), .nilFunc, (I 0), .nilFunc, (I 0), .nilFunc, (I 0), .nilFunc, (I 0), .nilFunc, (I 0), .nilFunc, (I 0), .nilFunc, (I 0), .nilFunc, (I 0), .nilFunc, (I 0), .nilFunc, (I 0), .nilFunc, (I 0), .nilFunc, (I 0), .nilFunc, (I 0), .nilFunc, (I 0), .nilFunc, (I 0), .nilFunc, (I 0), .nilFunc, (I 0), .nilFunc, (I 0), .nilFunc, (I 0), .nilFunc, (I 0), .nilFunc, (I 0), .nilFunc, (I 0), .nilFunc, (I 0), .nilFunc, (I 0), .nilFunc, (I 0), .nilFunc, (I 0), .nilFunc, (I 0), .nilFunc, (I 0), .nilFunc, (I 0), .nilFunc, (I 0), .nilFunc, (I 0), .nilFunc, (I 0), .nilFunc, (I 0), .nilFunc, (I 0), .nilFunc, (I 0), .nilFunc, (I 0), .nilFunc, (I 0), .nilFunc, (I 0), .nilFunc, (I 0), .nilFunc, (I 0), .nilFunc, (I 0), .nilFunc, (I 0), .nilFunc, (I 0), .nilFunc, (I 0), .nilFunc, (I 0), .nilFunc, (I 0), .nilFunc, (I 0), .nilFunc, (I 0), .nilFunc, (I 0), .nilFunc, (I 0), .nilFunc, (I 0), .nilFunc, (I 0), .nilFunc, (I 0), .nilFunc, (I 0), .nilFunc, (I 0)] 236),
     (LNcn24, .cells [(.int .i64 (.lit (.negSucc 0))), T, (.int .i32 (.lit (.ofNat 0))), (.int .u32 (.lit (.ofNat 0))), (.chan none)] 155),
     (LNcn23, .cells [(I 0), T, (.int .i32 (.lit (.ofNat 0))), (.int .u32 (.lit (.ofNat 0))), (.chan none)] 155),
     (LNcn21, .cells [(I 3), T, (.int .i32 (.lit (.ofNat 0))), (.int .u32 (.lit (.ofNat 0))), (.chan none)] 155),
     (LNcn26, .cells [(A 102 0)] 62),
     (LNcn9, .cells [(.ptr none), (.ptr none), (I 0)] 77),
     (LNcn10, .cells [(.ptr none), (.ptr none), (.ptr none), (.ptr none), .nilFunc, (.ptr none), (.ptr none), .nilFunc, (.ptr none), (.ptr none), .nilFunc, (.ptr none), (.ptr none), .nilFunc, (.ptr none), (.ptr none), .nilFunc, (.ptr none), (.ptr none), .nilFunc, (.ptr none), (.ptr none), .nilFunc, (.ptr none), (.ptr none), .nilFunc, (.ptr none), (.ptr none), .nilFunc, (.ptr none), (.ptr none), .nilFunc, (.ptr none), (.ptr none), .nilFunc, (.ptr none), (.ptr none), .nilFunc, (.ptr none), (.ptr none), .nilFunc, (.ptr none), (.ptr none), .nilFunc, (.ptr none), (.ptr none), .nilFunc, (.ptr none), (.ptr none), .nilFunc] 72),
     (LNcn6, .cells [(A LNcn27 0), (A LNcn28 0), (I 0), .nilIface] 48),
     (LNcn28, .cells [(A LNcn29 0), (A LNcn30 0), (.slice (some ⟨(.dyn LNcn31), (.lit (.ofNat 0))⟩) (.lit (.ofNat 65)) (.lit (.ofNat 65)))] 194),
     (LNcn31, .cells [.nilFunc, (I 0), (.func (.func 68) [] [(A LNcn3 0), (A LNcn26 0), (A LNcn20 0)]), (I 0), .nilFunc, (I 0), .nilFunc, (I 0), .nilFunc, (I 0), .nilFunc, (I 0), .nilFunc, (I 0), .nilFunc, (I 0), .nilFunc, (I 0), .nilFunc, (I 0), .nilFunc, (I 0), .nilFunc, (I 0), .nilFunc, (I 0), .nilFunc, (I 0), .nilFunc, (I 0), .nilFunc, (I 0), .nilFunc, (I 0), .nilFunc, (I 0), .nilFunc, (I 0), .nilFunc, (I 0), .nilFunc, (I 0), .nilFunc, (I 0), .nilFunc, (I 0), .nilFunc, (I 0), .nilFunc, (I 0), .nilFunc, (I 0), .nilFunc, (I 0), .nilFunc, (I 0), .nilFunc, (I 0), .nilFunc, (I 0), .nilFunc, (I 0), .nilFunc, (I 0), .nilFunc, (I 0), .nilFunc, (I 0), .nilFunc, (I 0), .nilFunc, (I 0), .nilFunc, (I 0), .nilFunc, (I 0), .nilFunc, (I 0), .nilFunc, (I 0), .nilFunc, (I 0), .nilFunc, (I 0), .nilFunc, (I 0), .nilFunc, (I 0), .nilFunc, (I 0), .nilFunc, (I 0), .nilFunc, (I 0), .nilFunc, (I 0), .nilFunc, (I 0), .nilFunc, (I 0), .nilFunc, (I 0), .nilFunc, (I 0), .nilFunc, (I 0), .nilFunc, (I 0), .nilFunc, (I 0), .nilFunc, (I 0), .nilFunc, (I 0), .nilFunc, (I 0), .nilFunc, (I 0), .nilFunc, (I 0), .nilFunc, (I 0), .nilFunc, (I 0), .nilFunc, (I 0), .nilFunc, (I 0), .nilFunc, (I 0)] 236),
     (LNcn30, .cells [(I 1), T, (.int .i32 (.lit (.ofNat 0))), (.int .u32 (.lit (.ofNat 0))), (.chan none)] 155),
     (LNcn29, .cells [(I 1), T, (.int .i32 (.lit (.ofNat 0))), (.int .u32 (.lit (.ofNat 0))), (.chan none)] 155),
     (LNcn27, .cells [(I 0), T, (.int .i32 (.lit (.ofNat 0))), (.int .u32 (.lit (.ofNat 0))), (.chan none)] 155),
     (LNcn7, .cells [(A 135 0), (A LNcn32 0), (I 0)] 77),
     (LNcn32, .cells [(A 136 0), (A LNcn33 0), (.slice (some ⟨(.dyn LNcn34), (.lit (.ofNat 0))⟩) (.lit (.ofNat 65)) (.lit (.ofNat 65)))] 201),
     (LNcn34, .cells [(.ptr none), .nilFunc, (I 0), (A LNcn5 0), .nilFunc, (I 0), (.ptr none), .nilFunc, (I 0), (.ptr none), .nilFunc, (I 0), (.ptr none), .nilFunc, (I 0), (.ptr none), .nilFunc, (I 0), (.ptr none), .nilFunc, (I 0), (.ptr none), .nilFunc, (I 0), (.ptr none), .nilFunc, (I 0), (.ptr none), .nilFunc, (I 0), (.ptr none), .nilFunc, (I 0), (.ptr none), .nilFunc, (I 0), (.ptr none), .nilFunc, (I 0), (.ptr none), .nilFunc, (I 0), (.ptr none), .nilFunc, (I 0), (.ptr none), .nilFunc, (I 0), (.ptr none), .nilFunc, (I 0), (.ptr none), .nilFunc, (I 0), (.ptr none), .nilFunc, (I 0), (.ptr none), .nilFunc, (I 0), (.ptr none), .nilFunc, (I 0), (.ptr none), .nilFunc, (I 0), (.ptr none), .nilFunc, (I 0), (.ptr none), .nilFunc, (I 0), (.ptr none), .nilFunc, (I 0), (.ptr none), .nilFunc, (I 0), (.ptr none), .nilFunc, (I 0), (.ptr none), .nilFunc, (I 0), (.ptr none), .nilFunc, (I 0), (.ptr none), .nilFunc, (I 0), (.ptr none), .nilFunc, (I 0), (.ptr none), .nilFunc, (I 0), (.ptr none), .nilFunc, (I 0), (.ptr none), .nilFunc, (I 0), (.ptr none), .nilFunc, (I 0), (.ptr none), .nilFunc, (I 0), (.ptr none), .nilFunc, (I 0), (.ptr none), .nilFunc, (I 0), (.ptr none), .nilFunc, (I 0), (.ptr none), .nilFunc, (I 0), (.ptr none), .nilFunc, (I 0), (.ptr none), .nilFunc, (I 0), (.ptr none), .nilFunc, (I 0), (.ptr none), .nilFunc, (I 0), (.ptr none), .nilFunc, (I 0), (.ptr none), .nilFunc, (I 0), (.ptr none), .nilFunc, (I 0), (.ptr none), .nilFunc, (I 0), (.ptr none), .nilFunc, (I 0), (.ptr none), .nilFunc, (I 0), (.ptr none), .nilFunc, (I 0), (.ptr none), .nilFunc, (I 0), (.ptr none), .nilFunc, (I 0), (.ptr none), .nilFunc, (I 0), (.ptr none), .nilFunc, (I 0), (.ptr none), .nilFunc, (I 0), (.ptr none), .nilFunc, (I 0), (.ptr none), .nilFunc, (I 0), (.ptr none), .nilFunc, (I 0), (.ptr none), .nilFunc, (I 0), (.ptr none), .nilFunc, (I 0), (.ptr none), .nilFunc, (I 0), (.ptr none), .nilFunc, (I 0), (.ptr none), .nilFunc, (I 0), (.ptr none), .nilFunc, (I 0)] 238),
     (LNcn33, .cells [(I 1), T, (.int .i32 (.lit (.ofNat 0))), (.int .u32 (.lit (.ofNat 0))), (.chan none)] 155),
     (136, .cells [(I 1), T, (.int .i32 (.lit (.ofNat 0))), (.int .u32 (.lit (.ofNat 0))), (.chan none)] 155),
     (135, .cells [(I 0), T, (.int .i32 (.lit (.ofNat 0))), (.int .u32 (.lit (.ofNat 0))), (.chan none)] 155),
     (134, .cells [(I 0), T, (.int .i32 (.lit (.ofNat 0))), (.int .u32 (.lit (.ofNat 0))), (.chan none)] 155),
     (133, .cells [(I 0), T, (.int .i32 (.lit (.ofNat 0))), (.int .u32 (.lit (.ofNat 0))), (.chan none)] 155),
     (132, .cells [(I 0), T, (.int .i32 (.lit (.ofNat 0))), (.int .u32 (.lit (.ofNat 0))), (.chan none)] 155),
     (131, .cells [(I 0), T, (.int .i32 (.lit (.ofNat 0))), (.int .u32 (.lit (.ofNat 0))), (.chan none)] 155),
     (130, .cells [(I 0), T, (.int .i32 (.lit (.ofNat 0))), (.int .u32 (.lit (.ofNat 0))), (.chan none)] 155),
     (129, .cells [(I 0), T, (.int .i32 (.lit (.ofNat 0))), (.int .u32 (.lit (.ofNat 0))), (.chan none)] 155),
     (128, .cells [(I 0), T, (.int .i32 (.lit (.ofNat 0))), (.int .u32 (.lit (.ofNat 0))), (.chan none)] 155),
     (127, .cells [(I 0), T, (.int .i32 (.lit (.ofNat 0))), (.int .u32 (.lit (.ofNat 0))), (.chan none)] 155),
     (126, .cells [(I 0), T, (.int .i32 (.lit (.ofNat 0))), (.int .u32 (.lit (.ofNat 0))), (.chan none)] 155),
     (125, .cells [(I 0), T, (.int .i32 (.lit (.ofNat 0))), (.int .u32 (.lit (.ofNat 0))), (.chan none)] 155),
     (124, .cells [(I 0), T, (.int .i32 (.lit (.ofNat 0))), (.int .u32 (.lit (.ofNat 0))), (.chan none)] 155),
     (123, .cells [(I 0), T, (.int .i32 (.lit (.ofNat 0))), (.int .u32 (.lit (.ofNat 0))), (.chan none)] 155),
     (122, .cells [(I 0), T, (.int .i32 (.lit (.ofNat 0))), (.int .u32 (.lit (.ofNat 0))), (.chan none)] 155),
     (121, .cells [(I 0), T, (.int .i32 (.lit (.ofNat 0))), (.int .u32 (.lit (.ofNat 0))), (.chan none)] 155),
     (120, .cells [(I 0), T, (.int .i32 (.lit (.ofNat 0))), (.int .u32 (.lit (.ofNat 0))), (.chan none)] 155),
     (119, .cells [(I 0), T, (.int .i32 (.lit (.ofNat 0))), (.int .u32 (.lit (.ofNat 0))), (.chan none)] 155),
     (118, .cells [(I 0), T, (.int .i32 (.lit (.ofNat 0))), (.int .u32 (.lit (.ofNat 0))), (.chan none)] 155),
     (117, .cells [(I 0), T, (.int .i32 (.lit (.ofNat 0))), (.int .u32 (.lit (.ofNat 0))), (.chan none)] 155),
     (116, .cells [(I 0), T, (.int .i32 (.lit (.ofNat 0))), (.int .u32 (.lit (.ofNat 0))), (.chan none)] 155),
     (115, .cells [(I 0), T, (.int .i32 (.lit (.ofNat 0))), (.int .u32 (.lit (.ofNat 0))), (.chan none)] 155),
     (114, .cells [(I 0), T, (.int .i32 (.lit (.ofNat 0))), (.int .u32 (.lit (.ofNat 0))), (.chan none)] 155),
     (113, .cells [(I 0), T, (.int .i32 (.lit (.ofNat 0))), (.int .u32 (.lit (.ofNat 0))), (.chan none)] 155),
     (112, .cells [(I 0), T, (.int .i32 (.lit (.ofNat 0))), (.int .u32 (.lit (.ofNat 0))), (.chan none)] 155),
     (111, .cells [(I 0), T, (.int .i32 (.lit (.ofNat 0))), (.int .u32 (.lit (.ofNat 0))), (.chan none)] 155),
     (110, .cells [(I 0), T, (.int .i32 (.lit (.ofNat 0))), (.int .u32 (.lit (.ofNat 0))), (.chan none)] 155),
     (109, .cells [(I 0), T, (.int .i32 (.lit (.ofNat 0))), (.int .u32 (.lit (.ofNat 0))), (.chan none)] 155),
     (108, .cells [(I 0), T, (.int .i32 (.lit (.ofNat 0))), (.int .u32 (.lit (.ofNat 0))), (.chan none)] 155),
     (107, .cells [(I 0), T, (.int .i32 (.lit (.ofNat 0))), (.int .u32 (.lit (.ofNat 0))), (.chan none)] 155),
     (106, .cells [(I 4611686018427387904), T, (.int .i32 (.lit (.ofNat 0))), (.int .u32 (.lit (.ofNat 0))), (.chan none)] 155),
     (105, .cells [(I 2), T, (.int .i32 (.lit (.ofNat 0))), (.int .u32 (.lit (.ofNat 0))), (.chan none)] 155),
     (104, .cells [(I 4611686018427387904), T, (.int .i32 (.lit (.ofNat 0))), (.int .u32 (.lit (.ofNat 0))), (.chan none)] 155),
     (103, .cells [(I 4), T, (.int .i32 (.lit (.ofNat 0))), (.int .u32 (.lit (.ofNat 0))), (.chan none)] 155),
     (102, .cells [(A 100 0), (A 101 0), (A 103 0), (A 104 0), (.func (.func 67) [] [(A LNcn3 0), (A LNcn4 0)]), (A 105 0), (A 106 0), (.func (.func 72) [] [(A LNcn13 0)]), (A 107 0), (A 108 0), .nilFunc, (A 109 0), (A 110 0), .nilFunc, (A 111 0), (A 112 0), .nilFunc, (A 113 0), (A 114 0), .nilFunc, (A 115 0), (A 116 0), .nilFunc, (A 117 0), (A 118 0), .nilFunc, (A 119 0), (A 120 0), .nilFunc, (A 121 0), (A 122 0), .nilFunc, (A 123 0), (A 124 0), .nilFunc, (A 125 0), (A 126 0), .nilFunc, (A 127 0), (A 128 0), .nilFunc, (A 129 0), (A 130 0), .nilFunc, (A 131 0), (A 132 0), .nilFunc, (A 133 0), (A 134 0), .nilFunc] 72),
     (101, .cells [(I 1), T, (.int .i32 (.lit (.ofNat 0))), (.int .u32 (.lit (.ofNat 0))), (.chan none)] 155),
     (100, .cells [(I 4611686018427387904), T, (.int .i32 (.lit (.ofNat 0))), (.int .u32 (.lit (.ofNat 0))), (.chan none)] 155)], LNcn35, LNcn36⟩⟩
theorem LNcs1 : chunk? Tryz.prog (OB ln3 []) (ext? Tryz.prog (OB ln3 []) tab) (truth 29) 40000 9000 [LNcn1, LNcn0, LNcn11, LNcn2, LNcn12, LNcn13, LNcn5, LNcn15, LNcn18, LNcn17, LNcn16, LNcn14, LNcn19, LNcn20, LNcn4, LNcn3, LNcn8, LNcn22, LNcn25, LNcn24, LNcn23, LNcn21, LNcn26, LNcn9, LNcn10, LNcn6, LNcn28, LNcn31, LNcn30, LNcn29, LNcn27, LNcn7, LNcn32, LNcn34, LNcn33, 136, 135, 134, 133, 132, 131, 130, 129, 128, 127, 126, 125, 124, 123, 122, 121, 120, 119, 118, 117, 116, 115, 114, 113, 112, 111, 110, 109, 108, 107, 106, 105, 104, 103, 102, 101, 100] LNcc0 = .ok LNcc1 := by kernel_rfl
theorem LNcz : lastB? Tryz.prog (OB ln3 []) (ext? Tryz.prog (OB ln3 []) tab) (truth 29) 40000 9000 LNcc1 = true := by kernel_rfl
theorem LNcruns : Runs Tryz.prog (OB ln3 []) (ext? Tryz.prog (OB ln3 []) tab) (truth 29) LNcc0 :=
  (.more _ _ _ _ _ LNcs1 (.last _ _ _ LNcz))
end Go.Proofs.YtmnahfonnljobaaGreatDoor
