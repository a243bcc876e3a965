/-
  A run in pieces. Conditions: none.
-/
import Derived.Test.YtmnahfonnljobaaGreatDoorSxLNcases
set_option maxRecDepth 100000
namespace Go.Proofs.YtmnahfonnljobaaGreatDoor
open Go.Proofs.YtmnahfonnljobaaGreatDoor.SX Go.Proofs.YtmnahfonnljobaaGreatDoor.SX.Short
noncomputable def LNbf : AFrame := ⟨5, 181, (N1 (.int .i64 (.var 1))),
    [.code (pc (bodyOf Tryz.f5) [])],
    [], .run, .normal⟩
noncomputable def LNbc0 : ACfg := ⟨LNbf, [], h0⟩
theorem LNbe : enterA Tryz.prog 5 [(.int .i64 (.var 1))] .normal = .ok LNbf := by kernel_rfl
def LNbn0 : Nat := 3722672019385744198767527067778
def LNbn1 : Nat := 3722672019385744198767527067779
def LNbn2 : Nat := 3722672019385744198767527067775
def LNbn3 : Nat := 1663617333384484686450321784972
def LNbn4 : Nat := 1742826154266226810694481739915
def LNbn5 : Nat := 2614036162555730060300383158407
def LNbn6 : Nat := 1267573228975774065229522010236
def LNbn7 : Nat := 633825300114114700748351602817
def LNbn8 : Nat := 1267582898021291856016172908683
def LNbn9 : Nat := 1267573228975774065229522010250
def LNbn10 : Nat := 1267573228975774065229522010243
def LNbn11 : Nat := 3722672019385744198767527067776
def LNbn12 : Nat := 3485107192922169740524567658623
def LNbn13 : Nat := 2614036162555730060300383158409
def LNbn14 : Nat := 1980452616911453183426961604749
def LNbn15 : Nat := 2614036162555730060300383158406
def LNbn16 : Nat := 1980452616911453183426961604750
def LNbn17 : Nat := 2059650560116987793036139298957
def LNbn18 : Nat := 2297244389733591621863672381578
def LNbn19 : Nat := 1980452616911453183426961604746
def LNbn20 : Nat := 1980452616911453183426961604745
def LNbn21 : Nat := 1267573228975774065229522010257
def LNbn22 : Nat := 1267582898021291856016172908682
def LNbn23 : Nat := 1267573228975774065229522010258
def LNbn24 : Nat := 1267574437606463789077853372561
def LNbn25 : Nat := 1267578063498532960622847459470
def LNbn26 : Nat := 1267573228975774065229522010254
def LNbn27 : Nat := 633825300114114700748351602818
def LNbn28 : Nat := 1267573228975774065229522010235
def LNbn29 : Nat := 633825300114114700748351602819
def LNbn30 : Nat := 713043791221822121308497903746
def LNbn31 : Nat := 950699264544944382988936806527
def LNbn32 : Nat := 633825300114114700748351602816
def LNbn33 : Nat := 79228162514264337593543950471
def LNbn34 : Nat := 316912650057057350374175801476
def LNbn35 : Nat := 3722672019385744198767527067780
def LNbn36 : Nat := 5192296858534827628530496329220096
noncomputable def LNbc1 : ACfg := ⟨⟨85, 19, (N (.ptr none) (N F (N1 Z) (N F L (N1 Z))) (N Z (N F L (N1 Z)) (N (.ptr none) L (N1 Z)))),
    [.inRegion (opsOf (pc (bodyOf Tryz.f85) [1,0])) [7, 8, 9, 10, 11, 12, 13, 14, 15, 16], .code .ret],
    [], .run, .normal⟩,
   [⟨46, 26, (N (A 106 0) (N Z (N Z L (N1 (.ptr none))) (N (I 0) L (N1 (A 106 0)))) (N (.ptr none) (N Z L (N1 F)) L)),
    [.inRegion (opsOf (pc (bodyOf Tryz.f46) [1,1,0,0])) [1], .code (pc (bodyOf Tryz.f46) [1,1,0,1]), .code (pc (bodyOf Tryz.f46) [1,1,1])],
    [], .run, .normal⟩,
    ⟨78, 57, (N (A 102 0) (N (.int .i64 (.var 1)) (N (A LNbn0 0) (N (I 1) (N1 (I 1)) (N (A 102 5) (N1 (I 1)) L)) (N F (N1 (I 2)) (N (I 1) L (N1 (A 102 6))))) (N Z (N (I 2) (N1 F) (N (A 102 2) L (N1 (.ptr none)))) (N (A LNbn1 0) (N1 (.ptr none)) (N (I 1) L (N1 (A 102 2)))))) (N (.ptr none) (N Z (N Z (N1 (A 102 0)) (N1 (A 102 5))) (N (I 0) (N1 (I 2)) (N (A 102 0) L (N1 (A 102 5))))) (N Z (N (I 1) (N1 (I 2)) (N (A 102 0) L (N1 (A 106 0)))) (N F (N1 (A 105 0)) (N T L (N1 (A 102 0))))))),
    [.inRegion (opsOf (pc (bodyOf Tryz.f78) [1,1,1,1,0,1,0,0,1,1,0,0,1,1,1,0])) [8, 9], .code (pc (bodyOf Tryz.f78) [1,1,1,1,0,1,0,0,1,1,0,0,1,1,1,1]), .inBlock 1, .code (pc (bodyOf Tryz.f78) [1,1,1,1,0,1,0,0,1,1,1]), .inLoop (pc (bodyOf Tryz.f78) [1,1,1,1,0,1,0,0]), .inBlock 0, .code (pc (bodyOf Tryz.f78) [1,1,1,1,1])],
    [], .run, .normal⟩,
    ⟨30, 101, (N (A 102 0) (N (.int .i64 (.var 1)) (N (I 0) (N T (N (I 0) (N1 (A 102 2)) (N (.ptr none) L (N1 (A 102 4)))) (N (.ptr none) (N (I 0) L (N1 (.ptr none))) (N (A 102 0) L (N1 (A LNbn2 1))))) (N (A LNbn2 0) (N (A 102 0) (N (A LNbn2 0) L (N1 (I 4))) (N (.int .i64 (.var 1)) L (N1 T))) (N (A 102 0) (N T L (N1 (A 102 2))) (N (I 4611686018427387904) L (N1 (A 103 0)))))) (N Z (N (A 102 2) (N (A 100 0) (N (A 102 0) L (N1 (I 0))) (N (.tuple [(.agg [(I 0), (I 2)]), T]) L (N1 (A 102 2)))) (N (A 102 1) (N F L (N1 (A 102 2))) (N (.int .i64 (.var 1)) L (N1 (A LNbn2 1))))) (N (.int .i64 (.var 1)) (N F (N F L (N1 (I 2))) (N (A 100 0) L (N1 (I 5)))) (N (.int .i64 (.var 1)) (N (.tuple [(.agg [(I 0), (I 2)]), T]) L (N1 (.ptr none))) (N (.int .i64 (.var 1)) L (N1 (A 102 2))))))) (N (.ptr none) (N Z (N (A 102 0) (N (.ptr none) (N (A 102 2) L (N1 (I 1))) (N (A 102 0) L (N1 (A 102 2)))) (N (A 101 0) (N F L (N1 (A 103 0))) (N (A 102 0) L (N1 (I 2))))) (N (I 1) (N (A 102 0) (N (A 102 0) L (N1 (I 6))) (N (.ptr none) L (N1 (I 3)))) (N F (N (.agg [(I 0), (I 2)]) L (N1 Z)) (N (I 0) L (N1 (A 102 2)))))) (N Z (N T (N (A 102 0) (N (I 0) L (N1 Z)) (N Z L (N1 F))) (N (A 102 0) (N T L (N1 (A 102 2))) (N (.int .i64 (.var 1)) L (N1 (.ptr none))))) (N (I 0) (N T (N F L (N1 (A LNbn2 1))) (N (A 102 0) L (N1 (I 2)))) (N F (N (.int .i64 (.var 1)) L (N1 (.func (.func 67) [] [(A LNbn3 0), (A LNbn4 0)]))) (N (I 0) L (N1 (A 102 2)))))))),
    [.inRegion (opsOf (pc (bodyOf Tryz.f30) [1,1,1,1,1,1,1,1,0,0,0,0,0])) [3, 4, 5, 6, 7, 8, 9], .code (pc (bodyOf Tryz.f30) [1,1,1,1,1,1,1,1,0,0,0,0,1]), .inBlock 1, .inLoop (pc (bodyOf Tryz.f30) [1,1,1,1,1,1,1,1,0,0,0]), .inBlock 0, .code (pc (bodyOf Tryz.f30) [1,1,1,1,1,1,1,1,1])],
    [], .run, .normal⟩,
    ⟨5, 181, (N (.int .i64 (.var 1)) (N F (N (.ptr none) (N (.ptr none) (N (.tuple [(.ptr none), (I 2)]) (N F L (N1 F)) (N (I 2) (N1 (.tuple [(A LNbn5 0), (I 0)])) (N F L (N1 F)))) (N Z (N (A 102 0) L (N1 F)) (N (I 2) (N1 (.int .i64 (.var 1))) (N F L (N1 F))))) (N (.ptr none) (N (A LNbn6 0) (N (.tuple [(.ptr none), (I 2)]) L (N1 F)) (N (A LNbn6 0) (N1 (.tuple [(A LNbn5 0), (I 0)])) (N F L (N1 F)))) (N (A LNbn5 0) (N (.tuple [(.ptr none), (I 2)]) (N1 F) (N1 F)) (N (A 102 0) (N1 F) (N1 F))))) (N (A LNbn7 0) (N (.ptr none) (N (A LNbn6 0) (N (I 2) L (N1 (I 2))) (N (.tuple [(.ptr none), (I 2)]) (N1 (A LNbn7 0)) (N (.ptr none) L (N1 F)))) (N Z (N (I 2) L (N (I 2) L (N1 (.int .i64 (.var 1))))) (N (.tuple [(.ptr none), (I 2)]) (N1 (A 102 0)) (N (.ptr none) L (N1 (A LNbn8 0)))))) (N (.ptr none) (N (A 102 0) (N (A LNbn9 0) L (N1 (I 2))) (N (.agg [(.ptr none), (.ptr none), (.ptr none), (.ptr none), .nilFunc, (.ptr none), (.ptr none), .nilFunc, (.ptr none), (.ptr none), .nilFunc, (.ptr none), (.ptr none), .nilFunc, (.ptr none), (.ptr none), .nilFunc, (.ptr none), (.ptr none), .nilFunc, (.ptr none), (.ptr none), .nilFunc, (.ptr none), (.ptr none), .nilFunc, (.ptr none), (.ptr none), .nilFunc, (.ptr none), (.ptr none), .nilFunc, (.ptr none), (.ptr none), .nilFunc, (.ptr none), (.ptr none), .nilFunc, (.ptr none), (.ptr none), .nilFunc, (.ptr none), (.ptr none), .nilFunc, (.ptr none), (.ptr none), .nilFunc, (.ptr none), (.ptr none), .nilFunc]) (N1 (A LNbn8 0)) (N (.ptr none) L (N1 F)))) (N (A LNbn8 0) (N (A LNbn7 0) (N1 (I 0)) (N (I 2) L (N1 F))) (N (I 2) (N1 (I 2)) (N1 (.ptr none))))))) (N Z (N (A LNbn6 0) (N (I 2) (N (.int .i64 (.var 1)) (N (.ptr none) L (N1 F)) (N (.ptr none) (N1 (.int .i64 (.var 1))) (N F L (N1 F)))) (N Z (N (.tuple [(.ptr none), (I 2)]) L (N1 F)) (N (.ptr none) (N1 (A LNbn6 0)) (N F L (N1 F))))) (N (I 2) (N (A LNbn7 0) (N (.int .i64 (.var 1)) L (N1 F)) (N (A LNbn10 0) (N1 (I 0)) (N F L (N1 F)))) (N (I 0) (N (.int .i64 (.var 1)) (N1 (.int .i64 (.var 1))) (N F L (N1 F))) (N (.tuple [(.ptr none), (I 2)]) (N1 F) (N1 F))))) (N (A 102 0) (N (I 2) (N (.tuple [(.ptr none), (I 2)]) (N (.ptr none) L (N1 F)) (N (.int .i64 (.var 1)) (N1 (A 102 0)) (N F L (N1 (I 0))))) (N (I 0) (N (.ptr none) L (N F L (N1 (A 102 0)))) (N (.int .i64 (.var 1)) (N1 (.tuple [(A LNbn8 0), (I 0)])) (N1 F)))) (N (I 2) (N Z (N (.agg [(.ptr none), (.ptr none), (I 0)]) L (N1 F)) (N (.tuple [(.ptr none), (I 2)]) (N1 (.tuple [(A LNbn8 0), (I 0)])) (N F L (N1 (A LNbn5 0))))) (N (I 2) (N (.tuple [(.ptr none), (I 2)]) (N1 (A LNbn5 0)) (N F L (N1 (I 0)))) (N (.ptr none) (N1 F) (N1 F))))))),
    [.inRegion (opsOf (pc (bodyOf Tryz.f5) [1,1,1,1,1,1,1,1,1,1,1,1,1,1,0])) [2, 3, 4, 5, 6, 7], .code (pc (bodyOf Tryz.f5) [1,1,1,1,1,1,1,1,1,1,1,1,1,1,1])],
    [], .run, .normal⟩],
   ⟨[(LNbn1, .cells [(I 0), (I 0)] 126),
     (LNbn0, .cells [(I 0), (I 0)] 126),
     (LNbn11, .cells [(.int .i64 (.var 1))] 131),
     (LNbn2, .cells [(I 0), (I 2)] 126),
     (LNbn12, .cells [(I 1), (I 2)] 126),
     (LNbn13, .cells [(A LNbn5 0)] 64),
     (LNbn5, .cells [(A LNbn14 0), (A LNbn15 0), (I 1)] 77),
     (LNbn15, .cells [(A LNbn16 0), (A LNbn17 0), (.slice (some ⟨(.dyn LNbn18), (.lit (.ofNat 0))⟩) (.lit (.ofNat 65)) (.lit (.ofNat 65)))] 201),
     (LNbn18, .cells [(.ptr none), .nilFunc, (I 0), (.ptr none), (.func (.func 74) [] [(A LNbn19 0), (A LNbn12 0)]), (I 0), (.ptr none), .nilFunc, (I 0), (.ptr none), .nilFunc, (I 0), (.ptr none), .nilFunc, (I 0), (.ptr none), .nilFunc, (I 0), (.ptr none), .nilFunc, (I 0), (.ptr none), .nilFunc, (I 0), (.ptr none), .nilFunc, (I 0), (.ptr none), .nilFunc, (I 0), (.ptr none), .nilFunc, (I 0), (.ptr none), .nilFunc, (I 0), (.ptr none), .nilFunc, (I 0), (.ptr none), .nilFunc, (I 0), (.ptr none), .nilFunc, (I 0), (.ptr none), .nilFunc, (I 0), (.ptr none), .nilFunc, (I 0), (.ptr none), .nilFunc, (I 0), (.ptr none), .nilFunc, (I 0), (.ptr none), .nilFunc, (I 0), (.ptr none), .nilFunc, (I 0), (.ptr none), .nilFunc, (I 0), (.ptr none), .nilFunc, (I 0), (.ptr none), .nilFunc, (I 0), (.ptr none), .nilFunc, (I 0), (.ptr none), .nilFunc, (I 0), (.ptr none), .nilFunc, (I 0), (.ptr none), .nilFunc, (I 0), (.ptr none), .nilFunc, (I 0), (.ptr none), .nilFunc, (I 0), (.ptr none), .nilFunc, (I 0), (.ptr none), .nilFunc, (I 0), (.ptr none), .nilFunc, (I 0), (.ptr none), .nilFunc, (I 0), (.ptr none), .nilFunc, (I 0), (.ptr none), .nilFunc, (I 0), (.ptr none), .nilFunc, (I 0), (.ptr none), .nilFunc, (I 0), (.ptr none), .nilFunc, (I 0), (.ptr none), .nilFunc, (I 0), (.ptr none), .nilFunc, (I 0), (.ptr none), .nilFunc, (I 0), (.ptr none), .nilFunc, (I 0), (.ptr none), .nilFunc, (I 0), (.ptr none), .nilFunc, (I 0), (.ptr none), .nilFunc, (I 0), (.ptr none), .nilFunc, (I 0), (.ptr none), .nilFunc, (I 0), (.ptr none), .nilFunc, (I 0), (.ptr none), .nilFunc, (I 0), (.ptr none), .nilFunc, (I 0), (.ptr none), .nilFunc, (I 0), (.ptr none), .nilFunc, (I 0), (.ptr none), .nilFunc, (I 0), (.ptr none), .nilFunc, (I 0), (.ptr none), .nilFunc, (I 0), (.ptr none), .nilFunc, (I 0), (.ptr none), .nilFunc, (I 0), (.ptr none), .nilFunc, (I 0), (.ptr none), .nilFunc, (I 0), (.ptr none), .nilFunc, (I 0), (.ptr none), .nilFunc, (I 0), (.ptr none), .nilFunc, (I 0), (.ptr none), .nilFunc, (I 0), (.ptr none), .nilFunc, (I 0)] 238),
     (LNbn17, .cells [(I 1), T, (.int .i32 (.lit (.ofNat 0))), (.int .u32 (.lit (.ofNat 0))), (.chan none)] 155),
     (LNbn16, .cells [(I 1), T, (.int .i32 (.lit (.ofNat 0))), (.int .u32 (.lit (.ofNat 0))), (.chan none)] 155),
     (LNbn14, .cells [(I 0), T, (.int .i32 (.lit (.ofNat 0))), (.int .u32 (.lit (.ofNat 0))), (.chan none)] 155),
     (LNbn19, .cells [(A 102 0)] 62),
     (LNbn20, .cells [(I 0), (I 2)] 126),
     (LNbn4, .cells [(.int .i64 (.var 1))] 2),
     (LNbn3, .cells [(A LNbn8 0)] 43),
     (LNbn8, .cells [(A LNbn21 0), (A LNbn22 0), (I 0), (.iface 129 (A LNbn11 0))] 48),
     (LNbn22, .cells [(A LNbn23 0), (A LNbn24 0), (.slice (some ⟨(.dyn LNbn25), (.lit (.ofNat 0))⟩) (.lit (.ofNat 65)) (.lit (.ofNat 65)))] 194),
     (LNbn25, .cells [.nilFunc, (I 0), .nilFunc, (I 0), .nilFunc, (I 0), .nilFunc, (I 0), .nilFunc, (I 0), .nilFunc, (I 0), .nilFunc, (I 0), .nilFunc, (I 0), .nilFunc, (I 0), .nilFunc, (I 0), .nilFunc, (I 0), .nilFunc, (I 0), .nilFunc, (I 0), .nilFunc, (I 0), .nilFunc, (I 0), .nilFunc, (I 0), .nilFunc, (I 0), .nilFunc, (I 0), .nilFunc, (I 0), .nilFunc, (I 0), .nilFunc, (I 0), .nilFunc, (I 0), .nilFunc, (I 0), .nilFunc, (I 0), .nilFunc, (I 0), .nilFunc, (I 0), .nilFunc, (I 0), .nilFunc, (I 0), .nilFunc, (I 0), .nilFunc, (I 0), .nilFunc, (I 0), .nilFunc, (I 0), .nilFunc, (I 0), .nilFunc, (I 0), .nilFunc, (I 0), .nilFunc, (I 0), .nilFunc, (I 0), .nilFunc, (I 0), .nilFunc, (I 0), .nilFunc, (I 0), .nilFunc, (I 0), .nilFunc, (I 0), .nilFunc, (I 0), .nilFunc, (I 0), .nilFunc, (I 0), .nilFunc, (I 0), .nilFunc, (I 0), .nilFunc, (I 0), .nilFunc, (I 0), .nilFunc, (I 0), .nilFunc, (I 0), .nilFunc, (I 0), .nilFunc, (I 0), .nilFunc, (I 0), .nilFunc, (I 0), .nilFunc, (I 0), .nilFunc, (I 0), .nilFunc, (I 0), .nilFunc, (I 0), .nilFunc, (I 0), .nilFunc, (I 0), .nilFunc, (I 0), .nilFunc, (I 0), .nilFunc, (I 0), .nilFunc, (I 0)] 236),
     (LNbn24, .cells [(.int .i64 (.lit (.negSucc 0))), T, (.int .i32 (.lit (.ofNat 0))), (.int .u32 (.lit (.ofNat 0))), (.chan none)] 155),
     (LNbn23, .cells [(I 0), T, (.int .i32 (.lit (.ofNat 0))), (.int .u32 (.lit (.ofNat 0))), (.chan none)] 155),
     (LNbn21, .cells [(I 3), T, (.int .i32 (.lit (.ofNat 0))), (.int .u32 (.lit (.ofNat 0))), (.chan none)] 155),
     (LNbn26, .cells [(A 102 0)] 62),
     (LNbn9, .cells [(.ptr none), (.ptr none), (I 0)] 77),
     (LNbn10, .cells [(.ptr none), (.ptr none), (.ptr none), (.ptr none), .nilFunc, (.ptr none), (.ptr none), .nilFunc, (.ptr none), (.ptr none), .nilFunc, (.ptr none), (.ptr none), .nilFunc, (.ptr none), (.ptr none), .nilFunc, (.ptr none), (.ptr none), .nilFunc, (.ptr none), (.ptr none), .nilFunc, (.ptr none), (.ptr none), .nilFunc, (.ptr none), (.ptr none), .nilFunc, (.ptr none), (.ptr none), .nilFunc, (.ptr none), (.ptr none), .nilFunc, (.ptr none), (.ptr none), .nilFunc, (.ptr none), (.ptr none), .nilFunc, (.ptr none), (.ptr none), .nilFunc, (.ptr none), (.ptr none), .nilFunc, (.ptr none), (.ptr none), .nilFunc] 72),
     (LNbn6, .cells [(A LNbn27 0), (A LNbn28 0), (I 0), .nilIface] 48),
     (LNbn28, .cells [(A LNbn29 0), (A LNbn30 0), (.slice (some ⟨(.dyn LNbn31), (.lit (.ofNat 0))⟩) (.lit (.ofNat 65)) (.lit (.ofNat 65)))] 194),
     (LNbn31, .cells [.nilFunc, (I 0), (.func (.func 68) [] [(A LNbn3 0), (A LNbn26 0), (A LNbn20 0)]), (I 0), .nilFunc, (I 0), .nilFunc, (I 0), .nilFunc, (I 0), .nilFunc, (I 0), .nilFunc, (I 0), .nilFunc, (I 0), .nilFunc, (I 0), .nilFunc, (I 0), .nilFunc, (I 0), .nilFunc, (I 0), .nilFunc, (I 0), .nilFunc, (I 0), .nilFunc, (I 0), .nilFunc, (I 0), .nilFunc, (I 0), .nilFunc, (I 0), .nilFunc, (I 0), .nilFunc, (I 0), .nilFunc, (I 0), .nilFunc, (I 0), .nilFunc, (I 0), .nilFunc, (I 0), .nilFunc, (I 0), .nilFunc, (I 0), .nilFunc, (I 0), .nilFunc, (I 0), .nilFunc, (I 0), .nilFunc, (I 0), .nilFunc, (I 0), .nilFunc, (I 0), .nilFunc, (I 0), .nilFunc, (I 0), .nilFunc, (I 0), .nilFunc, (I 0), .nilFunc, (I 0), .nilFunc, (I 0), .nilFunc, (I 0), .nilFunc, (I 0), .nilFunc, (I 0), .nilFunc, (I 0), .nilFunc, (I 0), .nilFunc, (I 0), .nilFunc, (I 0), .nilFunc, (I 0), .nilFunc, (I 0), .nilFunc, (I 0), .nilFunc, (I 0), .nilFunc, (I 0), .nilFunc, (I 0), .nilFunc, (I 0), .nilFunc, (I 0), .nilFunc, (I 0), .nilFunc, (I 0), .nilFunc, (I 0), .nilFunc, (I 0), .nilFunc, (I 0), .nilFunc, (I 0), .nilFunc, (I 0), .nilFunc, (I 0), .nilFunc, (I 0), .nilFunc, (I 0), .nilFunc, (I 0), .nilFunc, (I 0)] 236),
     (LNbn30, .cells [(I 1), T, (.int .i32 (.lit (.ofNat 0))), (.int .u32 (.lit (.ofNat 0))), (.chan none)] 155),
     (LNbn29, .cells [(I 1), T, (.int .i32 (.lit (.ofNat 0))), (.int .u32 (.lit (.ofNat 0))), (.chan none)] 155),
     (LNbn27, .cells [(I 0), T, (.int .i32 (.lit (.ofNat 0))), (.int .u32 (.lit (.ofNat 0))), (.chan none)] 155),
     (LNbn7, .cells [(A 135 0), (A LNbn32 0), (I 0)] 77),
     (LNbn32, .cells [(A 136 0), (A LNbn33 0), (.slice (some ⟨(.dyn LNbn34), (.lit (.ofNat 0))⟩) (.lit (.ofNat 65)) (.lit (.ofNat 65)))] 201),
     (LNbn34, .cells [(.ptr none), .nilFunc, (I 0), (A LNbn5 0), .nilFunc, (I 0), (.ptr none), .nilFunc, (I 0), (.ptr none), .nilFunc, (I 0), (.ptr none), .nilFunc, (I 0), (.ptr none), .nilFunc, (I 0), (.ptr none), .nilFunc, (I 0), (.ptr none), .nilFunc, (I 0), (.ptr none), .nilFunc, (I 0), (.ptr none), .nilFunc, (I 0), (.ptr none), .nilFunc, (I 0), (.ptr none), .nilFunc, (I 0), (.ptr none), .nilFunc, (I 0), (.ptr none), .nilFunc, (I 0), (.ptr none), .nilFunc, (I 0), (.ptr none), .nilFunc, (I 0), (.ptr none), .nilFunc, (I 0), (.ptr none), .nilFunc, (I 0), (.ptr none), .nilFunc, (I 0), (.ptr none), .nilFunc, (I 0), (.ptr none), .nilFunc, (I 0), (.ptr none), .nilFunc, (I 0), (.ptr none), .nilFunc, (I 0), (.ptr none), .nilFunc, (I 0), (.ptr none), .nilFunc, (I 0), (.ptr none), .nilFunc, (I 0), (.ptr none), .nilFunc, (I 0), (.ptr none), .nilFunc, (I 0), (.ptr none), .nilFunc, (I 0), (.ptr none), .nilFunc, (I 0), (.ptr none), .nilFunc, (I 0), (.ptr none), .nilFunc, (I 0), (.ptr none), .nilFunc, (I 0), (.ptr none), .nilFunc, (I 0), (.ptr none), .nilFunc, (I 0), (.ptr none), .nilFunc, (I 0), (.ptr none), .nilFunc, (I 0), (.ptr none), .nilFunc, (I 0), (.ptr none), .nilFunc, (I 0), (.ptr none), .nilFunc, (I 0), (.ptr none), .nilFunc, (I 0), (.ptr none), .nilFunc, (I 0), (.ptr none), .nilFunc, (I 0), (.ptr none), .nilFunc, (I 0), (.ptr none), .nilFunc, (I 0), (.ptr none), .nilFunc, (I 0), (.ptr none), .nilFunc, (I 0), (.ptr none), .nilFunc, (I 0), (.ptr none), .nilFunc, (I 0), (.ptr none), .nilFunc, (I 0), (.ptr none), .nilFunc, (I 0), (.ptr none), .nilFunc, (I 0), (.ptr none), .nilFunc, (I 0), (.ptr none), .nilFunc, (I 0), (.ptr none), .nilFunc, (I 0), (.ptr none), .nilFunc, (I 0), (.ptr none), .nilFunc, (I 0), (.ptr none), .nilFunc, (I 0), (.ptr none), .nilFunc, (I 0), (.ptr none), .nilFunc, (I 0), (.ptr none), .nilFunc, (I 0), (.ptr none), .nilFunc, (I 0), (.ptr none), .nilFunc, (I 0), (.ptr none), .nilFunc, (I 0), (.ptr none), .nilFunc, (I 0)] 238),
     (LNbn33, .cells [(I 1), T, (.int .i32 (.lit (.ofNat 0))), (.int .u32 (.lit (.ofNat 0))), (.chan none)] 155),
     (136, .cells [(I 1), T, (.int .i32 (.lit (.ofNat 0))), (.int .u32 (.lit (.ofNat 0))), (.chan none)] 155),
     (135, .cells [(I 0), T, (.int .i32 (.lit (.ofNat 0))), (.int .u32 (.lit (.ofNat 0))), (.chan none)] 155),
     (134, .cells [(I 0), T, (.int .i32 (.lit (.ofNat 0))), (.int .u32 (.lit (.ofNat 0))), (.chan none)] 155),
     (133, .cells [(I 0), T, (.int .i32 (.lit (.ofNat 0))), (.int .u32 (.lit (.ofNat 0))), (.chan none)] 155),
     (132, .cells [(I 0), T, (.int .i32 (.lit (.ofNat 0))), (.int .u32 (.lit (.ofNat 0))), (.chan none)] 155),
     (131, .cells [(I 0), T, (.int .i32 (.lit (.ofNat 0))), (.int .u32 (.lit (.ofNat 0))), (.chan none)] 155),
     (130, .cells [(I 0), T, (.int .i32 (.lit (.ofNat 0))), (.int .u32 (.lit (.ofNat 0))), (.chan none)] 155),
     (129, .cells [(I 0), T, (.int .i32 (.lit (.ofNat 0))), (.int .u32 (.lit (.ofNat 0))), (.chan none)] 155),
     (128, .cells [(I 0), T, (.int .i32 (.lit (.ofNat 0))), (.int .u32 (.lit (.ofNat 0))), (.chan none)] 155),
     (127, .cells [(I 0), T, (.int .i32 (.lit (.ofNat 0))), (.int .u32 (.lit (.ofNat 0))), (.chan none)] 155),
     (126, .cells [(I 0), T, (.int .i32 (.lit (.ofNat 0))), (.int .u32 (.lit (.ofNat 0))), (.chan none)] 155),
     (125, .cells [(I 0), T, (.int .i32 (.lit (.ofNat 0))), (.int .u32 (.lit (.ofNat 0))), (.chan none)] 155),
     (124, .cells [(I 0), T, (.int .i32 (.lit (.ofNat 0))), (.int .u32 (.lit (.ofNat 0))), (.chan none)] 155),
     (123, .cells [(I 0), T, (.int .i32 (.lit (.ofNat 0))), (.int .u32 (.lit (.ofNat 0))), (.chan none)] 155),
     (122, .cells [(I 0), T, (.int .i32 (.lit (.ofNat 0))), (.int .u32 (.lit (.ofNat 0))), (.chan none)] 155),
     (121, .cells [(I 0), T, (.int .i32 (.lit (.ofNat 0))), (.int .u32 (.lit (.ofNat 0))), (.chan none)] 155),
     (120, .cells [(I 0), T, (.int .i32 (.lit (.ofNat 0))), (.int .u32 (.lit (.ofNat 0))), (.chan none)] 155),
     (119, .cells [(I 0), T, (.int .i32 (.lit (.ofNat 0))), (.int .u32 (.lit (.ofNat 0))), (.chan none)] 155),
     (118, .cells [(I 0), T, (.int .i32 (.lit (.ofNat 0))), (.int .u32 (.lit (.ofNat 0))), (.chan none)] 155),
     (117, .cells [(I 0), T, (.int .i32 (.lit (.ofNat 0))), (.int .u32 (.lit (.ofNat 0))), (.chan none)] 155),
     (116, .cells [(I 0), T, (.int .i32 (.lit (.ofNat 0))), (.int .u32 (.lit (.ofNat 0))), (.chan none)] 155),
     (115, .cells [(I 0), T, (.int .i32 (.lit (.ofNat 0))), (.int .u32 (.lit (.ofNat 0))), (.chan none)] 155),
     (114, .cells [(I 0), T, (.int .i32 (.lit (.ofNat 0))), (.int .u32 (.lit (.ofNat 0))), (.chan none)] 155),
     (113, .cells [(I 0), T, (.int .i32 (.lit (.ofNat 0))), (.int .u32 (.lit (.ofNat 0))), (.chan none)] 155),
     (112, .cells [(I 0), T, (.int .i32 (.lit (.ofNat 0))), (.int .u32 (.lit (.ofNat 0))), (.chan none)] 155),
     (111, .cells [(I 0), T, (.int .i32 (.lit (.ofNat 0))), (.int .u32 (.lit (.ofNat 0))), (.chan none)] 155),
     (110, .cells [(I 0), T, (.int .i32 (.lit (.ofNat 0))), (.int .u32 (.lit (.ofNat 0))), (.chan none)] 155),
     (109, .cells [(I 0), T, (.int .i32 (.lit (.ofNat 0))), (.int .u32 (.lit (.ofNat 0))), (.chan none)] 155),
     (108, .cells [(I 0), T, (.int .i32 (.lit (.ofNat 0))), (.int .u32 (.lit (.ofNat 0))), (.chan none)] 155),
     (107, .cells [(I 0), T, (.int .i32 (.lit (.ofNat 0))), (.int .u32 (.lit (.ofNat 0))), (.chan none)] 155),
     (106, .cells [(.int .i64 (.var 1)), T, (.int .i32 (.lit (.ofNat 0))), (.int .u32 (.lit (.ofNat 0))), (.chan none)] 155),
     (105, .cells [(I 2), T, (.int .i32 (.lit (.ofNat 0))), (.int .u32 (.lit (.ofNat 0))), (.chan none)] 155),
     (104, .cells [(.int .i64 (.var 1)), T, (.int .i32 (.lit (.ofNat 0))), (.int .u32 (.lit (.ofNat 0))), (.chan none)] 155),
     (103, .cells [(I 4), T, (.int .i32 (.lit (.ofNat 0))), (.int .u32 (.lit (.ofNat 0))), (.chan none)] 155),
     (102, .cells [(A 100 0), (A 101 0), (A 103 0), (A 104 0), (.func (.func 67) [] [(A LNbn3 0), (A LNbn4 0)]), (A 105 0), (A 106 0), (.func (.func 72) [] [(A LNbn13 0)]), (A 107 0), (A 108 0), .nilFunc, (A 109 0), (A 110 0), .nilFunc, (A 111 0), (A 112 0), .nilFunc, (A 113 0), (A 114 0), .nilFunc, (A 115 0), (A 116 0), .nilFunc, (A 117 0), (A 118 0), .nilFunc, (A 119 0), (A 120 0), .nilFunc, (A 121 0), (A 122 0), .nilFunc, (A 123 0), (A 124 0), .nilFunc, (A 125 0), (A 126 0), .nilFunc, (A 127 0), (A 128 0), .nilFunc, (A 129 0), (A 130 0), .nilFunc, (A 131 0), (A 132 0), .nilFunc, (A 133 0), (A 134 0), .nilFunc] 72),
     (101, .cells [(I 1), T, (.int .i32 (.lit (.ofNat 0))), (.int .u32 (.lit (.ofNat 0))), (.chan none)] 155),
     (100, .cells [(.int .i64 (.var 1)), T, (.int .i32 (.lit (.ofNat 0))), (.int .u32 (.lit (.ofNat 0))), (.chan none)] 155)], LNbn35, LNbn36⟩⟩
theorem LNbs1 : chunk? Tryz.prog (OB ln2 ln2i) (ext? Tryz.prog (OB ln2 ln2i) tab) (truth 29) 40000 9000 [LNbn1, LNbn0, LNbn11, LNbn2, LNbn12, LNbn13, LNbn5, LNbn15, LNbn18, LNbn17, LNbn16, LNbn14, LNbn19, LNbn20, LNbn4, LNbn3, LNbn8, LNbn22, LNbn25, LNbn24, LNbn23, LNbn21, LNbn26, LNbn9, LNbn10, LNbn6, LNbn28, LNbn31, LNbn30, LNbn29, LNbn27, LNbn7, LNbn32, LNbn34, LNbn33, 136, 135, 134, 133, 132, 131, 130, 129, 128, 127, 126, 125, 124, 123, 122, 121, 120, 119, 118, 117, 116, 115, 114, 113, 112, 111, 110, 109, 108, 107, 106, 105, 104, 103, 102, 101, 100] LNbc0 = .ok LNbc1 := by kernel_rfl
theorem LNbz : lastB? Tryz.prog (OB ln2 ln2i) (ext? Tryz.prog (OB ln2 ln2i) tab) (truth 29) 40000 9000 LNbc1 = true := by kernel_rfl
theorem LNbruns : Runs Tryz.prog (OB ln2 ln2i) (ext? Tryz.prog (OB ln2 ln2i) tab) (truth 29) LNbc0 :=
  (.more _ _ _ _ _ LNbs1 (.last _ _ _ LNbz))
end Go.Proofs.YtmnahfonnljobaaGreatDoor
