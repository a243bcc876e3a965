/-
  A run in pieces. Conditions: none.
-/
import Derived.Test.YtmnahfonnljobaaGreatDoorSxLNcases
set_option maxRecDepth 100000
namespace Go.Proofs.YtmnahfonnljobaaGreatDoor
open Go.Proofs.YtmnahfonnljobaaGreatDoor.SX Go.Proofs.YtmnahfonnljobaaGreatDoor.SX.Short
noncomputable def LNwf : AFrame := ⟨29, 87, L,
    [.code (pc (bodyOf Tryz.f29) [])],
    [], .run, .normal⟩
noncomputable def LNwc0 : ACfg := ⟨LNwf, [], h0⟩
theorem LNwe : enterA Tryz.prog 29 [] .normal = .ok LNwf := by kernel_rfl
def LNwn0 : Nat := 5068498142934802970650878599272
def LNwn1 : Nat := 5068498142934802970650878599273
def LNwn2 : Nat := 633825300114114700748351602817
def LNwn3 : Nat := 1980462284629129640288486162550
def LNwn4 : Nat := 1267582898021291856016172908666
def LNwn5 : Nat := 1267573228975774065229522010236
def LNwn6 : Nat := 3960149847011502406598532268141
def LNwn7 : Nat := 3326730641946453435029261385839
def LNwn8 : Nat := 4830994936665524278353947242597
def LNwn9 : Nat := 3960149847011502406598532268143
def LNwn10 : Nat := 3326730641946453435029261385843
def LNwn11 : Nat := 3960149847011502406598532268140
def LNwn12 : Nat := 3326730641946453435029261385844
def LNwn13 : Nat := 3405908042579584556475420246131
def LNwn14 : Nat := 3643440244478977920813896826992
def LNwn15 : Nat := 3326730641946453435029261385840
def LNwn16 : Nat := 2693234105761264669909560852597
def LNwn17 : Nat := 3326730641946453435029261385838
def LNwn18 : Nat := 2693234105761264669909560852598
def LNwn19 : Nat := 2772421172784413265549523419253
def LNwn20 : Nat := 3009982373853859052469411119218
def LNwn21 : Nat := 2693234105761264669909560852596
def LNwn22 : Nat := 2455640276144660841082027769974
def LNwn23 : Nat := 2376442332939126231472850075767
def LNwn24 : Nat := 1980452616911453183426961604732
def LNwn25 : Nat := 1980462284629129640288486162549
def LNwn26 : Nat := 1980452616911453183426961604733
def LNwn27 : Nat := 1980453825376162740534652174460
def LNwn28 : Nat := 1980457450770291411857723883641
def LNwn29 : Nat := 1980452616911453183426961604729
def LNwn30 : Nat := 1980452616911453183426961604728
def LNwn31 : Nat := 1742826154266226810694481739898
def LNwn32 : Nat := 1663617333384484686450321784955
def LNwn33 : Nat := 1267573228975774065229522010240
def LNwn34 : Nat := 1267582898021291856016172908665
def LNwn35 : Nat := 1267573228975774065229522010241
def LNwn36 : Nat := 1267574437606463789077853372544
def LNwn37 : Nat := 1267578063498532960622847459453
def LNwn38 : Nat := 1267573228975774065229522010237
def LNwn39 : Nat := 633825300114114700748351602818
def LNwn40 : Nat := 1267573228975774065229522010235
def LNwn41 : Nat := 633825300114114700748351602819
def LNwn42 : Nat := 713043791221822121308497903746
def LNwn43 : Nat := 950699264544944382988936806527
def LNwn44 : Nat := 633825300114114700748351602816
def LNwn45 : Nat := 79228162514264337593543950471
def LNwn46 : Nat := 316912650057057350374175801476
def LNwn47 : Nat := 5068498142934802970650878599274
def LNwn48 : Nat := 5192296858534827628530496329220096
noncomputable def LNwc1 : ACfg := ⟨⟨46, 26, (N (A 119 0) (N Z (N Z (N Z L (N1 (A 119 0))) (N1 (.ptr none))) (N (I 0) L (N1 (A 119 0)))) (N (.ptr none) (N Z L (N1 F)) (N Z (N1 F) (N Z (N1 (A 119 0)) L)))),
    [.inRegion (opsOf (pc (bodyOf Tryz.f46) [1,1,1,0])) [2, 3, 4], .code .ret],
    [], .run, .normal⟩,
   [⟨78, 57, (N (A 102 0) (N (I 9) (N (A LNwn0 0) (N (I 8) (N (I 2) L (N1 (I 3))) (N (A 102 26) (N1 (I 8)) (N1 (I 4)))) (N T (N (I 0) L (N1 T)) (N (I 8) (N1 (I 1)) (N1 (A 102 9))))) (N Z (N (I 0) (N T L (N1 F)) (N (A 102 2) (N1 (.agg [(I 1), (I 2)])) (N1 (.ptr none)))) (N (A LNwn1 0) (N (.ptr none) L (N1 T)) (N (I 8) (N1 F) (N1 (A 102 2)))))) (N (.ptr none) (N Z (N (I 4) (N (A 102 0) L (N1 (I 4))) (N (A 102 26) (N1 (I 3)) (N1 (I 4)))) (N (I 3) (N (I 0) L (N1 T)) (N (A 102 0) (N1 F) (N1 (A 102 8))))) (N Z (N (I 8) (N (I 0) L (N1 F)) (N (A 102 0) (N1 (I 2)) (N1 (A 108 0)))) (N F (N (A 119 0) L (N1 (I 9))) (N T (N1 F) (N1 (A 102 0))))))),
    [.inRegion (opsOf (pc (bodyOf Tryz.f78) [1,1,1,1,0,1,0,0,1,1,0,0,1,0])) [8, 9], .code (pc (bodyOf Tryz.f78) [1,1,1,1,0,1,0,0,1,1,0,0,1,1]), .inBlock 1, .code (pc (bodyOf Tryz.f78) [1,1,1,1,0,1,0,0,1,1,1]), .inLoop (pc (bodyOf Tryz.f78) [1,1,1,1,0,1,0,0]), .inBlock 0, .code (pc (bodyOf Tryz.f78) [1,1,1,1,1])],
    [], .run, .normal⟩,
    ⟨30, 101, (N (A 102 0) (N (I 9) (N (I 0) (N T (N (I 0) L (N1 (.ptr none))) (N (.ptr none) L (N1 (A 102 0)))) (N Z (N (A 102 0) L (N1 (I 9))) (N (A 102 0) L (N1 (I 4611686018427387904))))) (N Z (N Z (N1 (A 100 0)) (N (A 102 1) L (N1 (I 9)))) (N (I 9) (N F L (N1 (A 100 0))) (N (I 9) L (N1 (I 9)))))) (N (.ptr none) (N Z (N (A 102 0) (N (.ptr none) L (N1 (A 102 0))) (N (A 101 0) L (N1 (A 102 0)))) (N (I 0) (N (A 102 0) L (N1 (.ptr none))) (N F L (N1 (I 0))))) (N Z (N Z (N (A 102 0) L (N1 Z)) (N (A 102 0) L (N1 (I 9)))) (N (I 0) (N T L (N1 (A 102 0))) (N F (N1 (I 9)) (N1 (I 0))))))),
    [.inRegion (opsOf (pc (bodyOf Tryz.f30) [1,1,1,1,1,1,1,1,0,0,0,0,0])) [3, 4, 5, 6, 7, 8, 9], .code (pc (bodyOf Tryz.f30) [1,1,1,1,1,1,1,1,0,0,0,0,1]), .inBlock 1, .inLoop (pc (bodyOf Tryz.f30) [1,1,1,1,1,1,1,1,0,0,0]), .inBlock 0, .code (pc (bodyOf Tryz.f30) [1,1,1,1,1,1,1,1,1])],
    [], .run, .normal⟩,
    ⟨29, 87, (N F (N (A LNwn2 0) (N (A LNwn3 0) (N Z (N (I 0) L (N1 F)) (N (.tuple [(A LNwn4 0), (I 0)]) L (N1 F))) (N Z (N (A 102 0) L (N1 F)) (N (A LNwn5 0) (N1 F) (N1 (.tuple [(A LNwn6 0), (I 0)]))))) (N (A LNwn4 0) (N Z (N (.tuple [(A LNwn3 0), (I 0)]) L (N1 (I 0))) (N (A 102 0) L (N1 (I 0)))) (N (A LNwn6 0) (N (I 0) L (N1 (I 0))) (N (A 102 0) (N1 (A LNwn2 0)) (N1 (A 102 0)))))) (N (A 102 0) (N (I 0) (N Z (N (A LNwn3 0) L (N1 F)) (N (A LNwn2 0) (N1 (A 102 0)) (N1 (I 0)))) (N (I 0) (N (.tuple [(A LNwn3 0), (I 0)]) L (N1 F)) (N (A LNwn2 0) (N1 T) (N1 (A LNwn7 0))))) (N (A LNwn5 0) (N Z (N (A LNwn5 0) L (N1 F)) (N (.tuple [(A LNwn4 0), (I 0)]) (N1 F) (N1 (A LNwn6 0)))) (N (I 0) (N (A LNwn4 0) L (N1 F)) (N Z (N1 F) (N1 (.tuple [(A LNwn6 0), (I 0)]))))))),
    [.inRegion (opsOf (pc (bodyOf Tryz.f29) [1,1,1,1,1,1,1,1,0])) [1, 2, 3, 4, 5, 6], .code (pc (bodyOf Tryz.f29) [1,1,1,1,1,1,1,1,1])],
    [], .run, .normal⟩],
   ⟨[(LNwn1, .cells [(I 1), (I 2)] 126),
     (LNwn0, .cells [(I 0), (I 0)] 126),
     (LNwn8, .cells [(I 2), (I 2)] 126),
     (LNwn9, .cells [(A LNwn6 0)] 64),
     (LNwn6, .cells [(A LNwn10 0), (A LNwn11 0), (I 1)] 77),
     (LNwn11, .cells [(A LNwn12 0), (A LNwn13 0), (.slice (some ⟨(.dyn LNwn14), (.lit (.ofNat 0))⟩) (.lit (.ofNat 65)) (.lit (.ofNat 65)))] 201),
     (LNwn14, .cells [(.ptr none), .nilFunc, (I 0), (.ptr none), (.func (.func 74) [] [(A LNwn15 0), (A LNwn8 0)]), (I 0), (.ptr none), .nilFunc, (I 0), (.ptr none), .nilFunc, (I 0), (.ptr none), .nilFunc, (I 0), (.ptr none), .nilFunc, (I 0), (.ptr none), .nilFunc, (I 0), (.ptr none), .nilFunc, (I 0), (.ptr none), .nilFunc, (I 0), (.ptr none), .nilFunc, (I 0), (.ptr none), .nilFunc, (I 0), (.ptr none), .nilFunc, (I 0), (.ptr none), .nilFunc, (I 0), (.ptr none), .nilFunc, (I 0), (.ptr none), .nilFunc, (I 0), (.ptr none), .nilFunc, (I 0), (.ptr none), .nilFunc, (I 0), (.ptr none), .nilFunc, (I 0), (.ptr none), .nilFunc, (I 0), (.ptr none), .nilFunc, (I 0), (.ptr none), .nilFunc, (I 0), (.ptr none), .nilFunc, (I 0), (.ptr none), .nilFunc, (I 0), (.ptr none), .nilFunc, (I 0), (.ptr none), .nilFunc, (I 0), (.ptr none), .nilFunc, (I 0), (.ptr none), .nilFunc, (I 0), (.ptr none), .nilFunc, (I 0), (.ptr none), .nilFunc, (I 0), (.ptr none), .nilFunc, (I 0), (.ptr none), .nilFunc, (I 0), (.ptr none), .nilFunc, (I 0), (.ptr none), .nilFunc, (I 0), (.ptr none), .nilFunc, (I 0), (.ptr none), .nilFunc, (I 0), (.ptr none), .nilFunc, (I 0), (.ptr none), .nilFunc, (I 0), (.ptr none), .nilFunc, (I 0), (.ptr none), .nilFunc, (I 0), (.ptr none), .nilFunc, (I 0), (.ptr none), .nilFunc, (I 0), (.ptr none), .nilFunc, (I 0), (.ptr none), .nilFunc, (I 0), (.ptr none), .nilFunc, (I 0), (.ptr none), .nilFunc, (I 0), (.ptr none), .nilFunc, (I 0), (.ptr none), .nilFunc, (I 0), (.ptr none), .nilFunc, (I 0), (.ptr none), .nilFunc, (I 0), (.ptr none), .nilFunc, (I 0), (.ptr none), .nilFunc, (I 0), (.ptr none), .nilFunc, (I 0), (.ptr none), .nilFunc, (I 0), (.ptr none), .nilFunc, (I 0), (.ptr none), .nilFunc, (I 0), (.ptr none), .nilFunc, (I 0), (.ptr none), .nilFunc, (I 0), (.ptr none), .nilFunc, (I 0), (.ptr none), .nilFunc, (I 0), (.ptr none), .nilFunc, (I 0), (.ptr none), .nilFunc, (I 0), (.ptr none), .nilFunc, (I 0), (.ptr none), .nilFunc, (I 0), (.ptr none), .nilFunc, (I 0), (.ptr none), .nilFunc, (I 0)] 238),
     (LNwn13, .cells [(I 1), T, (.int .i32 (.lit (.ofNat 0))), (.int .u32 (.lit (.ofNat 0))), (.chan none)] 155),
     (LNwn12, .cells [(I 1), T, (.int .i32 (.lit (.ofNat 0))), (.int .u32 (.lit (.ofNat 0))), (.chan none)] 155),
     (LNwn10, .cells [(I 0), T, (.int .i32 (.lit (.ofNat 0))), (.int .u32 (.lit (.ofNat 0))), (.chan none)] 155),
     (LNwn15, .cells [(A 102 0)] 62),
     (LNwn7, .cells [(A LNwn16 0), (A LNwn17 0), (I 0)] 77),
     (LNwn17, .cells [(A LNwn18 0), (A LNwn19 0), (.slice (some ⟨(.dyn LNwn20), (.lit (.ofNat 0))⟩) (.lit (.ofNat 65)) (.lit (.ofNat 65)))] 201),
     (LNwn20, .cells [(.ptr none), .nilFunc, (I 0), (A LNwn6 0), .nilFunc, (I 0), (.ptr none), .nilFunc, (I 0), (.ptr none), .nilFunc, (I 0), (.ptr none), .nilFunc, (I 0), (.ptr none), .nilFunc, (I 0), (.ptr none), .nilFunc, (I 0), (.ptr none), .nilFunc, (I 0), (.ptr none), .nilFunc, (I 0), (.ptr none), .nilFunc, (I 0), (.ptr none), .nilFunc, (I 0), (.ptr none), .nilFunc, (I 0), (.ptr none), .nilFunc, (I 0), (.ptr none), .nilFunc, (I 0), (.ptr none), .nilFunc, (I 0), (.ptr none), .nilFunc, (I 0), (.ptr none), .nilFunc, (I 0), (.ptr none), .nilFunc, (I 0), (.ptr none), .nilFunc, (I 0), (.ptr none), .nilFunc, (I 0), (.ptr none), .nilFunc, (I 0), (.ptr none), .nilFunc, (I 0), (.ptr none), .nilFunc, (I 0), (.ptr none), .nilFunc, (I 0), (.ptr none), .nilFunc, (I 0), (.ptr none), .nilFunc, (I 0), (.ptr none), .nilFunc, (I 0), (.ptr none), .nilFunc, (I 0), (.ptr none), .nilFunc, (I 0), (.ptr none), .nilFunc, (I 0), (.ptr none), .nilFunc, (I 0), (.ptr none), .nilFunc, (I 0), (.ptr none), .nilFunc, (I 0), (.ptr none), .nilFunc, (I 0), (.ptr none), .nilFunc, (I 0), (.ptr none), .nilFunc, (I 0), (.ptr none), .nilFunc, (I 0), (.ptr none), .nilFunc, (I 0), (.ptr none), .nilFunc, (I 0), (.ptr none), .nilFunc, (I 0), (.ptr none), .nilFunc, (I 0), (.ptr none), .nilFunc, (I 0), (.ptr none), .nilFunc, (I 0), (.ptr none), .nilFunc, (I 0), (.ptr none), .nilFunc, (I 0), (.ptr none), .nilFunc, (I 0), (.ptr none), .nilFunc, (I 0), (.ptr none), .nilFunc, (I 0), (.ptr none), .nilFunc, (I 0), (.ptr none), .nilFunc, (I 0), (.ptr none), .nilFunc, (I 0), (.ptr none), .nilFunc, (I 0), (.ptr none), .nilFunc, (I 0), (.ptr none), .nilFunc, (I 0), (.ptr none), .nilFunc, (I 0), (.ptr none), .nilFunc, (I 0), (.ptr none), .nilFunc, (I 0), (.ptr none), .nilFunc, (I 0), (.ptr none), .nilFunc, (I 0), (.ptr none), .nilFunc, (I 0), (.ptr none), .nilFunc, (I 0), (.ptr none), .nilFunc, (I 0), (.ptr none), .nilFunc, (I 0), (.ptr none), .nilFunc, (I 0), (.ptr none), .nilFunc, (I 0)] 238),
     (LNwn19, .cells [(I 1), T, (.int .i32 (.lit (.ofNat 0))), (.int .u32 (.lit (.ofNat 0))), (.chan none)] 155),
     (LNwn18, .cells [(I 1), T, (.int .i32 (.lit (.ofNat 0))), (.int .u32 (.lit (.ofNat 0))), (.chan none)] 155),
     (LNwn16, .cells [(I 0), T, (.int .i32 (.lit (.ofNat 0))), (.int .u32 (.lit (.ofNat 0))), (.chan none)] 155),
     (LNwn21, .cells [(I 1), (I 2)] 126),
     (LNwn22, .cells [(I 3)] 2),
     (LNwn23, .cells [(A LNwn3 0)] 43),
     (LNwn3, .cells [(A LNwn24 0), (A LNwn25 0), (I 0), .nilIface] 48),
     (LNwn25, .cells [(A LNwn26 0), (A LNwn27 0), (.slice (some ⟨(.dyn LNwn28), (.lit (.ofNat 0))⟩) (.lit (.ofNat 65)) (.lit (.ofNat 65)))] 194),
     (LNwn28, .cells [.nilFunc, (I 0), .nilFunc, (I 0), .nilFunc, (I 0), .nilFunc, (I 0), .nilFunc, (I 0), .nilFunc, (I 0), .nilFunc, (I 0), .nilFunc, (I 0), .nilFunc, (I 0), .nilFunc, (I 0), .nilFunc, (I 0), .nilFunc, (I 0), .nilFunc, (I 0), .nilFunc, (I 0), .nilFunc, (I 0), .nilFunc, (I 0), .nilFunc, (I 0), .nilFunc, (I 0), .nilFunc, (I 0), .nilFunc, (I 0), .nilFunc, (I 0), .nilFunc, (I 0), .nilFunc, (I 0), .nilFunc, (I 0), .nilFunc, (I 0), .nilFunc, (I 0), .nilFunc, (I 0), .nilFunc, (I 0), .nilFunc, (I 0), .nilFunc, (I 0), .nilFunc, (I 0), .nilFunc, (I 0), .nilFunc, (I 0), .nilFunc, (I 0), .nilFunc, (I 0), .nilFunc, (I 0), .nilFunc, (I 0), .nilFunc, (I 0), .nilFunc, (I 0), .nilFunc, (I 0), .nilFunc, (I 0), .nilFunc, (I 0), .nilFunc, (I 0), .nilFunc, (I 0), .nilFunc, (I 0), .nilFunc, (I 0), .nilFunc, (I 0), .nilFunc, (I 0), .nilFunc, (I 0), .nilFunc, (I 0), .nilFunc, (I 0), .nilFunc, (I 0), .nilFunc, (I 0), .nilFunc, (I 0), .nilFunc, (I 0), .nilFunc, (I 0), .nilFunc, (I 0), .nilFunc, (I 0), .nilFunc, (I 0), .nilFunc, (I 0), .nilFunc, (I 0), .nilFunc, (I 0), .nilFunc, (I 0), .nilFunc, (I 0), .nilFunc, (I 0)] 236),
     (LNwn27, .cells [(I 0), T, (.int .i32 (.lit (.ofNat 0))), (.int .u32 (.lit (.ofNat 0))), (.chan none)] 155),
     (LNwn26, .cells [(I 0), T, (.int .i32 (.lit (.ofNat 0))), (.int .u32 (.lit (.ofNat 0))), (.chan none)] 155),
     (LNwn24, .cells [(I 0), T, (.int .i32 (.lit (.ofNat 0))), (.int .u32 (.lit (.ofNat 0))), (.chan none)] 155),
     (LNwn29, .cells [(A 102 0)] 62),
     (LNwn30, .cells [(I 0), (I 2)] 126),
     (LNwn31, .cells [(I 3)] 2),
     (LNwn32, .cells [(A LNwn4 0)] 43),
     (LNwn4, .cells [(A LNwn33 0), (A LNwn34 0), (I 5), .nilIface] 48),
     (LNwn34, .cells [(A LNwn35 0), (A LNwn36 0), (.slice (some ⟨(.dyn LNwn37), (.lit (.ofNat 0))⟩) (.lit (.ofNat 65)) (.lit (.ofNat 65)))] 194),
     (LNwn37, .cells [.nilFunc, (I 0), .nilFunc, (I 0), .nilFunc, (I 0), .nilFunc, (I 0), .nilFunc, (I 0), .nilFunc, (I 0), .nilFunc, (I 0), .nilFunc, (I 0), .nilFunc, (I 0), .nilFunc, (I 0), .nilFunc, (I 0), .nilFunc, (I 0), .nilFunc, (I 0), .nilFunc, (I 0), .nilFunc, (I 0), .nilFunc, (I 0), .nilFunc, (I 0), .nilFunc, (I 0), .nilFunc, (I 0), .nilFunc, (I 0), .nilFunc, (I 0), .nilFunc, (I 0), .nilFunc, (I 0), .nilFunc, (I 0), .nilFunc, (I 0), .nilFunc, (I 0), .nilFunc, (I 0), .nilFunc, (I 0), .nilFunc, (I 0), .nilFunc, (I 0), .nilFunc, (I 0), .nilFunc, (I 0), .nilFunc, (I 0), .nilFunc, (I 0), .nilFunc, (I 0), .nilFunc, (I 0), .nilFunc, (I 0), .nilFunc, (I 0), .nilFunc, (I 0), .nilFunc, (I 0), .nilFunc, (I 0), .nilFunc, (I 0), .nilFunc, (I 0), .nilFunc, (I 0), .nilFunc, (I 0), .nilFunc, (I 0), .nilFunc, (I 0), .nilFunc, (I 0), .nilFunc, (I 0), .nilFunc, (I 0), .nilFunc, (I 0), .nilFunc, (I 0), .nilFunc, (I 0), .nilFunc, (I 0), .nilFunc, (I 0), .nilFunc, (I 0), .nilFunc, (I 0), .nilFunc, (I 0), .nilFunc, (I 0), .nilFunc, (I 0), .nilFunc, (I 0), .nilFunc, (I 0), .nilFunc, (I 0), .nilFunc, (I 0), .nilFunc, (I 0)] 236),
     (LNwn36, .cells [(.int .i64 (.lit (.negSucc 0))), T, (.int .i32 (.lit (.ofNat 0))), (.int .u32 (.lit (.ofNat 0))), (.chan none)] 155),
     (LNwn35, .cells [(I 0), T, (.int .i32 (.lit (.ofNat 0))), (.int .u32 (.lit (.ofNat 0))), (.chan none)] 155),
     (LNwn33, .cells [(I 2), T, (.int .i32 (.lit (.ofNat 0))), (.int .u32 (.lit (.ofNat 0))), (.chan none)] 155),
     (LNwn38, .cells [(A 102 0)] 62),
     (LNwn5, .cells [(A LNwn39 0), (A LNwn40 0), (I 0), .nilIface] 48),
     (LNwn40, .cells [(A LNwn41 0), (A LNwn42 0), (.slice (some ⟨(.dyn LNwn43), (.lit (.ofNat 0))⟩) (.lit (.ofNat 65)) (.lit (.ofNat 65)))] 194),
     (LNwn43, .cells [.nilFunc, (I 0), (.func (.func 68) [] [(A LNwn23 0), (A LNwn29 0), (A LNwn21 0)]), (I 0), .nilFunc, (I 0), .nilFunc, (I 0), .nilFunc, (I 0), .nilFunc, (I 0), .nilFunc, (I 0), .nilFunc, (I 0), .nilFunc, (I 0), .nilFunc, (I 0), .nilFunc, (I 0), .nilFunc, (I 0), .nilFunc, (I 0), .nilFunc, (I 0), .nilFunc, (I 0), .nilFunc, (I 0), .nilFunc, (I 0), .nilFunc, (I 0), .nilFunc, (I 0), .nilFunc, (I 0), .nilFunc, (I 0), .nilFunc, (I 0), .nilFunc, (I 0), .nilFunc, (I 0), .nilFunc, (I 0), .nilFunc, (I 0), .nilFunc, (I 0), .nilFunc, (I 0), .nilFunc, (I 0), .nilFunc, (I 0), .nilFunc, (I 0), .nilFunc, (I 0), .nilFunc, (I 0), .nilFunc, (I 0), .nilFunc, (I 0), .nilFunc, (I 0), .nilFunc, (I 0), .nilFunc, (I 0), .nilFunc, (I 0), .nilFunc, (I 0), .nilFunc, (I 0), .nilFunc, (I 0), .nilFunc, (I 0), .nilFunc, (I 0), .nilFunc, (I 0), .nilFunc, (I 0), .nilFunc, (I 0), .nilFunc, (I 0), .nilFunc, (I 0), .nilFunc, (I 0), .nilFunc, (I 0), .nilFunc, (I 0), .nilFunc, (I 0), .nilFunc, (I 0), .nilFunc, (I 0), .nilFunc, (I 0), .nilFunc, (I 0), .nilFunc, (I 0), .nilFunc, (I 0), .nilFunc, (I 0), .nilFunc, (I 0), .nilFunc, (I 0), .nilFunc, (I 0), .nilFunc, (I 0), .nilFunc, (I 0)] 236),
     (LNwn42, .cells [(I 1), T, (.int .i32 (.lit (.ofNat 0))), (.int .u32 (.lit (.ofNat 0))), (.chan none)] 155),
     (LNwn41, .cells [(I 1), T, (.int .i32 (.lit (.ofNat 0))), (.int .u32 (.lit (.ofNat 0))), (.chan none)] 155),
     (LNwn39, .cells [(I 0), T, (.int .i32 (.lit (.ofNat 0))), (.int .u32 (.lit (.ofNat 0))), (.chan none)] 155),
     (LNwn2, .cells [(A 135 0), (A LNwn44 0), (I 5), .nilIface] 48),
     (LNwn44, .cells [(A 136 0), (A LNwn45 0), (.slice (some ⟨(.dyn LNwn46), (.lit (.ofNat 0))⟩) (.lit (.ofNat 65)) (.lit (.ofNat 65)))] 194),
     (LNwn46, .cells [.nilFunc, (I 0), (.func (.func 68) [] [(A LNwn32 0), (A LNwn38 0), (A LNwn30 0)]), (I 0), .nilFunc, (I 0), .nilFunc, (I 0), .nilFunc, (I 0), .nilFunc, (I 0), .nilFunc, (I 0), .nilFunc, (I 0), .nilFunc, (I 0), .nilFunc, (I 0), .nilFunc, (I 0), .nilFunc, (I 0), .nilFunc, (I 0), .nilFunc, (I 0), .nilFunc, (I 0), .nilFunc, (I 0), .nilFunc, (I 0), .nilFunc, (I 0), .nilFunc, (I 0), .nilFunc, (I 0), .nilFunc, (I 0), .nilFunc, (I 0), .nilFunc, (I 0), .nilFunc, (I 0), .nilFunc, (I 0), .nilFunc, (I 0), .nilFunc, (I 0), .nilFunc, (I 0), .nilFunc, (I 0), .nilFunc, (I 0), .nilFunc, (I 0), .nilFunc, (I 0), .nilFunc, (I 0), .nilFunc, (I 0), .nilFunc, (I 0), .nilFunc, (I 0), .nilFunc, (I 0), .nilFunc, (I 0), .nilFunc, (I 0), .nilFunc, (I 0), .nilFunc, (I 0), .nilFunc, (I 0), .nilFunc, (I 0), .nilFunc, (I 0), .nilFunc, (I 0), .nilFunc, (I 0), .nilFunc, (I 0), .nilFunc, (I 0), .nilFunc, (I 0), .nilFunc, (I 0), .nilFunc, (I 0), .nilFunc, (I 0), .nilFunc, (I 0), .nilFunc, (I 0), .nilFunc, (I 0), .nilFunc, (I 0), .nilFunc, (I 0), .nilFunc, (I 0), .nilFunc, (I 0), .nilFunc, (I 0), .nilFunc, (I 0), .nilFunc, (I 0), .nilFunc, (I 0), .nilFunc, (I 0), .nilFunc, (I 0)] 236),
     (LNwn45, .cells [(.int .i64 (.lit (.negSucc 0))), T, (.int .i32 (.lit (.ofNat 0))), (.int .u32 (.lit (.ofNat 0))), (.chan none)] 155),
     (136, .cells [(I 1), T, (.int .i32 (.lit (.ofNat 0))), (.int .u32 (.lit (.ofNat 0))), (.chan none)] 155),
     (135, .cells [(I 2), T, (.int .i32 (.lit (.ofNat 0))), (.int .u32 (.lit (.ofNat 0))), (.chan none)] 155),
     (134, .cells [(I 0), T, (.int .i32 (.lit (.ofNat 0))), (.int .u32 (.lit (.ofNat 0))), (.chan none)] 155),
     (133, .cells [(I 0), T, (.int .i32 (.lit (.ofNat 0))), (.int .u32 (.lit (.ofNat 0))), (.chan none)] 155),
     (132, .cells [(I 0), T, (.int .i32 (.lit (.ofNat 0))), (.int .u32 (.lit (.ofNat 0))), (.chan none)] 155),
     (131, .cells [(I 0), T, (.int .i32 (.lit (.ofNat 0))), (.int .u32 (.lit (.ofNat 0))), (.chan none)] 155),
     (130, .cells [(I 0), T, (.int .i32 (.lit (.ofNat 0))), (.int .u32 (.lit (.ofNat 0))), (.chan none)] 155),
     (129, .cells [(I 0), T, (.int .i32 (.lit (.ofNat 0))), (.int .u32 (.lit (.ofNat 0))), (.chan none)] 155),
     (128, .cells [(I 0), T, (.int .i32 (.lit (.ofNat 0))), (.int .u32 (.lit (.ofNat 0))), (.chan none)] 155),
     (127, .cells [(I 0), T, (.int .i32 (.lit (.ofNat 0))), (.int .u32 (.lit (.ofNat 0))), (.chan none)] 155),
     (126, .cells [(I 0), T, (.int .i32 (.lit (.ofNat 0))), (.int .u32 (.lit (.ofNat 0))), (.chan none)] 155),
     (125, .cells [(I 0), T, (.int .i32 (.lit (.ofNat 0))), (.int .u32 (.lit (.ofNat 0))), (.chan none)] 155),
     (124, .cells [(I 0), T, (.int .i32 (.lit (.ofNat 0))), (.int .u32 (.lit (.ofNat 0))), (.chan none)] 155),
     (123, .cells [(I 0), T, (.int .i32 (.lit (.ofNat 0))), (.int .u32 (.lit (.ofNat 0))), (.chan none)] 155),
     (122, .cells [(I 0), T, (.int .i32 (.lit (.ofNat 0))), (.int .u32 (.lit (.ofNat 0))), (.chan none)] 155),
     (121, .cells [(I 0), T, (.int .i32 (.lit (.ofNat 0))), (.int .u32 (.lit (.ofNat 0))), (.chan none)] 155),
     (120, .cells [(I 0), T, (.int .i32 (.lit (.ofNat 0))), (.int .u32 (.lit (.ofNat 0))), (.chan none)] 155),
     (119, .cells [(I 0), T, (.int .i32 (.lit (.ofNat 0))), (.int .u32 (.lit (.ofNat 0))), (.chan none)] 155),
     (118, .cells [(I 0), T, (.int .i32 (.lit (.ofNat 0))), (.int .u32 (.lit (.ofNat 0))), (.chan none)] 155),
     (117, .cells [(I 0), T, (.int .i32 (.lit (.ofNat 0))), (.int .u32 (.lit (.ofNat 0))), (.chan none)] 155),
     (116, .cells [(I 0), T, (.int .i32 (.lit (.ofNat 0))), (.int .u32 (.lit (.ofNat 0))), (.chan none)] 155),
     (115, .cells [(I 0), T, (.int .i32 (.lit (.ofNat 0))), (.int .u32 (.lit (.ofNat 0))), (.chan none)] 155),
     (114, .cells [(I 0), T, (.int .i32 (.lit (.ofNat 0))), (.int .u32 (.lit (.ofNat 0))), (.chan none)] 155),
     (113, .cells [(I 0), T, (.int .i32 (.lit (.ofNat 0))), (.int .u32 (.lit (.ofNat 0))), (.chan none)] 155),
     (112, .cells [(I 0), T, (.int .i32 (.lit (.ofNat 0))), (.int .u32 (.lit (.ofNat 0))), (.chan none)] 155),
     (111, .cells [(I 0), T, (.int .i32 (.lit (.ofNat 0))), (.int .u32 (.lit (.ofNat 0))), (.chan none)] 155),
     (110, .cells [(I 0), T, (.int .i32 (.lit (.ofNat 0))), (.int .u32 (.lit (.ofNat 0))), (.chan none)] 155),
     (109, .cells [(I 0), T, (.int .i32 (.lit (.ofNat 0))), (.int .u32 (.lit (.ofNat 0))), (.chan none)] 155),
     (108, .cells [(I 4), T, (.int .i32 (.lit (.ofNat 0))), (.int .u32 (.lit (.ofNat 0))), (.chan none)] 155),
     (107, .cells [(I 2), T, (.int .i32 (.lit (.ofNat 0))), (.int .u32 (.lit (.ofNat 0))), (.chan none)] 155),
     (106, .cells [(I 3), T, (.int .i32 (.lit (.ofNat 0))), (.int .u32 (.lit (.ofNat 0))), (.chan none)] 155),
     (105, .cells [(I 2), T, (.int .i32 (.lit (.ofNat 0))), (.int .u32 (.lit (.ofNat 0))), (.chan none)] 155),
     (104, .cells [(I 3), T, (.int .i32 (.lit (.ofNat 0))), (.int .u32 (.lit (.ofNat 0))), (.chan none)] 155),
     (103, .cells [(I 4), T, (.int .i32 (.lit (.ofNat 0))), (.int .u32 (.lit (.ofNat 0))), (.chan none)] 155),
     (102, .cells [(A 100 0), (A 101 0), (A 103 0), (A 104 0), (.func (.func 67) [] [(A LNwn32 0), (A LNwn31 0)]), (A 105 0), (A 106 0), (.func (.func 67) [] [(A LNwn23 0), (A LNwn22 0)]), (A 107 0), (A 108 0), (.func (.func 72) [] [(A LNwn9 0)]), (A 109 0), (A 110 0), .nilFunc, (A 111 0), (A 112 0), .nilFunc, (A 113 0), (A 114 0), .nilFunc, (A 115 0), (A 116 0), .nilFunc, (A 117 0), (A 118 0), .nilFunc, (A 119 0), (A 120 0), .nilFunc, (A 121 0), (A 122 0), .nilFunc, (A 123 0), (A 124 0), .nilFunc, (A 125 0), (A 126 0), .nilFunc, (A 127 0), (A 128 0), .nilFunc, (A 129 0), (A 130 0), .nilFunc, (A 131 0), (A 132 0), .nilFunc, (A 133 0), (A 134 0), .nilFunc] 72),
     (101, .cells [(I 1), T, (.int .i32 (.lit (.ofNat 0))), (.int .u32 (.lit (.ofNat 0))), (.chan none)] 155),
     (100, .cells [(I 9), T, (.int .i32 (.lit (.ofNat 0))), (.int .u32 (.lit (.ofNat 0))), (.chan none)] 155)], LNwn47, LNwn48⟩⟩
theorem LNws1 : chunk? Tryz.prog O0 (ext? Tryz.prog O0 tab) noSums 40000 9000 [LNwn1, LNwn0, LNwn8, LNwn9, LNwn6, LNwn11, LNwn14, LNwn13, LNwn12, LNwn10, LNwn15, LNwn7, LNwn17, LNwn20, LNwn19, LNwn18, LNwn16, LNwn21, LNwn22, LNwn23, LNwn3, LNwn25, LNwn28, LNwn27, LNwn26, LNwn24, LNwn29, LNwn30, LNwn31, LNwn32, LNwn4, LNwn34, LNwn37, LNwn36, LNwn35, LNwn33, LNwn38, LNwn5, LNwn40, LNwn43, LNwn42, LNwn41, LNwn39, LNwn2, LNwn44, LNwn46, LNwn45, 136, 135, 134, 133, 132, 131, 130, 129, 128, 127, 126, 125, 124, 123, 122, 121, 120, 119, 118, 117, 116, 115, 114, 113, 112, 111, 110, 109, 108, 107, 106, 105, 104, 103, 102, 101, 100] LNwc0 = .ok LNwc1 := by kernel_rfl
theorem LNwz : lastB? Tryz.prog O0 (ext? Tryz.prog O0 tab) noSums 40000 9000 LNwc1 = true := by kernel_rfl
theorem LNwruns : Runs Tryz.prog O0 (ext? Tryz.prog O0 tab) noSums LNwc0 :=
  (.more _ _ _ _ _ LNws1 (.last _ _ _ LNwz))
end Go.Proofs.YtmnahfonnljobaaGreatDoor
