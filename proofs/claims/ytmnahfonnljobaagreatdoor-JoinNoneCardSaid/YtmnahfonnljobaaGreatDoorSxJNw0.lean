/-
  A run in pieces. Conditions: none.
-/
import Derived.Test.YtmnahfonnljobaaGreatDoorSxZCtx
set_option maxRecDepth 100000
namespace Go.Proofs.YtmnahfonnljobaaGreatDoor
open Go.Proofs.YtmnahfonnljobaaGreatDoor.SX Go.Proofs.YtmnahfonnljobaaGreatDoor.SX.Short
noncomputable def JNwf : AFrame := ⟨23, 108, L,
    [.code (pc (bodyOf Tryz.f23) [])],
    [], .run, .normal⟩
noncomputable def JNwc0 : ACfg := ⟨JNwf, [], h0⟩
theorem JNwe : enterA Tryz.prog 23 [] .normal = .ok JNwf := by kernel_rfl
def JNwn0 : Nat := 3643478909965278854593271300166
def JNwn1 : Nat := 3010021044060644212952946180170
def JNwn2 : Nat := 3643478909965278854593271300165
def JNwn3 : Nat := 1267573228975774065229522010201
def JNwn4 : Nat := 1901243796029711059182801649747
def JNwn5 : Nat := 633825300114114700748351602782
def JNwn6 : Nat := 2138879926097538036793444663373
def JNwn7 : Nat := 1267573228975774065229522010202
def JNwn8 : Nat := 2138870258674937431915281514578
def JNwn9 : Nat := 3010021044060644212952946180171
def JNwn10 : Nat := 3643478909965278854593271300164
def JNwn11 : Nat := 3010021044060644212952946180172
def JNwn12 : Nat := 3089203277298723543157986820171
def JNwn13 : Nat := 3326749977012961533773108740168
def JNwn14 : Nat := 3010021044060644212952946180169
def JNwn15 : Nat := 3010021044060644212952946180168
def JNwn16 : Nat := 2693238940284023565302886301772
def JNwn17 : Nat := 2455652362451558079565341392975
def JNwn18 : Nat := 2614043414339868403390371332173
def JNwn19 : Nat := 2218065784619092593827796484178
def JNwn20 : Nat := 2534847888395713241477856362574
def JNwn21 : Nat := 2138870258674937431915281514579
def JNwn22 : Nat := 2138879926097538036793444663372
def JNwn23 : Nat := 2138870258674937431915281514580
def JNwn24 : Nat := 2138871467102762507525051908179
def JNwn25 : Nat := 2138875092386237734354363088976
def JNwn26 : Nat := 2138870258674937431915281514577
def JNwn27 : Nat := 2138870258674937431915281514576
def JNwn28 : Nat := 1980452616911453183426961604690
def JNwn29 : Nat := 1267582898021291856016172908629
def JNwn30 : Nat := 1505199691621000437962001875032
def JNwn31 : Nat := 1742826154266226810694481739861
def JNwn32 : Nat := 1267573228975774065229522010203
def JNwn33 : Nat := 1267582898021291856016172908628
def JNwn34 : Nat := 1267573228975774065229522010204
def JNwn35 : Nat := 1267574437606463789077853372507
def JNwn36 : Nat := 1267578063498532960622847459416
def JNwn37 : Nat := 633825300114114700748351602783
def JNwn38 : Nat := 1267573228975774065229522010200
def JNwn39 : Nat := 633825300114114700748351602784
def JNwn40 : Nat := 713043791221822121308497903711
def JNwn41 : Nat := 950699264544944382988936806492
def JNwn42 : Nat := 633825300114114700748351602781
def JNwn43 : Nat := 79228162514264337593543950436
def JNwn44 : Nat := 316912650057057350374175801441
def JNwn45 : Nat := 3643478909965278854593271300167
def JNwn46 : Nat := 5192296858534827628530496329220096
noncomputable def JNwc1 : ACfg := ⟨⟨37, 12, (N (I 0) (N (.ptr none) (N (A JNwn0 0) L (N1 Z)) (N (.agg [(I 0), T, (.int .i32 (.lit (.ofNat 0))), (.int .u32 (.lit (.ofNat 0))), (.chan none)]) L (N1 (A JNwn0 0)))) (N Z (N (A JNwn0 0) L (N1 (I 0))) (N (A JNwn0 0) L (N1 (A JNwn0 0))))),
    [.code (pc (bodyOf Tryz.f37) [1,1,1])],
    [], .run, .normal⟩,
   [⟨20, 47, (N (.ptr none) (N (.slice (some ⟨(.dyn JNwn1), (.lit (.ofNat 0))⟩) (.lit (.ofNat 2)) (.lit (.ofNat 2))) (N (.ptr none) (N (.slice (some ⟨(.dyn JNwn1), (.lit (.ofNat 0))⟩) (.lit (.ofNat 2)) (.lit (.ofNat 2))) L (N1 F)) (N Z L (N1 F))) (N Z (N Z L (N1 (.slice (some ⟨(.dyn JNwn1), (.lit (.ofNat 0))⟩) (.lit (.ofNat 2)) (.lit (.ofNat 2))))) (N Z (N1 (A JNwn2 0)) (N1 (I 2))))) (N (I 2) (N Z (N Z L (N1 (I 2))) (N Z L (N1 F))) (N Z (N Z L (N1 (I 2))) (N (I 0) (N1 F) (N1 F))))),
    [.inRegion (opsOf (pc (bodyOf Tryz.f20) [1,1,1,0])) [1, 2, 3, 4, 5, 6, 7, 8], .code (pc (bodyOf Tryz.f20) [1,1,1,1])],
    [], .run, .normal⟩,
    ⟨23, 108, (N F (N (A JNwn3 0) (N (I 0) (N Z (N1 (I 0)) (N1 (A JNwn4 0))) (N Z (N1 (A JNwn3 0)) (N (A JNwn5 0) L (N1 (.slice (some ⟨(.dyn JNwn1), (.lit (.ofNat 0))⟩) (.lit (.ofNat 2)) (.lit (.ofNat 2))))))) (N (I 0) (N Z (N1 (.tuple [(A JNwn6 0), (I 0)])) (N1 (.slice (some ⟨(.dyn JNwn7), (.lit (.ofNat 0))⟩) (.lit (.ofNat 2)) (.lit (.ofNat 2))))) (N Z (N1 (.tuple [(A JNwn6 0), (I 0)])) (N (A JNwn3 0) L (N1 (A JNwn5 0)))))) (N (A JNwn5 0) (N (A JNwn6 0) (N Z (N1 (A JNwn6 0)) (N1 (.tuple [(A JNwn4 0), (I 0)]))) (N Z (N1 (A JNwn5 0)) (N (.tuple [(A JNwn4 0), (I 0)]) L (N1 (A JNwn3 0))))) (N (A JNwn4 0) (N Z (N1 (.slice (some ⟨(.dyn JNwn8), (.lit (.ofNat 0))⟩) (.lit (.ofNat 2)) (.lit (.ofNat 2)))) (N1 (A JNwn3 0))) (N Z (N1 (I 0)) (N1 (A JNwn5 0)))))),
    [.inRegion (opsOf (pc (bodyOf Tryz.f23) [1,1,1,1,1,0])) [3, 4, 5, 6, 7, 8], .code (pc (bodyOf Tryz.f23) [1,1,1,1,1,1])],
    [], .run, .normal⟩],
   ⟨[(JNwn0, .cells [(I 0), T, (.int .i32 (.lit (.ofNat 0))), (.int .u32 (.lit (.ofNat 0))), (.chan none)] 155),
     (JNwn2, .cells [(A JNwn9 0), (A JNwn10 0), (I 0), .nilIface] 48),
     (JNwn10, .cells [(A JNwn11 0), (A JNwn12 0), (.slice (some ⟨(.dyn JNwn13), (.lit (.ofNat 0))⟩) (.lit (.ofNat 65)) (.lit (.ofNat 65)))] 194),
     (JNwn13, .cells [.nilFunc, (I 0), .nilFunc, (I 0), .nilFunc, (I 0), .nilFunc, (I 0), .nilFunc, (I 0), .nilFunc, (I 0), .nilFunc, (I 0), .nilFunc, (I 0), .nilFunc, (I 0), .nilFunc, (I 0), .nilFunc, (I 0), .nilFunc, (I 0), .nilFunc, (I 0), .nilFunc, (I 0), .nilFunc, (I 0), .nilFunc, (I 0), .nilFunc, (I 0), .nilFunc, (I 0), .nilFunc, (I 0), .nilFunc, (I 0), .nilFunc, (I 0), .nilFunc, (I 0), .nilFunc, (I 0), .nilFunc, (I 0), .nilFunc, (I 0), .nilFunc, (I 0), .nilFunc, (I 0), .nilFunc, (I 0), .nilFunc, (I 0), .nilFunc, (I 0), .nilFunc, (I 0), .nilFunc, (I 0), .nilFunc, (I 0), .nilFunc, (I 0), .nilFunc, (I 0), .nilFunc, (I 0), .nilFunc, (I 0), .nilFunc, (I 0), .nilFunc, (I 0), .nilFunc, (I 0), .nilFunc, (I 0), .nilFunc, (I 0), .nilFunc, (I 0), .nilFunc, (I 0), .nilFunc, (I 0), .nilFunc, (I 0), .nilFunc, (I 0), .nilFunc, (I 0), .nilFunc, (I 0), .nilFunc, (I 0), .nilFunc, (I 0), .nilFunc, (I 0), .nilFunc, (I 0), .nilFunc, (I 0), .nilFunc, (I 0), .nilFunc, (I 0), .nilFunc, (I 0), .nilFunc, (I 0), .nilFunc, (I 0), .nilFunc, (I 0), .nilFunc, (I 0), .nilFunc, (I 0), .nilFunc, (I 0), .nilFunc, (I 0), .nilFunc, (I 0)] 236),
     (JNwn12, .cells [(I 0), T, (.int .i32 (.lit (.ofNat 0))), (.int .u32 (.lit (.ofNat 0))), (.chan none)] 155),
     (JNwn11, .cells [(I 0), T, (.int .i32 (.lit (.ofNat 0))), (.int .u32 (.lit (.ofNat 0))), (.chan none)] 155),
     (JNwn9, .cells [(I 0), T, (.int .i32 (.lit (.ofNat 0))), (.int .u32 (.lit (.ofNat 0))), (.chan none)] 155),
     (JNwn1, .cells [(A JNwn5 0), (A JNwn3 0)] 43),
     (JNwn14, .cells [(I 1)] 3),
     (JNwn15, .cells [(I 0)] 3),
     (JNwn16, .cells [(.slice (some ⟨(.dyn JNwn17), (.lit (.ofNat 0))⟩) (.lit (.ofNat 2)) (.lit (.ofNat 2)))] 116),
     (JNwn18, .cells [(A JNwn19 0)] 45),
     (JNwn20, .cells [(A JNwn6 0)] 43),
     (JNwn17, .cells [.nilIface, .nilIface] 31),
     (JNwn19, .cells [(I 0), T, (.int .i32 (.lit (.ofNat 0))), (.int .u32 (.lit (.ofNat 0))), (.chan none)] 155),
     (JNwn6, .cells [(A JNwn21 0), (A JNwn22 0), (I 0), .nilIface] 48),
     (JNwn22, .cells [(A JNwn23 0), (A JNwn24 0), (.slice (some ⟨(.dyn JNwn25), (.lit (.ofNat 0))⟩) (.lit (.ofNat 65)) (.lit (.ofNat 65)))] 194),
     (JNwn25, .cells [.nilFunc, (I 0), .nilFunc, (I 0), .nilFunc, (I 0), .nilFunc, (I 0), .nilFunc, (I 0), .nilFunc, (I 0), .nilFunc, (I 0), .nilFunc, (I 0), .nilFunc, (I 0), .nilFunc, (I 0), .nilFunc, (I 0), .nilFunc, (I 0), .nilFunc, (I 0), .nilFunc, (I 0), .nilFunc, (I 0), .nilFunc, (I 0), .nilFunc, (I 0), .nilFunc, (I 0), .nilFunc, (I 0), .nilFunc, (I 0), .nilFunc, (I 0), .nilFunc, (I 0), .nilFunc, (I 0), .nilFunc, (I 0), .nilFunc, (I 0), .nilFunc, (I 0), .nilFunc, (I 0), .nilFunc, (I 0), .nilFunc, (I 0), .nilFunc, (I 0), .nilFunc, (I 0), .nilFunc, (I 0), .nilFunc, (I 0), .nilFunc, (I 0), .nilFunc, (I 0), .nilFunc, (I 0), .nilFunc, (I 0), .nilFunc, (I 0), .nilFunc, (I 0), .nilFunc, (I 0), .nilFunc, (I 0), .nilFunc, (I 0), .nilFunc, (I 0), .nilFunc, (I 0), .nilFunc, (I 0), .nilFunc, (I 0), .nilFunc, (I 0), .nilFunc, (I 0), .nilFunc, (I 0), .nilFunc, (I 0), .nilFunc, (I 0), .nilFunc, (I 0), .nilFunc, (I 0), .nilFunc, (I 0), .nilFunc, (I 0), .nilFunc, (I 0), .nilFunc, (I 0), .nilFunc, (I 0), .nilFunc, (I 0), .nilFunc, (I 0), .nilFunc, (I 0), .nilFunc, (I 0), .nilFunc, (I 0), .nilFunc, (I 0), .nilFunc, (I 0)] 236),
     (JNwn24, .cells [(I 0), T, (.int .i32 (.lit (.ofNat 0))), (.int .u32 (.lit (.ofNat 0))), (.chan none)] 155),
     (JNwn23, .cells [(I 0), T, (.int .i32 (.lit (.ofNat 0))), (.int .u32 (.lit (.ofNat 0))), (.chan none)] 155),
     (JNwn21, .cells [(I 0), T, (.int .i32 (.lit (.ofNat 0))), (.int .u32 (.lit (.ofNat 0))), (.chan none)] 155),
     (JNwn8, .cells [(A JNwn5 0), (A JNwn3 0)] 43),
     (JNwn26, .cells [(I 1)] 3),
     (JNwn27, .cells [(I 0)] 3),
     (JNwn28, .cells [(A JNwn4 0)] 49),
     (JNwn4, .cells [(A JNwn29 0), (A JNwn30 0), (.slice (some ⟨(.dyn JNwn31), (.lit (.ofNat 0))⟩) (.lit (.ofNat 2)) (.lit (.ofNat 2)))] 57),
     (JNwn31, .cells [(I 0), .nilIface, (I 0), .nilIface] 113),
     (JNwn30, .cells [(I 2), T, (.int .i32 (.lit (.ofNat 0))), (.int .u32 (.lit (.ofNat 0))), (.chan none)] 155),
     (JNwn29, .cells [(A JNwn32 0), (A JNwn33 0), (I 0), .nilIface] 48),
     (JNwn33, .cells [(A JNwn34 0), (A JNwn35 0), (.slice (some ⟨(.dyn JNwn36), (.lit (.ofNat 0))⟩) (.lit (.ofNat 65)) (.lit (.ofNat 65)))] 194),
     (JNwn36, .cells [.nilFunc, (I 0), .nilFunc, (I 0), .nilFunc, (I 0), .nilFunc, (I 0), .nilFunc, (I 0), .nilFunc, (I 0), .nilFunc, (I 0), .nilFunc, (I 0), .nilFunc, (I 0), .nilFunc, (I 0), .nilFunc, (I 0), .nilFunc, (I 0), .nilFunc, (I 0), .nilFunc, (I 0), .nilFunc, (I 0), .nilFunc, (I 0), .nilFunc, (I 0), .nilFunc, (I 0), .nilFunc, (I 0), .nilFunc, (I 0), .nilFunc, (I 0), .nilFunc, (I 0), .nilFunc, (I 0), .nilFunc, (I 0), .nilFunc, (I 0), .nilFunc, (I 0), .nilFunc, (I 0), .nilFunc, (I 0), .nilFunc, (I 0), .nilFunc, (I 0), .nilFunc, (I 0), .nilFunc, (I 0), .nilFunc, (I 0), .nilFunc, (I 0), .nilFunc, (I 0), .nilFunc, (I 0), .nilFunc, (I 0), .nilFunc, (I 0), .nilFunc, (I 0), .nilFunc, (I 0), .nilFunc, (I 0), .nilFunc, (I 0), .nilFunc, (I 0), .nilFunc, (I 0), .nilFunc, (I 0), .nilFunc, (I 0), .nilFunc, (I 0), .nilFunc, (I 0), .nilFunc, (I 0), .nilFunc, (I 0), .nilFunc, (I 0), .nilFunc, (I 0), .nilFunc, (I 0), .nilFunc, (I 0), .nilFunc, (I 0), .nilFunc, (I 0), .nilFunc, (I 0), .nilFunc, (I 0), .nilFunc, (I 0), .nilFunc, (I 0), .nilFunc, (I 0), .nilFunc, (I 0), .nilFunc, (I 0), .nilFunc, (I 0), .nilFunc, (I 0)] 236),
     (JNwn35, .cells [(I 0), T, (.int .i32 (.lit (.ofNat 0))), (.int .u32 (.lit (.ofNat 0))), (.chan none)] 155),
     (JNwn34, .cells [(I 0), T, (.int .i32 (.lit (.ofNat 0))), (.int .u32 (.lit (.ofNat 0))), (.chan none)] 155),
     (JNwn32, .cells [(I 0), T, (.int .i32 (.lit (.ofNat 0))), (.int .u32 (.lit (.ofNat 0))), (.chan none)] 155),
     (JNwn7, .cells [(A JNwn5 0), (A JNwn3 0)] 43),
     (JNwn3, .cells [(A JNwn37 0), (A JNwn38 0), (I 0), .nilIface] 48),
     (JNwn38, .cells [(A JNwn39 0), (A JNwn40 0), (.slice (some ⟨(.dyn JNwn41), (.lit (.ofNat 0))⟩) (.lit (.ofNat 65)) (.lit (.ofNat 65)))] 194),
     (JNwn41, .cells [.nilFunc, (I 0), (.func (.func 53) [] [(A JNwn28 0), (A JNwn26 0)]), (I 0), (.func (.func 57) [] [(A JNwn20 0), (A JNwn16 0), (A JNwn14 0), (A JNwn18 0)]), (I 1), .nilFunc, (I 0), .nilFunc, (I 0), .nilFunc, (I 0), .nilFunc, (I 0), .nilFunc, (I 0), .nilFunc, (I 0), .nilFunc, (I 0), .nilFunc, (I 0), .nilFunc, (I 0), .nilFunc, (I 0), .nilFunc, (I 0), .nilFunc, (I 0), .nilFunc, (I 0), .nilFunc, (I 0), .nilFunc, (I 0), .nilFunc, (I 0), .nilFunc, (I 0), .nilFunc, (I 0), .nilFunc, (I 0), .nilFunc, (I 0), .nilFunc, (I 0), .nilFunc, (I 0), .nilFunc, (I 0), .nilFunc, (I 0), .nilFunc, (I 0), .nilFunc, (I 0), .nilFunc, (I 0), .nilFunc, (I 0), .nilFunc, (I 0), .nilFunc, (I 0), .nilFunc, (I 0), .nilFunc, (I 0), .nilFunc, (I 0), .nilFunc, (I 0), .nilFunc, (I 0), .nilFunc, (I 0), .nilFunc, (I 0), .nilFunc, (I 0), .nilFunc, (I 0), .nilFunc, (I 0), .nilFunc, (I 0), .nilFunc, (I 0), .nilFunc, (I 0), .nilFunc, (I 0), .nilFunc, (I 0), .nilFunc, (I 0), .nilFunc, (I 0), .nilFunc, (I 0), .nilFunc, (I 0), .nilFunc, (I 0), .nilFunc, (I 0), .nilFunc, (I 0), .nilFunc, (I 0), .nilFunc, (I 0), .nilFunc, (I 0), .nilFunc, (I 0), .nilFunc, (I 0), .nilFunc, (I 0), .nilFunc, (I 0), .nilFunc, (I 0), .nilFunc, (I 0), .nilFunc, (I 0)] 236),
     (JNwn40, .cells [(I 2), T, (.int .i32 (.lit (.ofNat 0))), (.int .u32 (.lit (.ofNat 0))), (.chan none)] 155),
     (JNwn39, .cells [(I 2), T, (.int .i32 (.lit (.ofNat 0))), (.int .u32 (.lit (.ofNat 0))), (.chan none)] 155),
     (JNwn37, .cells [(I 0), T, (.int .i32 (.lit (.ofNat 0))), (.int .u32 (.lit (.ofNat 0))), (.chan none)] 155),
     (JNwn5, .cells [(A 100 0), (A JNwn42 0), (I 0), .nilIface] 48),
     (JNwn42, .cells [(A 101 0), (A JNwn43 0), (.slice (some ⟨(.dyn JNwn44), (.lit (.ofNat 0))⟩) (.lit (.ofNat 65)) (.lit (.ofNat 65)))] 194),
     (JNwn44, .cells [.nilFunc, (I 0), (.func (.func 53) [] [(A JNwn28 0), (A JNwn27 0)]), (I 0), (.func (.func 57) [] [(A JNwn20 0), (A JNwn16 0), (A JNwn15 0), (A JNwn18 0)]), (I 1), .nilFunc, (I 0), .nilFunc, (I 0), .nilFunc, (I 0), .nilFunc, (I 0), .nilFunc, (I 0), .nilFunc, (I 0), .nilFunc, (I 0), .nilFunc, (I 0), .nilFunc, (I 0), .nilFunc, (I 0), .nilFunc, (I 0), .nilFunc, (I 0), .nilFunc, (I 0), .nilFunc, (I 0), .nilFunc, (I 0), .nilFunc, (I 0), .nilFunc, (I 0), .nilFunc, (I 0), .nilFunc, (I 0), .nilFunc, (I 0), .nilFunc, (I 0), .nilFunc, (I 0), .nilFunc, (I 0), .nilFunc, (I 0), .nilFunc, (I 0), .nilFunc, (I 0), .nilFunc, (I 0), .nilFunc, (I 0), .nilFunc, (I 0), .nilFunc, (I 0), .nilFunc, (I 0), .nilFunc, (I 0), .nilFunc, (I 0), .nilFunc, (I 0), .nilFunc, (I 0), .nilFunc, (I 0), .nilFunc, (I 0), .nilFunc, (I 0), .nilFunc, (I 0), .nilFunc, (I 0), .nilFunc, (I 0), .nilFunc, (I 0), .nilFunc, (I 0), .nilFunc, (I 0), .nilFunc, (I 0), .nilFunc, (I 0), .nilFunc, (I 0), .nilFunc, (I 0), .nilFunc, (I 0), .nilFunc, (I 0), .nilFunc, (I 0), .nilFunc, (I 0), .nilFunc, (I 0), .nilFunc, (I 0), .nilFunc, (I 0), .nilFunc, (I 0), .nilFunc, (I 0), .nilFunc, (I 0), .nilFunc, (I 0), .nilFunc, (I 0), .nilFunc, (I 0), .nilFunc, (I 0)] 236),
     (JNwn43, .cells [(I 2), T, (.int .i32 (.lit (.ofNat 0))), (.int .u32 (.lit (.ofNat 0))), (.chan none)] 155),
     (101, .cells [(I 2), T, (.int .i32 (.lit (.ofNat 0))), (.int .u32 (.lit (.ofNat 0))), (.chan none)] 155),
     (100, .cells [(I 0), T, (.int .i32 (.lit (.ofNat 0))), (.int .u32 (.lit (.ofNat 0))), (.chan none)] 155)], JNwn45, JNwn46⟩⟩
theorem JNws1 : chunk? Tryz.prog O0 (ext? Tryz.prog O0 tab) noSums 40000 4000 [JNwn0, JNwn2, JNwn10, JNwn13, JNwn12, JNwn11, JNwn9, JNwn1, JNwn14, JNwn15, JNwn16, JNwn18, JNwn20, JNwn17, JNwn19, JNwn6, JNwn22, JNwn25, JNwn24, JNwn23, JNwn21, JNwn8, JNwn26, JNwn27, JNwn28, JNwn4, JNwn31, JNwn30, JNwn29, JNwn33, JNwn36, JNwn35, JNwn34, JNwn32, JNwn7, JNwn3, JNwn38, JNwn41, JNwn40, JNwn39, JNwn37, JNwn5, JNwn42, JNwn44, JNwn43, 101, 100] JNwc0 = .ok JNwc1 := by kernel_rfl
def JNwn47 : Nat := 3643478909965278854593271300172
def JNwn48 : Nat := 3643478909965278854593271300171
def JNwn49 : Nat := 3643478909965278854593271300170
def JNwn50 : Nat := 3643478909965278854593271300169
def JNwn51 : Nat := 3643478909965278854593271300168
def JNwn52 : Nat := 6176691800143676003810121220160
noncomputable def JNwc2 : ACfg := ⟨⟨85, 19, (N (.ptr none) (N F (N Z (N1 Z) (N Z L (N1 F))) (N F (N1 F) (N Z L (N1 Z)))) (N Z (N F (N1 Z) (N Z L (N1 Z))) (N (.ptr none) (N1 F) (N Z L (N1 Z))))),
    [.code .ret],
    [], .returning, .normal⟩,
   [⟨46, 26, (N (A JNwn32 0) (N Z (N Z L (N1 (.ptr none))) (N (I 0) L (N1 (A JNwn32 0)))) (N (.ptr none) (N Z L (N1 F)) L)),
    [.inRegion (opsOf (pc (bodyOf Tryz.f46) [1,1,0,0])) [1], .code (pc (bodyOf Tryz.f46) [1,1,0,1]), .code (pc (bodyOf Tryz.f46) [1,1,1])],
    [], .run, .normal⟩,
    ⟨31, 34, (N (A JNwn29 0) (N Z (N Z (N1 (A JNwn32 0)) L) (N (I 0) (N1 (A JNwn29 0)) (N1 T))) (N (.ptr none) (N .nilIface (N1 (A JNwn29 0)) (N1 F)) (N Z (N1 (A JNwn29 0)) (N (A JNwn29 0) L (N1 (.ptr none)))))),
    [.inRegion (opsOf (pc (bodyOf Tryz.f31) [1,1,0,0])) [5, 6], .code (pc (bodyOf Tryz.f31) [1,1,0,1]), .code (pc (bodyOf Tryz.f31) [1,1,1])],
    [], .run, .normal⟩,
    ⟨21, 56, (N (A JNwn4 0) (N Z (N Z (N (A JNwn4 0) L (N1 (A JNwn4 0))) (N Z (N1 (.ptr none)) (N1 F))) (N (.slice none (.lit (.ofNat 0)) (.lit (.ofNat 0))) (N1 F) (N Z (N1 (A JNwn4 0)) (N1 (A JNwn4 0))))) (N (.ptr none) (N .nilIface (N1 F) (N Z (N1 (A JNwn29 0)) (N1 (A JNwn29 0)))) (N Z (N (A JNwn4 0) L (N1 F)) (N Z (N1 (A JNwn4 0)) (N1 (A JNwn4 0)))))),
    [.inRegion (opsOf (pc (bodyOf Tryz.f21) [1,1,0,0])) [5, 6, 7, 8, 9, 10], .code (pc (bodyOf Tryz.f21) [1,1,0,1]), .code (pc (bodyOf Tryz.f21) [1,1,1])],
    [], .run, .normal⟩,
    ⟨23, 108, (N F (N (A JNwn3 0) (N (I 0) (N Z (N (I 0) L (N1 F)) (N (A JNwn4 0) (N1 (A JNwn5 0)) (N1 (I 0)))) (N Z (N (A JNwn3 0) L (N1 F)) (N (A JNwn5 0) (N1 T) (N1 (.slice (some ⟨(.dyn JNwn1), (.lit (.ofNat 0))⟩) (.lit (.ofNat 2)) (.lit (.ofNat 2))))))) (N (I 0) (N Z (N (.tuple [(A JNwn6 0), (I 0)]) L (N1 F)) (N (.slice (some ⟨(.dyn JNwn7), (.lit (.ofNat 0))⟩) (.lit (.ofNat 2)) (.lit (.ofNat 2))) (N1 F) (N1 (A JNwn2 0)))) (N (I 0) (N (.tuple [(A JNwn6 0), (I 0)]) (N1 F) (N1 F)) (N (A JNwn3 0) (N1 F) (N1 (A JNwn5 0)))))) (N (A JNwn5 0) (N (A JNwn6 0) (N Z (N (A JNwn6 0) L (N1 (I 0))) (N (.tuple [(A JNwn4 0), (I 0)]) (N1 F) (N1 (I 0)))) (N Z (N (A JNwn5 0) (N1 F) (N1 (I 0))) (N (.tuple [(A JNwn4 0), (I 0)]) (N1 (A JNwn3 0)) (N1 (A JNwn3 0))))) (N (A JNwn4 0) (N Z (N (.slice (some ⟨(.dyn JNwn8), (.lit (.ofNat 0))⟩) (.lit (.ofNat 2)) (.lit (.ofNat 2))) (N1 (A JNwn4 0)) (N1 F)) (N (A JNwn3 0) (N1 F) (N1 (.tuple [(A JNwn2 0), (I 0)])))) (N (A JNwn2 0) (N (I 0) (N1 T) (N1 F)) (N (A JNwn5 0) (N1 F) (N1 (.tuple [(A JNwn2 0), (I 0)]))))))),
    [.inRegion (opsOf (pc (bodyOf Tryz.f23) [1,1,1,1,1,1,1,0])) [1, 2, 3, 4, 5, 6], .code (pc (bodyOf Tryz.f23) [1,1,1,1,1,1,1,1])],
    [], .run, .normal⟩],
   ⟨[(JNwn47, .cells [(I 1)] 2),
     (JNwn48, .cells [(I 2)] 2),
     (JNwn49, .cells [(A JNwn45 0)] 45),
     (JNwn50, .cells [(A JNwn0 0)] 45),
     (JNwn51, .cells [(A JNwn2 0)] 43),
     (JNwn45, .cells [(I 0), T, (.int .i32 (.lit (.ofNat 0))), (.int .u32 (.lit (.ofNat 0))), (.chan none)] 155),
     (JNwn0, .cells [(I 2), T, (.int .i32 (.lit (.ofNat 0))), (.int .u32 (.lit (.ofNat 0))), (.chan none)] 155),
     (JNwn2, .cells [(A JNwn9 0), (A JNwn10 0), (I 2), .nilIface] 48),
     (JNwn10, .cells [(A JNwn11 0), (A JNwn12 0), (.slice (some ⟨(.dyn JNwn13), (.lit (.ofNat 0))⟩) (.lit (.ofNat 65)) (.lit (.ofNat 65)))] 194),
     (JNwn13, .cells [.nilFunc, (I 0), .nilFunc, (I 0), .nilFunc, (I 0), .nilFunc, (I 0), .nilFunc, (I 0), .nilFunc, (I 0), .nilFunc, (I 0), .nilFunc, (I 0), .nilFunc, (I 0), .nilFunc, (I 0), .nilFunc, (I 0), .nilFunc, (I 0), .nilFunc, (I 0), .nilFunc, (I 0), .nilFunc, (I 0), .nilFunc, (I 0), .nilFunc, (I 0), .nilFunc, (I 0), .nilFunc, (I 0), .nilFunc, (I 0), .nilFunc, (I 0), .nilFunc, (I 0), .nilFunc, (I 0), .nilFunc, (I 0), .nilFunc, (I 0), .nilFunc, (I 0), .nilFunc, (I 0), .nilFunc, (I 0), .nilFunc, (I 0), .nilFunc, (I 0), .nilFunc, (I 0), .nilFunc, (I 0), .nilFunc, (I 0), .nilFunc, (I 0), .nilFunc, (I 0), .nilFunc, (I 0), .nilFunc, (I 0), .nilFunc, (I 0), .nilFunc, (I 0), .nilFunc, (I 0), .nilFunc, (I 0), .nilFunc, (I 0), .nilFunc, (I 0), .nilFunc, (I 0), .nilFunc, (I 0), .nilFunc, (I 0), .nilFunc, (I 0), .nilFunc, (I 0), .nilFunc, (I 0), .nilFunc, (I 0), .nilFunc, (I 0), .nilFunc, (I 0), .nilFunc, (I 0), .nilFunc, (I 0), .nilFunc, (I 0), .nilFunc, (I 0), .nilFunc, (I 0), .nilFunc, (I 0), .nilFunc, (I 0), .nilFunc, (I 0), .nilFunc, (I 0), .nilFunc, (I 0), .nilFunc, (I 0), .nilFunc, (I 0), .nilFunc, (I 0)] 236),
     (JNwn12, .cells [(.int .i64 (.lit (.negSucc 0))), T, (.int .i32 (.lit (.ofNat 0))), (.int .u32 (.lit (.ofNat 0))), (.chan none)] 155),
     (JNwn11, .cells [(I 0), T, (.int .i32 (.lit (.ofNat 0))), (.int .u32 (.lit (.ofNat 0))), (.chan none)] 155),
     (JNwn9, .cells [(I 2), T, (.int .i32 (.lit (.ofNat 0))), (.int .u32 (.lit (.ofNat 0))), (.chan none)] 155),
     (JNwn1, .cells [(A JNwn5 0), (A JNwn3 0)] 43),
     (JNwn14, .cells [(I 1)] 3),
     (JNwn15, .cells [(I 0)] 3),
     (JNwn16, .cells [(.slice (some ⟨(.dyn JNwn17), (.lit (.ofNat 0))⟩) (.lit (.ofNat 2)) (.lit (.ofNat 2)))] 116),
     (JNwn18, .cells [(A JNwn19 0)] 45),
     (JNwn20, .cells [(A JNwn6 0)] 43),
     (JNwn17, .cells [.nilIface, .nilIface] 31),
     (JNwn19, .cells [(I 0), T, (.int .i32 (.lit (.ofNat 0))), (.int .u32 (.lit (.ofNat 0))), (.chan none)] 155),
     (JNwn6, .cells [(A JNwn21 0), (A JNwn22 0), (I 2), .nilIface] 48),
     (JNwn22, .cells [(A JNwn23 0), (A JNwn24 0), (.slice (some ⟨(.dyn JNwn25), (.lit (.ofNat 0))⟩) (.lit (.ofNat 65)) (.lit (.ofNat 65)))] 194),
     (JNwn25, .cells [.nilFunc, (I 0), .nilFunc, (I 0), .nilFunc, (I 0), .nilFunc, (I 0), .nilFunc, (I 0), .nilFunc, (I 0), .nilFunc, (I 0), .nilFunc, (I 0), .nilFunc, (I 0), .nilFunc, (I 0), .nilFunc, (I 0), .nilFunc, (I 0), .nilFunc, (I 0), .nilFunc, (I 0), .nilFunc, (I 0), .nilFunc, (I 0), .nilFunc, (I 0), .nilFunc, (I 0), .nilFunc, (I 0), .nilFunc, (I 0), .nilFunc, (I 0), .nilFunc, (I 0), .nilFunc, (I 0), .nilFunc, (I 0), .nilFunc, (I 0), .nilFunc, (I 0), .nilFunc, (I 0), .nilFunc, (I 0), .nilFunc, (I 0), .nilFunc, (I 0), .nilFunc, (I 0), .nilFunc, (I 0), .nilFunc, (I 0), .nilFunc, (I 0), .nilFunc, (I 0), .nilFunc, (I 0), .nilFunc, (I 0), .nilFunc, (I 0), .nilFunc, (I 0), .nilFunc, (I 0), .nilFunc, (I 0), .nilFunc, (I 0), .nilFunc, (I 0), .nilFunc, (I 0), .nilFunc, (I 0), .nilFunc, (I 0), .nilFunc, (I 0), .nilFunc, (I 0), .nilFunc, (I 0), .nilFunc, (I 0), .nilFunc, (I 0), .nilFunc, (I 0), .nilFunc, (I 0), .nilFunc, (I 0), .nilFunc, (I 0), .nilFunc, (I 0), .nilFunc, (I 0), .nilFunc, (I 0), .nilFunc, (I 0), .nilFunc, (I 0), .nilFunc, (I 0), .nilFunc, (I 0), .nilFunc, (I 0), .nilFunc, (I 0), .nilFunc, (I 0)] 236),
     (JNwn24, .cells [(.int .i64 (.lit (.negSucc 0))), T, (.int .i32 (.lit (.ofNat 0))), (.int .u32 (.lit (.ofNat 0))), (.chan none)] 155),
     (JNwn23, .cells [(I 0), T, (.int .i32 (.lit (.ofNat 0))), (.int .u32 (.lit (.ofNat 0))), (.chan none)] 155),
     (JNwn21, .cells [(I 2), T, (.int .i32 (.lit (.ofNat 0))), (.int .u32 (.lit (.ofNat 0))), (.chan none)] 155),
     (JNwn8, .cells [(A JNwn5 0), (A JNwn3 0)] 43),
     (JNwn26, .cells [(I 1)] 3),
     (JNwn27, .cells [(I 0)] 3),
     (JNwn28, .cells [(A JNwn4 0)] 49),
     (JNwn4, .cells [(A JNwn29 0), (A JNwn30 0), (.slice (some ⟨(.dyn JNwn31), (.lit (.ofNat 0))⟩) (.lit (.ofNat 2)) (.lit (.ofNat 2)))] 57),
     (JNwn31, .cells [(I 1), .nilIface, (I 2), .nilIface] 113),
     (JNwn30, .cells [(I 0), T, (.int .i32 (.lit (.ofNat 0))), (.int .u32 (.lit (.ofNat 0))), (.chan none)] 155),
     (JNwn29, .cells [(A JNwn32 0), (A JNwn33 0), (I 2), .nilIface] 48),
     (JNwn33, .cells [(A JNwn34 0), (A JNwn35 0), (.slice (some ⟨(.dyn JNwn36), (.lit (.ofNat 0))⟩) (.lit (.ofNat 65)) (.lit (.ofNat 65)))] 194),
     (JNwn36, .cells [.nilFunc, (I 0), .nilFunc, (I 0), .nilFunc, (I 0), .nilFunc, (I 0), .nilFunc, (I 0), .nilFunc, (I 0), .nilFunc, (I 0), .nilFunc, (I 0), .nilFunc, (I 0), .nilFunc, (I 0), .nilFunc, (I 0), .nilFunc, (I 0), .nilFunc, (I 0), .nilFunc, (I 0), .nilFunc, (I 0), .nilFunc, (I 0), .nilFunc, (I 0), .nilFunc, (I 0), .nilFunc, (I 0), .nilFunc, (I 0), .nilFunc, (I 0), .nilFunc, (I 0), .nilFunc, (I 0), .nilFunc, (I 0), .nilFunc, (I 0), .nilFunc, (I 0), .nilFunc, (I 0), .nilFunc, (I 0), .nilFunc, (I 0), .nilFunc, (I 0), .nilFunc, (I 0), .nilFunc, (I 0), .nilFunc, (I 0), .nilFunc, (I 0), .nilFunc, (I 0), .nilFunc, (I 0), .nilFunc, (I 0), .nilFunc, (I 0), .nilFunc, (I 0), .nilFunc, (I 0), .nilFunc, (I 0), .nilFunc, (I 0), .nilFunc, (I 0), .nilFunc, (I 0), .nilFunc, (I 0), .nilFunc, (I 0), .nilFunc, (I 0), .nilFunc, (I 0), .nilFunc, (I 0), .nilFunc, (I 0), .nilFunc, (I 0), .nilFunc, (I 0), .nilFunc, (I 0), .nilFunc, (I 0), .nilFunc, (I 0), .nilFunc, (I 0), .nilFunc, (I 0), .nilFunc, (I 0), .nilFunc, (I 0), .nilFunc, (I 0), .nilFunc, (I 0), .nilFunc, (I 0), .nilFunc, (I 0), .nilFunc, (I 0), .nilFunc, (I 0)] 236),
     (JNwn35, .cells [(.int .i64 (.lit (.negSucc 0))), T, (.int .i32 (.lit (.ofNat 0))), (.int .u32 (.lit (.ofNat 0))), (.chan none)] 155),
     (JNwn34, .cells [(I 0), T, (.int .i32 (.lit (.ofNat 0))), (.int .u32 (.lit (.ofNat 0))), (.chan none)] 155),
     (JNwn32, .cells [(I 2), T, (.int .i32 (.lit (.ofNat 0))), (.int .u32 (.lit (.ofNat 0))), (.chan none)] 155),
     (JNwn7, .cells [(A JNwn5 0), (A JNwn3 0)] 43),
     (JNwn3, .cells [(A JNwn37 0), (A JNwn38 0), (I 2), .nilIface] 48),
     (JNwn38, .cells [(A JNwn39 0), (A JNwn40 0), (.slice (some ⟨(.dyn JNwn41), (.lit (.ofNat 0))⟩) (.lit (.ofNat 65)) (.lit (.ofNat 65)))] 194),
     (JNwn41, .cells [.nilFunc, (I 0), (.func (.func 53) [] [(A JNwn28 0), (A JNwn26 0)]), (I 0), (.func (.func 57) [] [(A JNwn20 0), (A JNwn16 0), (A JNwn14 0), (A JNwn18 0)]), (I 1), (.func (.func 60) [] [(A JNwn50 0), (A JNwn48 0), (A JNwn51 0), (A JNwn49 0), (A JNwn47 0)]), (I 2), .nilFunc, (I 0), .nilFunc, (I 0), .nilFunc, (I 0), .nilFunc, (I 0), .nilFunc, (I 0), .nilFunc, (I 0), .nilFunc, (I 0), .nilFunc, (I 0), .nilFunc, (I 0), .nilFunc, (I 0), .nilFunc, (I 0), .nilFunc, (I 0), .nilFunc, (I 0), .nilFunc, (I 0), .nilFunc, (I 0), .nilFunc, (I 0), .nilFunc, (I 0), .nilFunc, (I 0), .nilFunc, (I 0), .nilFunc, (I 0), .nilFunc, (I 0), .nilFunc, (I 0), .nilFunc, (I 0), .nilFunc, (I 0), .nilFunc, (I 0), .nilFunc, (I 0), .nilFunc, (I 0), .nilFunc, (I 0), .nilFunc, (I 0), .nilFunc, (I 0), .nilFunc, (I 0), .nilFunc, (I 0), .nilFunc, (I 0), .nilFunc, (I 0), .nilFunc, (I 0), .nilFunc, (I 0), .nilFunc, (I 0), .nilFunc, (I 0), .nilFunc, (I 0), .nilFunc, (I 0), .nilFunc, (I 0), .nilFunc, (I 0), .nilFunc, (I 0), .nilFunc, (I 0), .nilFunc, (I 0), .nilFunc, (I 0), .nilFunc, (I 0), .nilFunc, (I 0), .nilFunc, (I 0), .nilFunc, (I 0), .nilFunc, (I 0), .nilFunc, (I 0), .nilFunc, (I 0), .nilFunc, (I 0), .nilFunc, (I 0), .nilFunc, (I 0), .nilFunc, (I 0), .nilFunc, (I 0), .nilFunc, (I 0), .nilFunc, (I 0), .nilFunc, (I 0)] 236),
     (JNwn40, .cells [(.int .i64 (.lit (.negSucc 0))), T, (.int .i32 (.lit (.ofNat 0))), (.int .u32 (.lit (.ofNat 0))), (.chan none)] 155),
     (JNwn39, .cells [(I 3), T, (.int .i32 (.lit (.ofNat 0))), (.int .u32 (.lit (.ofNat 0))), (.chan none)] 155),
     (JNwn37, .cells [(I 2), T, (.int .i32 (.lit (.ofNat 0))), (.int .u32 (.lit (.ofNat 0))), (.chan none)] 155),
     (JNwn5, .cells [(A 100 0), (A JNwn42 0), (I 1), .nilIface] 48),
     (JNwn42, .cells [(A 101 0), (A JNwn43 0), (.slice (some ⟨(.dyn JNwn44), (.lit (.ofNat 0))⟩) (.lit (.ofNat 65)) (.lit (.ofNat 65)))] 194),
     (JNwn44, .cells [.nilFunc, (I 0), (.func (.func 53) [] [(A JNwn28 0), (A JNwn27 0)]), (I 0), (.func (.func 57) [] [(A JNwn20 0), (A JNwn16 0), (A JNwn15 0), (A JNwn18 0)]), (I 1), (.func (.func 60) [] [(A JNwn50 0), (A JNwn48 0), (A JNwn51 0), (A JNwn49 0), (A JNwn47 0)]), (I 2), .nilFunc, (I 0), .nilFunc, (I 0), .nilFunc, (I 0), .nilFunc, (I 0), .nilFunc, (I 0), .nilFunc, (I 0), .nilFunc, (I 0), .nilFunc, (I 0), .nilFunc, (I 0), .nilFunc, (I 0), .nilFunc, (I 0), .nilFunc, (I 0), .nilFunc, (I 0), .nilFunc, (I 0), .nilFunc, (I 0), .nilFunc, (I 0), .nilFunc, (I 0), .nilFunc, (I 0), .nilFunc, (I 0), .nilFunc, (I 0), .nilFunc, (I 0), .nilFunc, (I 0), .nilFunc, (I 0), .nilFunc, (I 0), .nilFunc, (I 0), .nilFunc, (I 0), .nilFunc, (I 0), .nilFunc, (I 0), .nilFunc, (I 0), .nilFunc, (I 0), .nilFunc, (I 0), .nilFunc, (I 0), .nilFunc, (I 0), .nilFunc, (I 0), .nilFunc, (I 0), .nilFunc, (I 0), .nilFunc, (I 0), .nilFunc, (I 0), .nilFunc, (I 0), .nilFunc, (I 0), .nilFunc, (I 0), .nilFunc, (I 0), .nilFunc, (I 0), .nilFunc, (I 0), .nilFunc, (I 0), .nilFunc, (I 0), .nilFunc, (I 0), .nilFunc, (I 0), .nilFunc, (I 0), .nilFunc, (I 0), .nilFunc, (I 0), .nilFunc, (I 0), .nilFunc, (I 0), .nilFunc, (I 0), .nilFunc, (I 0), .nilFunc, (I 0), .nilFunc, (I 0), .nilFunc, (I 0), .nilFunc, (I 0), .nilFunc, (I 0), .nilFunc, (I 0)] 236),
     (JNwn43, .cells [(.int .i64 (.lit (.negSucc 0))), T, (.int .i32 (.lit (.ofNat 0))), (.int .u32 (.lit (.ofNat 0))), (.chan none)] 155),
     (101, .cells [(I 3), T, (.int .i32 (.lit (.ofNat 0))), (.int .u32 (.lit (.ofNat 0))), (.chan none)] 155),
     (100, .cells [(I 2), T, (.int .i32 (.lit (.ofNat 0))), (.int .u32 (.lit (.ofNat 0))), (.chan none)] 155)], JNwn52, JNwn46⟩⟩
theorem JNws2 : chunk? Tryz.prog O0 (ext? Tryz.prog O0 tab) noSums 40000 4000 [JNwn47, JNwn48, JNwn49, JNwn50, JNwn51, JNwn45, JNwn0, JNwn2, JNwn10, JNwn13, JNwn12, JNwn11, JNwn9, JNwn1, JNwn14, JNwn15, JNwn16, JNwn18, JNwn20, JNwn17, JNwn19, JNwn6, JNwn22, JNwn25, JNwn24, JNwn23, JNwn21, JNwn8, JNwn26, JNwn27, JNwn28, JNwn4, JNwn31, JNwn30, JNwn29, JNwn33, JNwn36, JNwn35, JNwn34, JNwn32, JNwn7, JNwn3, JNwn38, JNwn41, JNwn40, JNwn39, JNwn37, JNwn5, JNwn42, JNwn44, JNwn43, 101, 100] JNwc1 = .ok JNwc2 := by kernel_rfl
theorem JNwz : lastB? Tryz.prog O0 (ext? Tryz.prog O0 tab) noSums 40000 4000 JNwc2 = true := by kernel_rfl
theorem JNwruns : Runs Tryz.prog O0 (ext? Tryz.prog O0 tab) noSums JNwc0 :=
  (.more _ _ _ _ _ JNws1 (.more _ _ _ _ _ JNws2 (.last _ _ _ JNwz)))
end Go.Proofs.YtmnahfonnljobaaGreatDoor
