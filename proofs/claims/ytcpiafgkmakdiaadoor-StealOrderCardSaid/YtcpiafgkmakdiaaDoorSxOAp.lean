/-
  treadleref00.Bag.apartInts, of a bag that holds two lists of the same length: the pieces of its run. Conditions: none.
-/
import Derived.Test.YtcpiafgkmakdiaaDoorSxOCtx
set_option maxRecDepth 100000
set_option linter.unusedSimpArgs false
set_option linter.unusedVariables false
namespace Go.Proofs.YtcpiafgkmakdiaaDoor
open Go.Proofs.YtcpiafgkmakdiaaDoor.SX Go.Conc


noncomputable def nilS : AV := .slice none (.lit 0) (.lit 0)
noncomputable def b12 (p : List Nat) : Code := pc (bodyOf Tryd.f12) p
noncomputable def td1 : List Item := [.code (b12 [1,0,1,0,0,1,0,0,1,0,0]), .inLoop (b12 [1,0,1,0,0,1,0,0,1,0,0]), .inBlock 2, .inBlock 1, .code (b12 [1,0,1,0,0,1,1]), .inLoop (b12 [1,0,1,0,0]), .inBlock 0, .code (b12 [1,1])]
noncomputable def td2 : List Item := [.code (b12 [1,1,1,0,1,0,0,1,0,0,1,0,1,0,0]), .inLoop (b12 [1,1,1,0,1,0,0,1,0,0,1,0,1,0,0]), .inBlock 6, .code (b12 [1,1,1,0,1,0,0,1,0,0,1,1]), .inBlock 5, .code (b12 [1,1,1,0,1,0,0,1,1]), .inLoop (b12 [1,1,1,0,1,0,0]), .inBlock 4, .code (b12 [1,1,1,1])]
noncomputable def td3 : List Item := [.code (b12 [1,1,1,1,0,1,0,0,1,0,0,1,0,0]), .inLoop (b12 [1,1,1,1,0,1,0,0,1,0,0,1,0,0]), .inBlock 10, .inBlock 9, .code (b12 [1,1,1,1,0,1,0,0,1,1]), .inLoop (b12 [1,1,1,1,0,1,0,0]), .inBlock 8, .code (b12 [1,1,1,1,1])]
noncomputable def numE (n i : IE) : IE := .op .add .i64 (.op .add .i64 (.op .mul .i64 (.lit 1048576) n) i) (.lit 1)
/-- Of lists that are nil (true); of others. -/
noncomputable def lenE : Bool → IE
  | true => .lit 0
  | false => .tn (v 2)
noncomputable def l70 : Bool → IE
  | true => .lit 70
  | false => .op .add .i64 (.tn (v 2)) (.lit 70)
noncomputable def hdr : Bool → AV
  | true => nilS
  | false => slc 20 (v 2) (v 22)
noncomputable def hdr1 : Bool → AV
  | true => nilS
  | false => slc 30 (v 2) (v 32)
noncomputable def apFr (st : Nat → Value) (live : List (Nat × AV)) (todo : List Item) : AFrame := ⟨12, 183, tmpsOf 183 st live, todo, [], .run, .normal⟩
noncomputable def cf (fr : AFrame) (hp : List (Nat × ABlk)) : ACfg := ⟨fr, [], ⟨hp, 100, 200⟩⟩
noncomputable abbrev run12 (bs : List (BE × Bool)) (mem : List (AA × AV)) (n : Nat) (ks : List Nat) (c : ACfg) : M ACfg := chunkTo? Tryd.prog (OO bs [] mem) (XX bs [] mem) noSums 4000 n ks c
noncomputable def seen12 (todo : List Item) (hp : List (Nat × ABlk)) (vals : List AV) : Option Seen := some ⟨12, 183, todo, [], .run, .normal, [], hp, vals⟩
noncomputable def mBag : AA × AV := (⟨.dyn 11, .lit 1⟩, slc 12 (.lit 2) (v 13))
noncomputable def mInt (z : Bool) : AA × AV := (⟨.dyn 12, .tn (v 50)⟩, hdr z)
noncomputable def m0 (z : Bool) : AA × AV := (⟨.dyn 12, .lit 0⟩, hdr z)
noncomputable def m1 (z : Bool) : AA × AV := (⟨.dyn 12, .lit 1⟩, hdr1 z)
noncomputable def bIx : List (BE × Bool) := [(.cmp .leq (.lit 0) (v 50), true), (.cmp .lss (v 50) (.lit 2), true)]

-- the first loop
noncomputable def l1 (n i : IE) : List (Nat × AV) := [(0, ptr0 11), (3, i64 n), (4, i64 i)]
noncomputable def bA0 : List (BE × Bool) := []
noncomputable def bA1 : List (BE × Bool) := (.cmp .lss (v 3) (.tn (v 2)), true) :: (.cmp .leq (.lit 0) (v 3), true) :: bIx
noncomputable def bA2 (z : Bool) : List (BE × Bool) := [(.cmp .lss (v 3) (lenE z), false)]
noncomputable def hA (ws : List (IE × AV)) : List (Nat × ABlk) := [(20, .pre false 40 (v 2) [(.tn (v 3), i64 (v 5))] ws [] 3 (v 22))]
noncomputable def apIn (st : Nat → Value) : AFrame := apFr st [(0, ptr0 11)] [.code (bodyOf Tryd.f12)]

theorem a0 (st : Nat → Value) : see (run12 bA0 [mBag] 32 [] (cf (apIn st) [])) [0, 3, 4] = seen12 td1 [] [ptr0 11, i64 (.lit 0), i64 (.lit 0)] := by kernel_rfl
theorem a1 (st : Nat → Value) : see (run12 bA1 [mBag, mInt false] 26 [20] (cf (apFr st (l1 (v 50) (v 3)) td1) (hA []))) [0, 3, 4] = seen12 td1 (hA [(.tn (v 3), i64 (numE (v 50) (v 3)))]) [ptr0 11, i64 (v 50), i64 (.op .add .i64 (v 3) (.lit 1))] := by kernel_rfl
theorem a2 (z : Bool) (st : Nat → Value) : see (run12 (bA2 z) [mBag, m0 z] 44 [] (cf (apFr st (l1 (.lit 0) (v 3)) td1) [])) [0, 3, 4] = seen12 td1 [] [ptr0 11, i64 (.lit 1), i64 (.lit 0)] := by cases z <;> kernel_rfl
theorem a3 (z : Bool) (st : Nat → Value) : see (run12 (bA2 z) [mBag, m0 z, m1 z] 83 [] (cf (apFr st (l1 (.lit 1) (v 3)) td1) [])) [0, 5, 6, 7, 8, 9] = seen12 td2 [] [ptr0 11, nilS, nilS, i64 (.lit 0), hdr z, i64 (lenE z)] := by cases z <;> kernel_rfl


-- the second loop
noncomputable def l2 (p5 p6 : AV) (n : IE) : List (Nat × AV) := [(0, ptr0 11), (5, p5), (6, p6), (7, i64 n), (8, slc 10 (v 4) (v 5)), (9, i64 (v 4))]
noncomputable def bB1 (z e : Bool) : List (BE × Bool) := (.cmp .lss (v 4) (l70 z), true) :: (.cmp .eql (v 4) (lenE z), e) :: (.cmp .leq (.plus (.tn (v 4)) (.lit 1)) (.lit 1048576), true) :: bIx
noncomputable def bB2 (z : Bool) : List (BE × Bool) := [(.cmp .lss (v 4) (l70 z), false)]
noncomputable def hL : Nat × ABlk := (10, .pre true 40 (v 4) [] [] [] 3 (v 5))
noncomputable def hL' : Nat × ABlk := (101, .pre true 40 (v 4) [] [] [i64 (numE (v 50) (v 4))] 3 (.var 101))
noncomputable def sL' : AV := slc 101 (.plus (.tn (v 4)) (.lit 1)) (.var 101)
theorem b1 (z : Bool) (st : Nat → Value) (p5 p6 : Value) : see (run12 (bB1 z false) [mBag, mInt z] 66 [101] (cf (apFr st (l2 (.raw p5) (.raw p6) (v 50)) td2) [hL])) [0, 5, 6, 7, 8, 9] = seen12 td2 [hL'] [ptr0 11, .raw p5, .raw p6, i64 (v 50), sL', i64 (.op .add .i64 (v 4) (.lit 1))] := by cases z <;> kernel_rfl
theorem b0 (st : Nat → Value) (p6 : Value) : see (run12 (bB1 false true) [mBag, mInt false] 72 [103, 101] (cf (apFr st (l2 nilS (.raw p6) (v 50)) td2) [hL])) [0, 5, 6, 7, 8, 9] = seen12 td2 [(103, .row [sL'] 22 (.var 103)), hL'] [ptr0 11, slc 103 (.lit 1) (.var 103), .raw p6, i64 (v 50), sL', i64 (.op .add .i64 (v 4) (.lit 1))] := by kernel_rfl
noncomputable def bB1' : List (BE × Bool) := (.cmp .leq (.plus (.tn (v 36)) (.lit 1)) (.lit 1048576), true) :: bB1 false true
noncomputable def hX : Nat × ABlk := (14, .pre true 41 (v 36) [] [] [] 22 (v 34))
noncomputable def sX : AV := slc 14 (v 36) (v 34)
noncomputable def sX' : AV := slc 103 (.plus (.tn (v 36)) (.lit 1)) (.var 103)
theorem b0' (st : Nat → Value) (p6 : Value) : see (run12 bB1' [mBag, mInt false] 72 [103, 101] (cf (apFr st (l2 sX (.raw p6) (v 50)) td2) [hX, hL])) [0, 5, 6, 7, 8, 9] = seen12 td2 [(103, .pre true 41 (v 36) [] [] [sL'] 22 (.var 103)), hL'] [ptr0 11, sX', .raw p6, i64 (v 50), sL', i64 (.op .add .i64 (v 4) (.lit 1))] := by kernel_rfl
-- the first rounds of lists that are nil
noncomputable def l2n (p5 p6 : AV) (n : IE) : List (Nat × AV) := [(0, ptr0 11), (5, p5), (6, p6), (7, i64 n), (8, nilS), (9, i64 (.lit 0))]
noncomputable def hN : Nat × ABlk := (101, .row [i64 (numE (v 50) (.lit 0))] 3 (.var 101))
noncomputable def sN : AV := slc 101 (.lit 1) (.var 101)
noncomputable def bN' : List (BE × Bool) := (.cmp .leq (.plus (.tn (v 36)) (.lit 1)) (.lit 1048576), true) :: bIx
theorem b0n (st : Nat → Value) (p6 : Value) : see (run12 bIx [mBag, mInt true] 72 [103, 101] (cf (apFr st (l2n nilS (.raw p6) (v 50)) td2) [])) [0, 5, 6, 7, 8, 9] = seen12 td2 [(103, .row [sN] 22 (.var 103)), hN] [ptr0 11, slc 103 (.lit 1) (.var 103), .raw p6, i64 (v 50), sN, i64 (.lit 1)] := by kernel_rfl
theorem b0n' (st : Nat → Value) (p6 : Value) : see (run12 bN' [mBag, mInt true] 72 [103, 101] (cf (apFr st (l2n sX (.raw p6) (v 50)) td2) [hX])) [0, 5, 6, 7, 8, 9] = seen12 td2 [(103, .pre true 41 (v 36) [] [] [sN] 22 (.var 103)), hN] [ptr0 11, sX', .raw p6, i64 (v 50), sN, i64 (.lit 1)] := by kernel_rfl
theorem b2 (z : Bool) (st : Nat → Value) (p5 : Value) : see (run12 (bB2 z) [mBag, m0 z, m1 z] 66 [101] (cf (apFr st (l2 (.raw p5) nilS (.lit 0)) td2) [])) [0, 5, 6, 7, 8, 9] = seen12 td2 [(101, .row [slc 10 (v 4) (v 5)] 22 (.var 101))] [ptr0 11, .raw p5, slc 101 (.lit 1) (.var 101), i64 (.lit 1), hdr1 z, i64 (lenE z)] := by cases z <;> kernel_rfl
theorem b3 (z : Bool) (st : Nat → Value) (q0 p5 : Value) : see (run12 (bB2 z) [mBag, m0 z, m1 z] 69 [101] (cf (apFr st (l2 (.raw p5) (slc 17 (.lit 1) (v 35)) (.lit 1)) td2) [(17, .row [.raw q0] 22 (v 35))])) [0, 5, 6, 10, 11] = seen12 td3 [(101, .row [.raw q0, slc 10 (v 4) (v 5)] 22 (.var 101))] [ptr0 11, .raw p5, slc 101 (.lit 2) (.var 101), i64 (.lit 0), i64 (.lit 0)] := by cases z <;> kernel_rfl

-- the third loop
noncomputable def l3 (n i : IE) : List (Nat × AV) := [(0, ptr0 11), (5, slc 14 (.lit 2) (v 34)), (6, slc 17 (.lit 2) (v 35)), (10, i64 n), (11, i64 i)]
noncomputable def num3 : IE := numE (v 50) (v 60)
noncomputable def mOne : AA × AV := (⟨.dyn 14, .tn (v 50)⟩, slc 15 (v 62) (v 16))
noncomputable def mMore : AA × AV := (⟨.dyn 17, .tn (v 50)⟩, slc 18 (v 61) (v 19))
noncomputable def mCell (b : Nat) : AA × AV := (⟨.dyn b, .tn (v 60)⟩, i64 num3)
noncomputable def bC (z : Bool) (k : Nat) : List (BE × Bool) := (.cmp .lss (v 60) (.tn (v 61)), true) :: (.cmp .leq (.lit 0) (v 60), true) :: (.cmp .eql num3 num3, true) :: (match k with
  | 0 => [(.cmp .lss (v 60) (lenE z), true), (.cmp .eql (v 60) (lenE z), false)]
  | 1 => [(.cmp .lss (v 60) (lenE z), false), (.cmp .eql (v 60) (lenE z), true), (.cmp .lss (v 60) (.tn (v 62)), true)]
  | _ => [(.cmp .lss (v 60) (lenE z), false), (.cmp .eql (v 60) (lenE z), false)]) ++ bIx
noncomputable def mC (z : Bool) (k : Nat) : List (AA × AV) := mBag :: mInt z :: mMore :: mCell 18 :: (match k with
  | 0 => [mCell 20]
  | 1 => [mOne, mCell 15]
  | _ => [])
noncomputable def bC3 : List (BE × Bool) := [(.cmp .lss (v 60) (.tn (v 61)), false)]
noncomputable def mM0 : AA × AV := (⟨.dyn 17, .lit 0⟩, slc 18 (v 61) (v 19))
noncomputable def mM1 : AA × AV := (⟨.dyn 17, .lit 1⟩, slc 18 (v 61) (v 19))
noncomputable def v3s (i : IE) : List AV := [ptr0 11, slc 14 (.lit 2) (v 34), slc 17 (.lit 2) (v 35), i64 (v 50), i64 i]
theorem c0 (st : Nat → Value) : see (run12 (bC false 0) (mC false 0) 142 [] (cf (apFr st (l3 (v 50) (v 60)) td3) [])) [0, 5, 6, 10, 11] = seen12 td3 [] (v3s (.op .add .i64 (v 60) (.lit 1))) := by kernel_rfl
theorem c1 (z : Bool) (st : Nat → Value) : see (run12 (bC z 1) (mC z 1) 139 [] (cf (apFr st (l3 (v 50) (v 60)) td3) [])) [0, 5, 6, 10, 11] = seen12 td3 [] (v3s (.op .add .i64 (v 60) (.lit 1))) := by cases z <;> kernel_rfl
theorem c2 (z : Bool) (st : Nat → Value) : see (run12 (bC z 2) (mC z 2) 130 [] (cf (apFr st (l3 (v 50) (v 60)) td3) [])) [0, 5, 6, 10, 11] = seen12 td3 [] (v3s (.op .add .i64 (v 60) (.lit 1))) := by cases z <;> kernel_rfl
theorem c3 (st : Nat → Value) : see (run12 bC3 [mM0] 38 [] (cf (apFr st (l3 (.lit 0) (v 60)) td3) [])) [0, 5, 6, 10, 11] = seen12 td3 [] [ptr0 11, slc 14 (.lit 2) (v 34), slc 17 (.lit 2) (v 35), i64 (.lit 1), i64 (.lit 0)] := by kernel_rfl
theorem c4 (st : Nat → Value) : see (run12 bC3 [mM1] 34 [] (cf (apFr st (l3 (.lit 1) (v 60)) td3) [])) [2] = seen12 [.code .ret] [] [TB] := by kernel_rfl

theorem lowIn (st : Nat → Value) : cfgLow 100 (cf (apIn st) []) = true := by kernel_rfl
theorem low1 (st : Nat → Value) : cfgLow 100 (cf (apFr st (l1 (v 50) (v 3)) td1) (hA [])) = true := by kernel_rfl
theorem low1a (st : Nat → Value) : cfgLow 100 (cf (apFr st (l1 (.lit 0) (v 3)) td1) []) = true := by kernel_rfl
theorem low1b (st : Nat → Value) : cfgLow 100 (cf (apFr st (l1 (.lit 1) (v 3)) td1) []) = true := by kernel_rfl
theorem low2 (st : Nat → Value) (p5 p6 : Value) : cfgLow 100 (cf (apFr st (l2 (.raw p5) (.raw p6) (v 50)) td2) [hL]) = true := by kernel_rfl
theorem low2a (st : Nat → Value) (p6 : Value) : cfgLow 100 (cf (apFr st (l2 nilS (.raw p6) (v 50)) td2) [hL]) = true := by kernel_rfl
theorem low2b (st : Nat → Value) (p6 : Value) : cfgLow 100 (cf (apFr st (l2 sX (.raw p6) (v 50)) td2) [hX, hL]) = true := by kernel_rfl
theorem oB1' : (OO bB1' [] [mBag, mInt false]).low 100 = true := by kernel_rfl
theorem low2c (st : Nat → Value) (p5 : Value) : cfgLow 100 (cf (apFr st (l2 (.raw p5) nilS (.lit 0)) td2) []) = true := by kernel_rfl
theorem low2d (st : Nat → Value) (q0 p5 : Value) : cfgLow 100 (cf (apFr st (l2 (.raw p5) (slc 17 (.lit 1) (v 35)) (.lit 1)) td2) [(17, .row [.raw q0] 22 (v 35))]) = true := by kernel_rfl
theorem low3 (st : Nat → Value) : cfgLow 100 (cf (apFr st (l3 (v 50) (v 60)) td3) []) = true := by kernel_rfl
theorem low3a (st : Nat → Value) : cfgLow 100 (cf (apFr st (l3 (.lit 0) (v 60)) td3) []) = true := by kernel_rfl
theorem low3b (st : Nat → Value) : cfgLow 100 (cf (apFr st (l3 (.lit 1) (v 60)) td3) []) = true := by kernel_rfl
theorem oA0 : (OO bA0 [] [mBag]).low 100 = true := by kernel_rfl
theorem oA1 : (OO bA1 [] [mBag, mInt false]).low 100 = true := by kernel_rfl
theorem oA2 (z : Bool) : (OO (bA2 z) [] [mBag, m0 z]).low 100 = true := by cases z <;> kernel_rfl
theorem oA3 (z : Bool) : (OO (bA2 z) [] [mBag, m0 z, m1 z]).low 100 = true := by cases z <;> kernel_rfl
theorem oB1 (z e : Bool) : (OO (bB1 z e) [] [mBag, mInt z]).low 100 = true := by cases z <;> cases e <;> kernel_rfl
theorem oN : (OO bIx [] [mBag, mInt true]).low 100 = true := by kernel_rfl
theorem oN' : (OO bN' [] [mBag, mInt true]).low 100 = true := by kernel_rfl
theorem low2n (st : Nat → Value) (p6 : Value) : cfgLow 100 (cf (apFr st (l2n nilS (.raw p6) (v 50)) td2) []) = true := by kernel_rfl
theorem low2n' (st : Nat → Value) (p6 : Value) : cfgLow 100 (cf (apFr st (l2n sX (.raw p6) (v 50)) td2) [hX]) = true := by kernel_rfl
theorem oB2 (z : Bool) : (OO (bB2 z) [] [mBag, m0 z, m1 z]).low 100 = true := by cases z <;> kernel_rfl
theorem oC0 : (OO (bC false 0) [] (mC false 0)).low 100 = true := by kernel_rfl
theorem oC1 (z : Bool) : (OO (bC z 1) [] (mC z 1)).low 100 = true := by cases z <;> kernel_rfl
theorem oC2 (z : Bool) : (OO (bC z 2) [] (mC z 2)).low 100 = true := by cases z <;> kernel_rfl
theorem oC3 : (OO bC3 [] [mM0]).low 100 = true := by kernel_rfl
theorem oC4 : (OO bC3 [] [mM1]).low 100 = true := by kernel_rfl
end Go.Proofs.YtcpiafgkmakdiaaDoor
