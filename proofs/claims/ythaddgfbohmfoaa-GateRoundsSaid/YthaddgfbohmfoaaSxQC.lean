/-
  gate.run.until's rounds: able, the schedule: pieces, as closed data. Conditions: none.
-/
import Derived.Test.YthaddgfbohmfoaaSxQA
import Derived.Test.YthaddgfbohmfoaaSxQB
set_option maxRecDepth 100000
set_option linter.unusedVariables false
set_option linter.unusedSimpArgs false
namespace Go.Proofs.Ythaddgfbohmfoaa
open Go.Proofs.Ythaddgfbohmfoaa.SX Go.Conc

noncomputable def nol (f : FuncId) : List Nat := []
noncomputable def lv37 (l : List Nat) (f : FuncId) : List Nat := Bool.rec [] l (Nat.beq f 37)
/-! ### the rounds' loop -/
noncomputable def rB : Code := pc (bodyOf Try.f37) [1,1,0,0]
noncomputable def rTl : List Item := [.inLoop rB, .inBlock 2]
noncomputable def rL : List (Nat × AV) := [(0, ptr0 10), (1, i64 (.lit 4000)), (3, sched)]
noncomputable def rHd (st : Nat → Value) : AFrame := ⟨37, 80, tmpsOf 80 st rL, .code rB :: rTl, [], .run, .normal⟩
noncomputable def bsU : List (BE × Bool) := [(.cmp .lss (v 2) (.tn (v 1)), false)]
theorem u1 (st : Nat → Value) : seeF (runQ bsU [] 9 [] (cfg (unHd st (v 2)) [] [])) [0, 1, 3] nol = some (⟨37, 80, .code rB :: rTl, [], .run, .normal, [], [], rL.map (·.2)⟩, []) := by kernel_rfl
theorem u1Low (st : Nat → Value) : cfgLow 100 (cfg (unHd st (v 2)) [] []) = true := by kernel_rfl
theorem u1O : (OO bsU [] []).low 100 = true := by kernel_rfl

/-! ### able -/
noncomputable def abWT : List Item := [.inRegion (opsOf (pc (bodyOf Try.f37) [1,1,0,0,0,0])) [1, 2, 3, 4, 5, 6], .code (pc (bodyOf Try.f37) [1,1,0,0,0,1]), .inBlock 3] ++ rTl
noncomputable def abW (st : Nat → Value) : AFrame := ⟨37, 80, tmpsOf 80 st rL, abWT, [], .run, .normal⟩
noncomputable def abB : Code := pc (bodyOf Try.f62) [1,1,0,1,0,0]
noncomputable def abR : Code := pc (bodyOf Try.f62) [1,1,1]
noncomputable def abTd : List Item := [.code abB, .inLoop abB, .inBlock 0, .code abR]
noncomputable def abl (z : Bool) : AV := match z with
  | true => nilA
  | false => slc 32 (v 7) (v 33)
noncomputable def abL (z : Bool) (i : IE) : List (Nat × AV) := [(2, abl z), (3, .bool (.lit z)), (9, slc 20 (v 1) (v 22)), (10, i64 (.tn (v 1))), (11, i64 i)]
noncomputable def abHd (st : Nat → Value) (z : Bool) (i : IE) : AFrame := ⟨62, 31, tmpsOf 31 st (abL z i), abTd, [], .run, .normal⟩
noncomputable def memA0 : List (AA × AV) := [(⟨.dyn 10, .lit 0⟩, slc 20 (v 1) (v 22))]
theorem r1 (st : Nat → Value) : seeF (runQ [] memA0 26 [] (cfg (rHd st) [] [])) [2, 3, 9, 10, 11] (lv37 [0, 1, 3]) = some (⟨62, 31, abTd, [], .run, .normal, [], [], (abL true (.lit 0)).map (·.2)⟩, [⟨37, 80, abWT, [], .run, .normal, [], [], rL.map (·.2)⟩]) := by kernel_rfl
theorem r1Low (st : Nat → Value) : cfgLow 100 (cfg (rHd st) [] []) = true := by kernel_rfl
theorem r1O : (OO [] [] memA0).low 100 = true := by kernel_rfl
/-- A thread that is looked at: has it ended? -/
noncomputable def memA (e : Bool) : List (AA × AV) := [(⟨.dyn 20, .tn (v 5)⟩, ptr0 14), (⟨.dyn 14, .lit 13⟩, .bool (.lit e))] ++ match e with
  | true => []
  | false => [(⟨.dyn 14, .lit 6⟩, .int .i8 (.lit 4))]
noncomputable def bsA (z e : Bool) : List (BE × Bool) := [(.cmp .lss (v 5) (.tn (v 1)), true), (.cmp .leq (.lit 0) (v 5), true)] ++ match z, e with
  | false, false => [(.cmp .leq (.plus (.tn (v 7)) (.lit 1)) (.lit 1048576), true)]
  | _, _ => []
noncomputable def hpA (z e : Bool) : List (Nat × ABlk) := match z, e with
  | false, false => [(32, .pre false 42 (v 7) [] [] [] 30 (v 33))]
  | _, _ => []
noncomputable def hpA' (z e : Bool) : List (Nat × ABlk) := match z, e with
  | true, false => [(101, .row [ptr0 14] 30 (v 101))]
  | false, false => [(101, .pre false 42 (v 7) [] [] [ptr0 14] 30 (v 101))]
  | _, true => []
noncomputable def abV (z e : Bool) : List AV := match z, e with
  | true, true => [nilA, TB]
  | false, true => [abl false, ff]
  | true, false => [slc 101 (.lit 1) (v 101), ff]
  | false, false => [slc 101 (.plus (.tn (v 7)) (.lit 1)) (v 101), ff]
noncomputable def nA (e : Bool) : Nat := match e with
  | true => 47
  | false => 53
noncomputable def kA (e : Bool) : List Nat := match e with
  | true => []
  | false => [101]
theorem a1 (z e : Bool) (st s37 : Nat → Value) : seeF (runQ (bsA z e) (memA e) (nA e) (kA e) (cfg (abHd st z (v 5)) [abW s37] (hpA z e))) [2, 3, 9, 10, 11] (lv37 [0, 1, 3]) = some (⟨62, 31, abTd, [], .run, .normal, [], hpA' z e, abV z e ++ [slc 20 (v 1) (v 22), i64 (.tn (v 1)), i64 (.op .add .i64 (v 5) (.lit 1))]⟩, [⟨37, 80, abWT, [], .run, .normal, [], [], rL.map (·.2)⟩]) := by cases z <;> cases e <;> kernel_rfl
theorem a1Low (z e : Bool) (st s37 : Nat → Value) : cfgLow 100 (cfg (abHd st z (v 5)) [abW s37] (hpA z e)) = true := by cases z <;> cases e <;> kernel_rfl
theorem a1O (z e : Bool) : (OO (bsA z e) [] (memA e)).low 100 = true := by cases z <;> cases e <;> kernel_rfl

/-! ### all have ended -/
noncomputable def bsE : List (BE × Bool) := [(.cmp .lss (v 5) (.tn (v 1)), false)]

/-! ### somebody is ready: up to the schedule's loop -/
noncomputable def scWT : List Item := [.inRegion (opsOf (pc (bodyOf Try.f37) [1,1,0,0,0,1,1,0])) [7, 8], .code (pc (bodyOf Try.f37) [1,1,0,0,0,1,1,1]), .inBlock 3] ++ rTl
noncomputable def scWL : List (Nat × AV) := [(0, ptr0 10), (1, i64 (.lit 4000)), (3, sched), (12, slc 32 (v 7) (v 33))]
noncomputable def scW (st : Nat → Value) : AFrame := ⟨37, 80, tmpsOf 80 st scWL, scWT, [], .run, .normal⟩
noncomputable def scB : Code := pc (bodyOf Try.f38) [1,1,1,1,0,1,0,0]
noncomputable def scR : Code := pc (bodyOf Try.f38) [1,1,1,1,1]
noncomputable def scTd : List Item := [.code scB, .inLoop scB, .inBlock 0, .code scR]
noncomputable def scL (la i : IE) : List (Nat × AV) := [(1, slc 32 (v 7) (v 33)), (7, i64 la), (40, slc 32 (v 7) (v 33)), (41, i64 (.tn (v 7))), (42, i64 i)]
noncomputable def scHd (st : Nat → Value) (la i : IE) : AFrame := ⟨38, 57, tmpsOf 57 st (scL la i), scTd, [], .run, .normal⟩
noncomputable def lasE (y : Bool) : IE := match y with
  | true => .lit (-1)
  | false => v 12
noncomputable def bsS (y : Bool) : List (BE × Bool) := [(.cmp .lss (v 5) (.tn (v 1)), false), (.cmp .eql (.tn (v 7)) (.lit 0), false)] ++ match y with
  | true => []
  | false => [(.cmp .eql (.tn (v 6)) (.lit 4000), false), (.cmp .lss (.tn (v 6)) (.lit 0), false), (.cmp .gtr (.tn (v 6)) (.lit 0), true), (.cmp .leq (.lit 0) (.op .sub .i64 (.tn (v 6)) (.lit 1)), true), (.cmp .lss (.op .sub .i64 (.tn (v 6)) (.lit 1)) (.tn (v 6)), true)]
noncomputable def memS1 (y : Bool) : List (AA × AV) := [(⟨.dyn 30, .lit 0⟩, nilA)] ++ match y with
  | true => [(⟨.dyn 10, .lit 3⟩, nilA)]
  | false => [(⟨.dyn 10, .lit 3⟩, slc 23 (v 6) (v 24)), (⟨.dyn 31, .lit 0⟩, ptr0 10), (⟨.dyn 23, .tn (.op .sub .i64 (.tn (v 6)) (.lit 1))⟩, i64 (v 12))]
noncomputable def nS (y : Bool) : Nat := match y with
  | true => 97
  | false => 107
theorem a3 (y : Bool) (st s37 : Nat → Value) : seeF (runQ (bsS y) (memS1 y) (nS y) [] (cfg (abHd st false (v 5)) [abW s37] [])) [1, 7, 40, 41, 42] (lv37 [0, 1, 3, 12]) = some (⟨38, 57, scTd, [], .run, .normal, [], [], (scL (lasE y) (.lit 0)).map (·.2)⟩, [⟨37, 80, scWT, [], .run, .normal, [], [], scWL.map (·.2)⟩]) := by cases y <;> kernel_rfl
theorem a3Low (st s37 : Nat → Value) : cfgLow 100 (cfg (abHd st false (v 5)) [abW s37] []) = true := by kernel_rfl
theorem a3O (y : Bool) : (OO (bsS y) [] (memS1 y)).low 100 = true := by cases y <;> kernel_rfl

/-! ### the schedule's loop: one that is not behind the last one -/
noncomputable def bsL (b : Bool) : List (BE × Bool) := [(.cmp .lss (v 5) (.tn (v 7)), true), (.cmp .leq (.lit 0) (v 5), true), (.cmp .gtr (v 11) (v 12), b)]
noncomputable def memL : List (AA × AV) := [(⟨.dyn 32, .tn (v 5)⟩, ptr0 14), (⟨.dyn 14, .lit 1⟩, i64 (v 11))]
theorem s1 (st s37 : Nat → Value) : seeF (runQ (bsL false) memL 32 [] (cfg (scHd st (v 12) (v 5)) [scW s37] [])) [1, 7, 40, 41, 42] (lv37 [0, 1, 3, 12]) = some (⟨38, 57, scTd, [], .run, .normal, [], [], (scL (v 12) (.op .add .i64 (v 5) (.lit 1))).map (·.2)⟩, [⟨37, 80, scWT, [], .run, .normal, [], [], scWL.map (·.2)⟩]) := by kernel_rfl
theorem s1Low (st s37 : Nat → Value) : cfgLow 100 (cfg (scHd st (v 12) (v 5)) [scW s37] []) = true := by kernel_rfl
theorem s1O (b : Bool) : (OO (bsL b) [] memL).low 100 = true := by cases b <;> kernel_rfl

/-! ### who goes is found: up to the send -/
noncomputable def runG (y : Bool) : List AV := match y with
  | true => [slc 20 (v 1) (v 22), .map (some (.dyn 15)), .opq 43, nilA, nilA, .opq 44, ff]
  | false => [slc 20 (v 1) (v 22), .map (some (.dyn 15)), .opq 43, slc 23 (v 6) (v 25), slc 24 (v 6) (v 26), .opq 44, ff]
noncomputable def runG' (y : Bool) : List AV := match y with
  | true => [slc 20 (v 1) (v 22), .map (some (.dyn 15)), .opq 43, slc 101 (.lit 1) (v 101), slc 103 (.lit 1) (v 103), .opq 44, ff]
  | false => [slc 20 (v 1) (v 22), .map (some (.dyn 15)), .opq 43, slc 101 (.plus (.tn (v 6)) (.lit 1)) (v 101), slc 103 (.plus (.tn (v 6)) (.lit 1)) (v 103), .opq 44, ff]
noncomputable def hpG (y : Bool) : List (Nat × ABlk) := match y with
  | true => [(10, .cells (runG true) 87)]
  | false => [(24, .pre false 41 (v 6) [] [] [] 3 (v 26)), (23, .pre false 40 (v 6) [] [] [] 3 (v 25)), (10, .cells (runG false) 87)]
noncomputable def arrG (y : Bool) (s : Nat) (x : AV) (n : Nat) : ABlk := match y with
  | true => .row [x] 3 (v n)
  | false => .pre false s (v 6) [] [] [x] 3 (v n)
noncomputable def hpG' (y : Bool) : List (Nat × ABlk) := [(103, arrG y 41 (i64 (.tn (v 7))) 103), (101, arrG y 40 (i64 (v 11)) 101), (10, .cells (runG' y) 87)]
noncomputable def bsG (y g : Bool) : List (BE × Bool) := (match g with
  | true => bsL true
  | false => [(.cmp .lss (v 5) (.tn (v 7)), false), (.cmp .lss (.lit 0) (.tn (v 7)), true)]) ++ match y with
  | true => []
  | false => [(.cmp .leq (.plus (.tn (v 6)) (.lit 1)) (.lit 1048576), true)]
noncomputable def memG (g : Bool) : List (AA × AV) := (match g with
  | true => (⟨.dyn 32, .tn (v 5)⟩, ptr0 14)
  | false => (⟨.dyn 32, .lit 0⟩, ptr0 14)) :: [(⟨.dyn 14, .lit 1⟩, i64 (v 11)), (⟨.dyn 14, .lit 2⟩, chb 26)]
noncomputable def nG (g : Bool) : Nat := match g with
  | true => 69
  | false => 53
noncomputable def gwT : List Item := [.inRegion (opsOf (pc (bodyOf Try.f37) [1,1,0,0,0,1,1,1,1,1,1])) [1], .inBlock 3] ++ rTl
noncomputable def gwW (st : Nat → Value) : AFrame := ⟨37, 80, tmpsOf 80 st rL, gwT, [], .run, .normal⟩
theorem s2 (y g : Bool) (st s37 : Nat → Value) : seeF (runQ (bsG y g) (memG g) (nG g) [103, 101, 10] (cfg (scHd st (v 12) (v 5)) [scW s37] (hpG y))) [0, 5, 6] (lv37 [0, 1, 3]) = some (⟨63, 12, gsTd, [], .run, .normal, [], hpG' y, [ptr0 14, chb 26, UN]⟩, [⟨37, 80, gwT, [], .run, .normal, [], [], rL.map (·.2)⟩]) := by cases y <;> cases g <;> kernel_rfl
theorem s2Low (y : Bool) (st s37 : Nat → Value) : cfgLow 100 (cfg (scHd st (v 12) (v 5)) [scW s37] (hpG y)) = true := by cases y <;> kernel_rfl
theorem s2O (y g : Bool) : (OO (bsG y g) [] (memG g)).low 100 = true := by cases y <;> cases g <;> kernel_rfl
/-- Back to the rounds' head. -/
theorem s3 (st s37 : Nat → Value) : seeF (runQ [] [] 6 [] (cfg (gsBk st) [gwW s37] [])) [0, 1, 3] nol = some (⟨37, 80, .code rB :: rTl, [], .run, .normal, [], [], rL.map (·.2)⟩, []) := by kernel_rfl
theorem s3Low (st s37 : Nat → Value) : cfgLow 100 (cfg (gsBk st) [gwW s37] []) = true := by kernel_rfl
theorem gwLow (st s37 : Nat → Value) : cfgLow 100 (cfg (gsSd st) [gwW s37] []) = true := by kernel_rfl
end Go.Proofs.Ythaddgfbohmfoaa
/-
  GateRounds: a body's turn: one addition, then it stands again, or it has ended: pieces, as closed data. Conditions: none.
-/
set_option maxRecDepth 100000
set_option linter.unusedVariables false
set_option linter.unusedSimpArgs false
namespace Go.Proofs.Ythaddgfbohmfoaa
open Go.Proofs.Ythaddgfbohmfoaa.SX Go.Conc

noncomputable def stTb : List Item := [.inRegion (opsOf (pc (bodyOf Try.f33) [1,0,1,0,1,1])) [], .code (pc (bodyOf Try.f33) [1,1])]
noncomputable def stN (st : Nat → Value) : AFrame := ⟨33, 41, tmpsOf 41 st [(0, ptr0 14)], stTb, [], .run, .normal⟩
theorem stBkSeen (st : Nat → Value) : frSeen (stBk st) [0] = ⟨33, 41, stTb, [], .run, .normal, [], [], [ptr0 14]⟩ := by kernel_rfl
noncomputable def spK : List (Nat × AV) := [(0, ptr0 14), (1, ptr0 13), (2, .int .i8 (.lit 4)), (3, i64 (.lit 1)), (4, i64 (.lit 0)), (13, ptr0 25)]
noncomputable def cbK : List (Nat × AV) := [(0, ptr0 14), (1, ptr0 11), (2, ptr0 12), (3, ptr0 13), (5, .int .u8 (v 3))]
theorem spSeen (st : Nat → Value) : frSeen (spW st) (spK.map (·.1)) = ⟨11, 127, spTd, [], .run, .normal, [], [], spK.map (·.2)⟩ := by kernel_rfl
theorem cbSeen (st : Nat → Value) : frSeen (cbW st) (cbK.map (·.1)) = ⟨10, 17, cbTd, [], .run, .normal, [], [], cbK.map (·.2)⟩ := by kernel_rfl
theorem chSeen (st : Nat → Value) : frSeen (chW st) [] = ⟨76, 14, chTd, dfr 16 17, .run, .deferred, [], [], []⟩ := by kernel_rfl
noncomputable def runT (y : Bool) : List AV := [.opq 44, .map (some (.dyn 15)), match y with
  | true => nilA
  | false => slc 39 (v 36) (v 38), .opq 45, .opq 46, .opq 47, ff]
noncomputable def runT' (y : Bool) : List AV := [.opq 44, .map (some (.dyn 15)), match y with
  | true => slc 101 (.lit 1) (v 101)
  | false => slc 101 (.plus (.tn (v 36)) (.lit 1)) (v 101), .opq 45, .opq 46, .opq 47, ff]
noncomputable def mapT (y : Bool) : List (AV × AV) := match y with
  | true => []
  | false => [(ptr0 13, i64 (.lit 0))]
noncomputable def xT : IE := .op .add .i64 (v 37) (.lit 1)
noncomputable def logT : List AV := [i64 (v 2), .int .i8 (.lit 4), i64 (.lit 0), i64 (.lit 1), i64 (.lit 0), i64 (v 37), i64 xT, ff]
noncomputable def hpR (y : Bool) : List (Nat × ABlk) := (match y with
  | true => []
  | false => [(39, .pre false 48 (v 36) [] [] [] 61 (v 38))]) ++ [(25, .cells atS 61), (15, .map (mapT y)), (14, .lent (thrC (v 2) 14 26 27 (ptr0 13) atS ff) 78 [3]), (13, .cells [i64 (v 37)] 28), (10, .cells (runT y) 87)]
noncomputable def logB (y : Bool) : ABlk := match y with
  | true => .row logT 61 (v 101)
  | false => .pre false 48 (v 36) [] [] logT 61 (v 101)
noncomputable def hpR' (y : Bool) (e : AV) : List (Nat × ABlk) := [(101, logB y), (15, .map [(ptr0 13, i64 (.lit 0))]), (14, .lent (thrC (v 2) 14 26 27 (ptr0 13) atS e) 78 [3]), (13, .cells [i64 xT] 28), (10, .cells (runT' y) 87)]
noncomputable def memT : List (AA × AV) := [(⟨.dyn 16, .lit 0⟩, ptr0 10), (⟨.dyn 17, .lit 0⟩, ptr0 14), (⟨.dyn 11, .lit 0⟩, .slice (some ⟨.dyn 9, v 8⟩) (v 1) (v 7)), (⟨.dyn 12, .lit 0⟩, i64 (v 2)), (⟨.dyn 9, .plus (.tn (v 8)) (.tn (v 2))⟩, .int .u8 (v 4))]
noncomputable def bsT (y b : Bool) : List (BE × Bool) := [(.cmp .lss (v 2) (.tn (v 1)), true), (.cmp .leq (.lit 0) (v 2), true), (.cmp .lss (.op .add .u8 (v 3) (.lit 1)) modE, b)] ++ match y with
  | true => []
  | false => [(.cmp .leq (.plus (.tn (v 36)) (.lit 1)) (.lit 1048576), true)]
noncomputable def nT (y b : Bool) : Nat := match y, b with
  | true, true => 311
  | true, false => 228
  | false, true => 288
  | false, false => 205
theorem t1A (y : Bool) (s33 s11 s10 s76 : Nat → Value) : seeF (runQ (bsT y true) memT (nT y true) [102, 101, 15, 14, 13, 10] (cfg (stN s33) (stCl s11 s10 s76) (hpR y))) [0, 25, 26] lvC = some (⟨33, 41, stTd, [], .run, .normal, [], (102, .cells atS 61) :: hpR' y ff, [ptr0 14, chb 27, UN]⟩, stC (.op .add .u8 (v 3) (.lit 1)) 102) := by cases y <;> kernel_rfl
theorem t1Low (y : Bool) (s33 s11 s10 s76 : Nat → Value) : cfgLow 100 (cfg (stN s33) (stCl s11 s10 s76) (hpR y)) = true := by cases y <;> kernel_rfl
theorem t1O (y b : Bool) : (OO (bsT y b) [] memT).low 100 = true := by cases y <;> cases b <;> kernel_rfl
noncomputable def t1E (y : Bool) (s33 s11 s10 s76 : Nat → Value) : ACfg := okCf (runQ (bsT y false) memT (nT y false) [101, 15, 14, 13, 10] (cfg (stN s33) (stCl s11 s10 s76) (hpR y)))
theorem t1B (y : Bool) (s33 s11 s10 s76 : Nat → Value) : runQ (bsT y false) memT (nT y false) [101, 15, 14, 13, 10] (cfg (stN s33) (stCl s11 s10 s76) (hpR y)) = .ok (t1E y s33 s11 s10 s76) := by cases y <;> kernel_rfl
theorem t1Bhp (y : Bool) (s33 s11 s10 s76 : Nat → Value) : (t1E y s33 s11 s10 s76).h.hp = hpR' y TB := by cases y <;> kernel_rfl
theorem t1Bsend (y : Bool) (s33 s11 s10 s76 : Nat → Value) : sendAt? (t1E y s33 s11 s10 s76).cur = some (.dyn 27, UN, finF (t1E y s33 s11 s10 s76).cur undefA) := by cases y <;> kernel_rfl
theorem t1Bleave (y : Bool) (s33 s11 s10 s76 : Nat → Value) : leave? Try.prog (OLm []) noExt 400 ⟨finF (t1E y s33 s11 s10 s76).cur undefA, (t1E y s33 s11 s10 s76).callers, e0⟩ = true := by cases y <;> kernel_rfl
end Go.Proofs.Ythaddgfbohmfoaa
/-
  GateRounds: memory between the rounds; able goes through the threads. Conditions: none.
-/
set_option maxRecDepth 100000
set_option linter.unusedVariables false
set_option linter.unusedSimpArgs false
namespace Go.Proofs.Ythaddgfbohmfoaa
open Go.Proofs.Ythaddgfbohmfoaa.SX Go.Conc
open Go.ConcN (upd upd_ne upd_same)

/-- A map's entries. -/
def MapAt (w : World) (b : Nat) (es : List (Value × Value)) : Prop := ∃ arr clk, w.heap[b]? = some (.map arr clk) ∧ arr.toList.map (fun e => (e.key, e.val)) = es
theorem MapAt.keep {w w' : World} {b : Nat} {es : List (Value × Value)} {own : Nat → Prop} (h : MapAt w b es) (kp : Keeps own w w') (hb : ¬ own b) : MapAt w' b es := by
  obtain ⟨arr, clk, h1, h2⟩ := h
  exact ⟨arr, clk, by rw [kp.heap b hb]; exact h1, h2⟩
theorem MapAt.lt {w : World} {b : Nat} {es : List (Value × Value)} (h : MapAt w b es) : b < w.heap.size := by
  obtain ⟨arr, clk, h1, h2⟩ := h
  exact heap_lt h1
theorem MapAt.noTy {w : World} {b b' : Nat} {es : List (Value × Value)} {e : TypeId} (h : MapAt w b es) (h' : Ty w b' e) : b ≠ b' := by
  rintro rfl
  obtain ⟨arr, clk, h1, h2⟩ := h
  obtain ⟨a, f, h3⟩ := h'
  rw [h1] at h3; cases h3
theorem MapAt.noChan {w : World} {b b' : Nat} {es : List (Value × Value)} (h : MapAt w b es) (h' : ChanAt w b') : b ≠ b' := by
  rintro rfl
  obtain ⟨arr, clk, h1, h2⟩ := h
  obtain ⟨k, h3⟩ := h'
  rw [h1] at h3; cases h3

def intsL (g : List Nat) : List Value := g.map fun n : Nat => iV (n : Int)
/-- Where the lists lie. -/
structure Lay where
  TA : Nat
  cT : Nat
  FA : Nat
  cF : Nat
  LA : Nat
  cL : Nat
  WA : Nat
  cW : Nat
  RA : Nat
  cR : Nat

/-- Memory between the rounds: so often each has gone; who went. -/
structure Mem (D : Dat) (th : Nat → Thr) (Inb : Nat → Option Tok.Seat) (c : Nat → Nat) (g : List Nat) (Y : Lay) (w : World) : Prop where
  stat : StatOk D w
  run : ObjAt w D.R (runV D (hdV D.n Y.TA Y.cT) (hdV g.length Y.LA Y.cL) (hdV g.length Y.WA Y.cW) (hdV g.length Y.RA Y.cR) (hdV D.n Y.FA Y.cF) false) 87
  arrT : 0 < D.n → VecAt Try.prog w 30 Y.TA (psL D.n th) Y.cT
  arrF : 0 < D.n → VecAt Try.prog w 4 Y.FA (fsL D.n) Y.cF
  log : 0 < g.length → ∃ xs, xs.length = 8 * g.length ∧ xs[2]? = some (iV 0) ∧ VecAt Try.prog w 61 Y.LA xs Y.cL
  went : 0 < g.length → VecAt Try.prog w 3 Y.WA (intsL g) Y.cW
  ready : 0 < g.length → ∃ xs, xs.length = g.length ∧ VecAt Try.prog w 3 Y.RA xs Y.cR
  map : MapAt w D.MB (match g.length with | 0 => [] | _ + 1 => [(ptrV D.X, iV 0)])
  x : ObjAt w D.X [iV g.length] 28
  thr : ∀ j, j < D.n → ThrOk D w j (th j) ∧ Now D w j (c j) (th j) (Inb (D.N0 + j))
  inb : ∀ k s, Inb k = some s → ∃ j, j < D.n ∧ k = D.N0 + j
  s1 : ObjAt w D.s1 [nilV] 37
  s2 : ObjAt w D.s2 [ptrV D.R] 75
  n0 : 1 ≤ D.N0
  bR : D.base ≤ D.R
  bX : D.base ≤ D.X
  bM : D.base ≤ D.MB
  bT : ∀ j, j < D.n → D.base ≤ (th j).sd ∧ D.base ≤ (th j).T
  chs : ∀ x j, x < D.n → j < D.n → (th x).wk ≠ (th j).sd
  bL : 0 < g.length → D.base ≤ Y.LA ∧ D.base ≤ Y.WA ∧ D.base ≤ Y.RA
  wr : 0 < g.length → Y.WA ≠ Y.RA
  ci : 0 < g.length → ∀ j, j < D.n → D.ci j ≠ Y.WA ∧ D.ci j ≠ Y.RA
  m : g.length ≤ 1300

/-- Whoever sits looks at threads alone. -/
theorem Mem.still {D : Dat} {th : Nat → Thr} {Inb : Nat → Option Tok.Seat} {c : Nat → Nat} {g : List Nat} {Y : Lay} {w : World} (M : Mem D th Inb c g Y w) {b n : Nat} (h : stillI Inb b n) : ∃ j, j < D.n ∧ b = (th j).T ∧ n = 2 := by
  obtain ⟨k, s, e, hl⟩ := h
  obtain ⟨j, hj, rfl⟩ := M.inb k s e
  obtain ⟨_, hN⟩ := M.thr j hj
  rcases hN with ⟨_, AB, s33, s11, s10, s76, B, hs, _⟩ | ⟨_, hs, _⟩
  · rw [hs] at e
    cases e
    have := stSeat_still.1 hl
    have e2 : (⟨b, n, none⟩ : Addr) = ⟨(th j).T, 2, none⟩ := Loc.cell.inj this
    exact ⟨j, hj, congrArg Addr.block e2, congrArg Addr.off e2⟩
  · rw [hs] at e; cases e

/-- Memory stays where what is new alone is owned. -/
theorem Mem.keepN {D : Dat} {th : Nat → Thr} {Inb : Nat → Option Tok.Seat} {c : Nat → Nat} {g : List Nat} {Y : Lay} {w w' : World} (M : Mem D th Inb c g Y w) (kp : Keeps (fun b => w.heap.size ≤ b) w w') : Mem D th Inb c g Y w' := by
  have no : ∀ {b : Nat}, b < w.heap.size → ¬ w.heap.size ≤ b := fun h => Nat.not_le.2 h
  refine ⟨?_, M.run.keep kp (no M.run.lt), fun h => (M.arrT h).keep kp (no (M.arrT h).lt), fun h => (M.arrF h).keep kp (no (M.arrF h).lt), fun h => ?_, fun h => (M.went h).keep kp (no (M.went h).lt), fun h => ?_, M.map.keep kp (no M.map.lt), M.x.keep kp (no M.x.lt), fun j hj => ?_, M.inb, M.s1.keep kp (no M.s1.lt), M.s2.keep kp (no M.s2.lt), M.n0, M.bR, M.bX, M.bM, M.bT, M.chs, M.bL, M.wr, M.ci, M.m⟩
  · refine ⟨M.stat.box.keep kp (no M.stat.box.lt), fun i hi => ?_, fun i hi => (M.stat.ci i hi).keep kp (no (M.stat.ci i hi).lt), fun i hi => ?_, M.stat.bty.keep kp (no M.stat.bty.lt), M.stat.old, M.stat.o8, M.stat.n40⟩
    · have := M.stat.often i hi
      have hl : D.ob < w.heap.size := cellLt this
      simp only [World.cell?] at this ⊢
      rw [kp.heap _ (no hl)]; exact this
    · have := M.stat.body i hi
      have hl : D.BA < w.heap.size := cellLt this
      simp only [World.cell?] at this ⊢
      rw [kp.heap _ (no hl)]; exact this
  · obtain ⟨xs, h1, h2, h3⟩ := M.log h
    exact ⟨xs, h1, h2, h3.keep kp (no h3.lt)⟩
  · obtain ⟨xs, h1, h3⟩ := M.ready h
    exact ⟨xs, h1, h3.keep kp (no h3.lt)⟩
  · obtain ⟨h, hN⟩ := M.thr j hj
    refine ⟨⟨h.c2.keep kp (no h.c2.lt), h.c3.keep kp (no h.c3.lt), h.c5.keep kp (no h.c5.lt), h.wk.keep kp (no h.wk.lt), h.sd.keep kp (no h.sd.lt), h.T.keep kp (no h.T.lt)⟩, ?_⟩
    rcases hN with ⟨hk, AB, s33, s11, s10, s76, Bb, hs, oAB, oT⟩ | ⟨hk, hs, vv, a, ha, oT⟩
    · exact .inl ⟨hk, AB, s33, s11, s10, s76, Bb, hs, oAB.keep kp (no oAB.lt), oT.keep kp (no oT.lt)⟩
    · exact .inr ⟨hk, hs, vv, a, ha, oT.keep kp (no oT.lt)⟩

/-- Who is ready among the first ones. -/
def rdy (D : Dat) (c : Nat → Nat) (i : Nat) : List Nat := (List.range i).filter fun j => decide (c j < D.k j)
theorem rdy_succ (D : Dat) (c : Nat → Nat) (i : Nat) : rdy D c (i + 1) = rdy D c i ++ (if c i < D.k i then [i] else []) := by
  unfold rdy
  rw [List.range_succ, List.filter_append]
  by_cases h : c i < D.k i
  · simp [h]
  · simp [h]
def rdyL (th : Nat → Thr) (l : List Nat) : List Value := l.map fun j => ptrV (th j).T
theorem rdy_len (D : Dat) (c : Nat → Nat) (i : Nat) : (rdy D c i).length ≤ i := by
  have := List.length_filter_le (fun j => decide (c j < D.k j)) (List.range i)
  simpa [rdy] using this

noncomputable def ablE (D : Dat) (i : Nat) (t : Thr) (Y : Lay) (LB lc ll : Nat) (xs : List Value) : Env := mkE [(1, D.n), (5, i), (7, ll), (22, Y.cT), (33, lc), (29, D.cB)] [(10, D.R), (14, t.T), (20, Y.TA), (28, D.BA), (30, D.s1), (31, D.s2), (32, LB)] [(42, .agg xs.toArray)]
end Go.Proofs.Ythaddgfbohmfoaa
/-
  GateRounds: able goes through the threads: those that are ready, rising. Conditions: none.
-/
set_option maxRecDepth 100000
set_option linter.unusedVariables false
set_option linter.unusedSimpArgs false
namespace Go.Proofs.Ythaddgfbohmfoaa
open Go.Proofs.Ythaddgfbohmfoaa.SX Go.Conc

section
variable {D : Dat} {W0 : World} {cs : List Frame} {th : Nat → Thr} {Inb : Nat → Option Tok.Seat} {c : Nat → Nat} {g : List Nat} {Y : Lay} {N : Nat}

def noneYet (l : List Nat) : Bool := match l with
  | [] => true
  | _ :: _ => false
theorem noneYet_f {l : List Nat} (h : noneYet l = false) : 0 < l.length := by
  cases l with
  | nil => cases h
  | cons a b => exact Nat.succ_pos _
theorem noneYet_t {l : List Nat} (h : noneYet l = true) : l = [] := by
  cases l with
  | nil => rfl
  | cons a b => cases h

/-- able's loop, at thread i; 'w0': memory at its entry. -/
structure AbAt (D : Dat) (W0 : World) (cs : List Frame) (th : Nat → Thr) (Inb : Nat → Option Tok.Seat) (c : Nat → Nat) (Y : Lay) (N : Nat) (w0 : World) (i : Nat) (m : Machine) (T : Trace) (w : World) (st s37 : Nat → Value) (fr f37 : Frame) (LB lc : Nat) : Prop where
  at' : SAt Try.prog D.base W0 Inb 0 N m T (G fr (f37 :: cs)) w
  keeps : Keeps (fun b => w0.heap.size ≤ b) w0 w
  fr : ∀ t xs, FrRel Try.prog (ablE D i t Y LB lc (rdy D c i).length xs) (abHd st (noneYet (rdy D c i)) (v 5)) fr
  f37 : ∀ i t LB lc ll xs, FrRel Try.prog (ablE D i t Y LB lc ll xs) (abW s37) f37
  vec : noneYet (rdy D c i) = false → w0.heap.size ≤ LB ∧ VecAt Try.prog w 30 LB (rdyL th (rdy D c i)) lc

theorem able_step {w0 w : World} {i : Nat} {m : Machine} {T : Trace} {st s37 : Nat → Value} {fr f37 : Frame} {LB lc : Nat} (M : Mem D th Inb c g Y w0) (hs0 : D.base ≤ w0.heap.size) (hi : i < D.n) (A : AbAt D W0 cs th Inb c Y N w0 i m T w st s37 fr f37 LB lc) :
    Gets Try.prog m T fun m' T' => ∃ w' st' s37' fr' f37' LB' lc', AbAt D W0 cs th Inb c Y N w0 (i + 1) m' T' w' st' s37' fr' f37' LB' lc' := by
  have n40 := M.stat.n40
  have hsz := A.keeps.size
  have no : ∀ {b : Nat}, b < w0.heap.size → ¬ w0.heap.size ≤ b := fun h => Nat.not_le.2 h
  obtain ⟨z, hz⟩ : ∃ z, z = noneYet (rdy D c i) := ⟨_, rfl⟩
  obtain ⟨e, he⟩ : ∃ e : Bool, e = decide (D.k i ≤ c i) := ⟨_, rfl⟩
  obtain ⟨hTh, hN⟩ := M.thr i hi
  have hT13 : w0.cell? ⟨(th i).T, 13, none⟩ = some (.bool e) ∧ (e = false → w0.cell? ⟨(th i).T, 6, none⟩ = some (.int .i8 4)) := by
    rcases hN with ⟨hk, AB, s33, s11, s10, s76, Bb, hs, oAB, oT⟩ | ⟨hk, hs, vv, a, ha, oT⟩
    · have : e = false := by rw [he]; exact decide_eq_false (by omega)
      subst this
      exact ⟨oT.cell rfl, fun _ => oT.cell rfl⟩
    · have : e = true := by rw [he]; exact decide_eq_true hk
      subst this
      refine ⟨oT.cell ?_, fun h => by cases h⟩
      unfold thrV
      rw [List.getElem?_append_right (by simp [ha]), List.length_append, ha]
      rfl
  have hlT : (th i).T < w0.heap.size := hTh.T.lt
  have cT : ∀ {n : Nat} {v : Value}, w0.cell? ⟨(th i).T, n, none⟩ = some v → w.cell? ⟨(th i).T, n, none⟩ = some v := fun {n v} h => by
    simp only [World.cell?] at h ⊢
    rw [A.keeps.heap _ (no hlT)]; exact h
  have vT := M.arrT (by omega)
  have cA : w.cell? ⟨Y.TA, i, none⟩ = some (ptrV (th i).T) := by
    have h := (vT.keep A.keeps (no vT.lt)).arr i (ptrV (th i).T) (by simp [psL, List.getElem?_map, List.getElem?_range hi])
    rwa [Nat.zero_add] at h
  have hll : (rdy D c i).length ≤ i := rdy_len D c i
  -- what it owns
  have vec' := A.vec
  rw [← hz] at vec'
  have own : ∀ b, (w.heap.size ≤ b ∨ (z = false ∧ e = false ∧ b = LB)) → (SK Try.prog D.base Inb).own b := fun b hb => hb.elim (A.at'.new b) fun ⟨h1, _, h2⟩ => by
    subst h2
    refine ⟨Nat.le_trans hs0 (vec' h1).1, fun ⟨k, s, e, ec⟩ => ?_⟩
    exact (vec' h1).2.ty.noChan (A.at'.chan e) ec.symm
  have notown : ∀ {b : Nat}, b < w0.heap.size → ¬ (w.heap.size ≤ b ∨ (z = false ∧ e = false ∧ b = LB)) := fun h x => x.elim (fun x => by omega) fun ⟨h1, _, h2⟩ => by
    have := (vec' h1).1
    omega
  have hfr := A.fr (th i) (rdyL th (rdy D c i))
  rw [← hz] at hfr
  refine (walkP (cs := cs) (frs := [f37]) A.at' own (fun n hn => .inl hn) (a1 z e st s37) (a1Low z e st s37) (a1O z e) hfr ⟨A.f37 _ _ _ _ _ _, trivial⟩ (fun p hp => ?_) (fun p hp => ?_) (fun p hp => ?_) (fun p hp => ?_) ?_ (fun p hp n hn => ?_)).mono fun m1 T1 hd => ?_
  · have hp' : p = (.cmp .lss (v 5) (.tn (v 1)), true) ∨ p = (.cmp .leq (.lit 0) (v 5), true) ∨ p = (.cmp .leq (.plus (.tn (v 7)) (.lit 1)) (.lit 1048576), true) := by
      cases z <;> cases e <;> simp only [bsA, List.append_nil, List.mem_append, List.mem_cons, List.not_mem_nil, or_false] at hp
      · rcases hp with (h | h) | h
        · exact .inl h
        · exact .inr (.inl h)
        · exact .inr (.inr h)
      all_goals
        rcases hp with h | h
        · exact .inl h
        · exact .inr (.inl h)
    rcases hp' with rfl | rfl | rfl
    · show decide ((i : Int) < (((D.n : Nat) : Int).toNat : Int)) = true
      exact decide_eq_true (by omega)
    · show decide ((0 : Int) ≤ (i : Int)) = true
      exact decide_eq_true (by omega)
    · show decide (((((rdy D c i).length : Nat) : Int).toNat : Int) + 1 ≤ 1048576) = true
      exact decide_eq_true (by omega)
  · have hp' : p = (⟨.dyn 20, .tn (v 5)⟩, ptr0 14) ∨ p = (⟨.dyn 14, .lit 13⟩, .bool (.lit e)) ∨ (e = false ∧ p = (⟨.dyn 14, .lit 6⟩, .int .i8 (.lit 4))) := by
      cases e <;> simp only [memA, List.append_nil, List.mem_append, List.mem_cons, List.not_mem_nil, or_false] at hp
      · rcases hp with (h | h) | h
        · exact .inl h
        · exact .inr (.inl h)
        · exact .inr (.inr ⟨rfl, h⟩)
      · rcases hp with h | h
        · exact .inl h
        · exact .inr (.inl h)
    rcases hp' with rfl | rfl | ⟨h, rfl⟩
    · exact ⟨notown vT.lt, cA⟩
    · exact ⟨notown hlT, cT hT13.1⟩
    · exact ⟨notown hlT, cT (hT13.2 h)⟩
  · have hp' : z = false ∧ p = (32, .pre false 42 (v 7) [] [] [] 30 (v 33)) := by
      cases z <;> cases e <;> simp only [hpA, List.mem_cons, List.not_mem_nil, or_false] at hp
      exact ⟨rfl, hp⟩
    obtain ⟨h1, rfl⟩ := hp'
    exact (vec' h1).2.is (ρ := ablE D i (th i) Y LB lc (rdy D c i).length (rdyL th (rdy D c i))) rfl (fun inf hinf => by
      rw [psize 30 (.inl rfl) inf hinf]
      show (rdyL th (rdy D c i)).length = (((rdy D c i).length : Nat) : Int).toNat * 1
      simp [rdyL]) (fun p hp => by cases hp) rfl
  · have hp' : z = false ∧ e = false ∧ p = (32, .pre false 42 (v 7) [] [] [] 30 (v 33)) := by
      cases z <;> cases e <;> simp only [hpA, List.mem_cons, List.not_mem_nil, or_false] at hp
      exact ⟨rfl, rfl, hp⟩
    obtain ⟨h1, h0, rfl⟩ := hp'
    exact .inr ⟨h1, h0, rfl⟩
  · cases z <;> cases e <;> simp [hpA]
  · have hp' : z = false ∧ p = (32, .pre false 42 (v 7) [] [] [] 30 (v 33)) := by
      cases z <;> cases e <;> simp only [hpA, List.mem_cons, List.not_mem_nil, or_false] at hp
      exact ⟨rfl, hp⟩
    obtain ⟨h1, rfl⟩ := hp'
    exfalso
    obtain ⟨j, hj, e2, _⟩ := M.still hn
    have := (M.thr j hj).1.T.lt
    have h3 : LB = (th j).T := e2
    have := (vec' h1).1
    omega
  obtain ⟨w1, ρ', hh, a1', cl, fr', frs', C⟩ := hd
  have kp1 : Keeps (fun b => w0.heap.size ≤ b) w w1 := C.keeps.mono fun b hb => hb.elim (fun h => Nat.le_trans hsz h) fun ⟨h1, _, h2⟩ => h2 ▸ (vec' h1).1
  obtain ⟨a37, rfl, e37⟩ := map_one C.cls
  obtain ⟨g37, rfl, r37⟩ := frs_one C.frs
  have n37 : a37.fn = 37 := congrArg Seen.fn e37
  rw [n37] at e37
  obtain ⟨q37, t37⟩ := FrRel.toldF r37 (lv := rL) e37 (.inl rfl)
  have x1 : ρ'.i 1 = D.n := C.agree.i 1 (by decide)
  have x5 : ρ'.i 5 = i := C.agree.i 5 (by decide)
  have x7 : ρ'.i 7 = (rdy D c i).length := C.agree.i 7 (by decide)
  have x22 : ρ'.i 22 = Y.cT := C.agree.i 22 (by decide)
  have x33 : ρ'.i 33 = lc := C.agree.i 33 (by decide)
  have y10 : ρ'.b 10 = D.R := C.agree.b 10 (by decide)
  have y14 : ρ'.b 14 = (th i).T := C.agree.b 14 (by decide)
  have y20 : ρ'.b 20 = Y.TA := C.agree.b 20 (by decide)
  have y30 : ρ'.b 30 = D.s1 := C.agree.b 30 (by decide)
  have y31 : ρ'.b 31 = D.s2 := C.agree.b 31 (by decide)
  have y32 : ρ'.b 32 = LB := C.agree.b 32 (by decide)
  have v42 : ρ'.v 42 = .agg (rdyL th (rdy D c i)).toArray := by rw [C.agree.v]; rfl
  have ei : iop .add .i64 (i : Int) 1 = ((i + 1 : Nat) : Int) := by
    show IntKind.wrap .i64 ((i : Int) + 1) = _
    rw [wrapN (by omega)]; rfl
  have g37' : ∀ i t LB lc ll xs, FrRel Try.prog (ablE D i t Y LB lc ll xs) (abW q37) g37 := fun i t LB lc ll xs => t37 _ (by
    simp only [rL, sched, List.map_cons, List.map_nil, AV.evs, ptr0, i64, AV.ev, Option.map_some, AA.ev, BR.ev, IE.ev, y10, y30, y31]
    rfl)
  cases e with
  | true =>
    have hr : rdy D c (i + 1) = rdy D c i := by
      rw [rdy_succ, if_neg (by have := of_decide_eq_true he.symm; omega), List.append_nil]
    obtain ⟨s1, t1⟩ := FrRel.toldF C.fr (lv := abL z (v 5)) C.cur (.inl rfl)
    refine ⟨w1, s1, q37, fr', g37, LB, lc, C.at', A.keeps.trans kp1, fun t xs => ?_, g37', fun h => ?_⟩
    · rw [hr, ← hz]
      refine t1 _ ?_
      cases z with
      | true =>
        simp only [abL, abV, abl, nilA, TB, slc, List.map_cons, List.map_nil, List.cons_append, List.nil_append, AV.evs, i64, v, AV.ev, Option.map_some, Option.map_none, AA.ev, BR.ev, IE.ev, BE.ev, x1, x5, x22, y20, ei]
        rfl
      | false =>
        simp only [abL, abV, abl, ff, slc, List.map_cons, List.map_nil, List.cons_append, List.nil_append, AV.evs, i64, v, AV.ev, Option.map_some, Option.map_none, AA.ev, BR.ev, IE.ev, BE.ev, x1, x5, x7, x22, x33, y20, y32, ei]
        rfl
    · rw [hr] at h ⊢
      rw [← hz] at h
      obtain ⟨h1, h2⟩ := vec' h
      refine ⟨h1, ?_⟩
      exact h2.keep C.keeps fun x => x.elim (fun x => absurd h2.lt (Nat.not_lt.2 x)) fun ⟨_, x, _⟩ => by cases x
  | false =>
    have hr : rdy D c (i + 1) = rdy D c i ++ [i] := by
      rw [rdy_succ, if_pos (by have := of_decide_eq_false he.symm; omega)]
    have hn : noneYet (rdy D c i ++ [i]) = false := by cases rdy D c i <;> rfl
    have eL : rdyL th (rdy D c i ++ [i]) = rdyL th (rdy D c i) ++ [ptrV (th i).T] := by simp [rdyL]
    have eP : AV.evs ρ' [ptr0 14] = [ptrV (th i).T] := by
      simp only [AV.evs, ptr0, AV.ev, Option.map_some, AA.ev, BR.ev, IE.ev, y14]
      rfl
    have vL : w0.heap.size ≤ ρ'.b 101 ∧ VecAt Try.prog w1 30 (ρ'.b 101) (rdyL th (rdy D c i) ++ [ptrV (th i).T]) (ρ'.i 101).toNat := by
      cases z with
      | true =>
        have f : findB 101 hh.hp = some (.row [ptr0 14] 30 (v 101)) := by rw [C.hp]; rfl
        have h := vec_of_row C.rel f
        have o := C.rel.own _ _ f rfl
        rw [eP] at h
        rw [noneYet_t hz.symm]
        exact ⟨o.elim (fun x => Nat.le_trans hsz x) fun ⟨x, _⟩ => by (cases x), h⟩
      | false =>
        have f : findB 101 hh.hp = some (.pre false 42 (v 7) [] [] [ptr0 14] 30 (v 101)) := by rw [C.hp]; rfl
        have h := vec_of_pre C.rel f v42
        have o := C.rel.own _ _ f rfl
        rw [eP] at h
        exact ⟨o.elim (fun x => Nat.le_trans hsz x) fun ⟨_, _, x⟩ => x ▸ (vec' rfl).1, h⟩
    obtain ⟨s1, t1⟩ := FrRel.toldF C.fr (lv := abL false (v 5)) C.cur (.inl rfl)
    refine ⟨w1, s1, q37, fr', g37, ρ'.b 101, (ρ'.i 101).toNat, C.at', A.keeps.trans kp1, fun t xs => ?_, g37', fun h => ?_⟩
    · rw [hr, hn]
      refine t1 _ ?_
      rw [List.length_append]
      cases z with
      | true =>
        rw [noneYet_t hz.symm]
        simp only [abL, abV, abl, ff, slc, List.map_cons, List.map_nil, List.cons_append, List.nil_append, AV.evs, i64, v, AV.ev, Option.map_some, Option.map_none, AA.ev, BR.ev, IE.ev, BE.ev, x1, x5, x22, y20, ei]
        rfl
      | false =>
        simp only [abL, abV, abl, ff, slc, List.map_cons, List.map_nil, List.cons_append, List.nil_append, AV.evs, i64, v, AV.ev, Option.map_some, Option.map_none, AA.ev, BR.ev, IE.ev, BE.ev, x1, x5, x7, x22, y20, ei]
        rfl
    · rw [hr, eL]
      exact vL

theorem able_loop {w0 : World} (M : Mem D th Inb c g Y w0) (hs0 : D.base ≤ w0.heap.size) : ∀ (mm i : Nat) {m : Machine} {T : Trace} {w : World} {st s37 : Nat → Value} {fr f37 : Frame} {LB lc : Nat}, i + mm = D.n → AbAt D W0 cs th Inb c Y N w0 i m T w st s37 fr f37 LB lc →
    Gets Try.prog m T fun m' T' => ∃ w' st' s37' fr' f37' LB' lc', AbAt D W0 cs th Inb c Y N w0 D.n m' T' w' st' s37' fr' f37' LB' lc' := by
  intro mm
  induction mm with
  | zero =>
    intro i m T w st s37 fr f37 LB lc h A
    obtain rfl : i = D.n := by omega
    exact Gets.refl ⟨_, _, _, _, _, _, _, A⟩
  | succ mm ih =>
    intro i m T w st s37 fr f37 LB lc h A
    refine (able_step M hs0 (by omega) A).trans fun m1 T1 hd => ?_
    obtain ⟨w', st', s37', fr', f37', LB', lc', A'⟩ := hd
    exact ih (i + 1) (by omega) A'
end
end Go.Proofs.Ythaddgfbohmfoaa
/-
  GateRounds: the schedule goes through those that are ready. Conditions: none.
-/
set_option maxRecDepth 100000
set_option linter.unusedVariables false
set_option linter.unusedSimpArgs false
namespace Go.Proofs.Ythaddgfbohmfoaa
open Go.Proofs.Ythaddgfbohmfoaa.SX Go.Conc

theorem hdV_pos {i b c : Nat} (h : 0 < i) : hdV i b c = .slice (some ⟨b, 0, none⟩) i c := by
  cases i with
  | zero => omega
  | succ i => rfl
/-- Who went last. -/
def las (g : List Nat) : Int := match g.getLast? with
  | none => -1
  | some x => x
noncomputable def schE (D : Dat) (q : Nat) (t : Thr) (num : Nat) (Y : Lay) (LB lc ll : Nat) (g : List Nat) (ps qs : List Value) (lv fv : Value) : Env := mkE [(1, D.n), (2, num), (5, q), (6, g.length), (7, ll), (11, num), (12, las g), (22, Y.cT), (24, Y.cW), (25, Y.cW), (26, Y.cR), (33, lc), (29, D.cB)] [(10, D.R), (14, t.T), (15, D.MB), (20, Y.TA), (23, Y.WA), (24, Y.RA), (26, t.wk), (27, t.sd), (28, D.BA), (30, D.s1), (31, D.s2), (32, LB)] [(40, .agg ps.toArray), (41, .agg qs.toArray), (43, lv), (44, fv)]

section
variable {D : Dat} {W0 : World} {cs : List Frame} {th : Nat → Thr} {Inb : Nat → Option Tok.Seat} {c : Nat → Nat} {g : List Nat} {Y : Lay} {N : Nat}

/-- The schedule's loop, at place q of those that are ready. -/
structure SchAt (D : Dat) (W0 : World) (cs : List Frame) (th : Nat → Thr) (Inb : Nat → Option Tok.Seat) (c : Nat → Nat) (g : List Nat) (Y : Lay) (N : Nat) (w0 : World) (q : Nat) (m : Machine) (T : Trace) (w : World) (st s37 : Nat → Value) (fr f37 : Frame) (LB lc : Nat) : Prop where
  at' : SAt Try.prog D.base W0 Inb 0 N m T (G fr (f37 :: cs)) w
  keeps : Keeps (fun b => w0.heap.size ≤ b) w0 w
  fr : ∀ t num ps qs lv fv, FrRel Try.prog (schE D q t num Y LB lc (rdy D c D.n).length g ps qs lv fv) (scHd st (v 12) (v 5)) fr
  f37 : ∀ q t num ps qs lv fv, FrRel Try.prog (schE D q t num Y LB lc (rdy D c D.n).length g ps qs lv fv) (scW s37) f37
  vec : w0.heap.size ≤ LB ∧ VecAt Try.prog w 30 LB (rdyL th (rdy D c D.n)) lc
  le : ∀ p x, p < q → (rdy D c D.n)[p]? = some x → (x : Int) ≤ las g

theorem sched_in {w0 w : World} {m : Machine} {T : Trace} {st s37 : Nat → Value} {fr f37 : Frame} {LB lc : Nat} (M : Mem D th Inb c g Y w0) (hr : noneYet (rdy D c D.n) = false) (A : AbAt D W0 cs th Inb c Y N w0 D.n m T w st s37 fr f37 LB lc) :
    Gets Try.prog m T fun m' T' => ∃ w' st' s37' fr' f37', SchAt D W0 cs th Inb c g Y N w0 0 m' T' w' st' s37' fr' f37' LB lc := by
  have n40 := M.stat.n40
  have hm := M.m
  have hll : (rdy D c D.n).length ≤ D.n := rdy_len D c D.n
  have hl0 := noneYet_f hr
  have no : ∀ {b : Nat}, b < w0.heap.size → ¬ w0.heap.size ≤ b := fun h => Nat.not_le.2 h
  have hsz := A.keeps.size
  obtain ⟨y, hy⟩ : ∃ y, y = noneYet g := ⟨_, rfl⟩
  obtain ⟨hv1, hv2⟩ := A.vec hr
  have f0 := A.fr ⟨0, 0, 0, 0, 0, 0⟩ []
  rw [hr] at f0
  have f1 : FrRel Try.prog (schE D D.n ⟨0, 0, 0, 0, 0, 0⟩ 0 Y LB lc (rdy D c D.n).length g [] [] nilV nilV) (abHd st false (v 5)) fr := f0.retell rfl rfl
  have f2 : FrRel Try.prog (schE D D.n ⟨0, 0, 0, 0, 0, 0⟩ 0 Y LB lc (rdy D c D.n).length g [] [] nilV nilV) (abW s37) f37 := (A.f37 D.n ⟨0, 0, 0, 0, 0, 0⟩ LB lc (rdy D c D.n).length []).retell rfl rfl
  have s1' := M.s1.keep A.keeps (no M.s1.lt)
  have s2' := M.s2.keep A.keeps (no M.s2.lt)
  have run' := M.run.keep A.keeps (no M.run.lt)
  refine (walkP (cs := cs) (frs := [f37]) A.at' (own := fun b => w.heap.size ≤ b) A.at'.new (fun n hn => hn) (a3 y st s37) (a3Low st s37) (a3O y) f1 ⟨f2, trivial⟩ (fun p hp => ?_) (fun p hp => ?_) (fun p hp => by cases hp) (fun p hp => by cases hp) List.nodup_nil (fun p hp => by cases hp)).mono fun m1 T1 hd => ?_
  · have hp' : p = (.cmp .lss (v 5) (.tn (v 1)), false) ∨ p = (.cmp .eql (.tn (v 7)) (.lit 0), false) ∨ (y = false ∧ (p = (.cmp .eql (.tn (v 6)) (.lit 4000), false) ∨ p = (.cmp .lss (.tn (v 6)) (.lit 0), false) ∨ p = (.cmp .gtr (.tn (v 6)) (.lit 0), true) ∨ p = (.cmp .leq (.lit 0) (.op .sub .i64 (.tn (v 6)) (.lit 1)), true) ∨ p = (.cmp .lss (.op .sub .i64 (.tn (v 6)) (.lit 1)) (.tn (v 6)), true))) := by
      cases y <;> simp only [bsS, List.append_nil, List.cons_append, List.nil_append, List.mem_cons, List.not_mem_nil, or_false] at hp
      · rcases hp with h | h | h
        · exact .inl h
        · exact .inr (.inl h)
        · exact .inr (.inr ⟨rfl, h⟩)
      · rcases hp with h | h
        · exact .inl h
        · exact .inr (.inl h)
    rcases hp' with rfl | rfl | ⟨h, hp'⟩
    · show decide ((D.n : Int) < (((D.n : Nat) : Int).toNat : Int)) = false
      exact decide_eq_false (by omega)
    · show ((((((rdy D c D.n).length : Nat) : Int).toNat : Nat) : Int) == 0) = false
      rw [beq_eq_false_iff_ne]; omega
    · have hg0 := noneYet_f (hy.symm.trans h)
      have es : iop .sub .i64 ((((g.length : Nat) : Int).toNat : Nat) : Int) 1 = ((g.length - 1 : Nat) : Int) := by
        show IntKind.wrap .i64 _ = _
        rw [wrapN (by omega)]; omega
      rcases hp' with rfl | rfl | rfl | rfl | rfl
      · show (((((g.length : Nat) : Int).toNat : Nat) : Int) == 4000) = false
        rw [beq_eq_false_iff_ne]; omega
      · show decide (((((g.length : Nat) : Int).toNat : Nat) : Int) < 0) = false
        exact decide_eq_false (by omega)
      · show decide (((((g.length : Nat) : Int).toNat : Nat) : Int) > 0) = true
        exact decide_eq_true (by omega)
      · show decide ((0 : Int) ≤ iop .sub .i64 ((((g.length : Nat) : Int).toNat : Nat) : Int) 1) = true
        rw [es]; exact decide_eq_true (by omega)
      · show decide (iop .sub .i64 ((((g.length : Nat) : Int).toNat : Nat) : Int) 1 < ((((g.length : Nat) : Int).toNat : Nat) : Int)) = true
        rw [es]; exact decide_eq_true (by omega)
  · have hp' : p = (⟨.dyn 30, .lit 0⟩, nilA) ∨ (y = true ∧ p = (⟨.dyn 10, .lit 3⟩, nilA)) ∨ (y = false ∧ (p = (⟨.dyn 10, .lit 3⟩, slc 23 (v 6) (v 24)) ∨ p = (⟨.dyn 31, .lit 0⟩, ptr0 10) ∨ p = (⟨.dyn 23, .tn (.op .sub .i64 (.tn (v 6)) (.lit 1))⟩, i64 (v 12)))) := by
      cases y <;> simp only [memS1, List.append_nil, List.cons_append, List.nil_append, List.mem_cons, List.not_mem_nil, or_false] at hp
      · rcases hp with h | h
        · exact .inl h
        · exact .inr (.inr ⟨rfl, h⟩)
      · rcases hp with h | h
        · exact .inl h
        · exact .inr (.inl ⟨rfl, h⟩)
    rcases hp' with rfl | ⟨h, rfl⟩ | ⟨h, hp'⟩
    · exact ⟨Nat.not_le.2 s1'.lt, s1'.cell rfl⟩
    · have hg : g = [] := noneYet_t (hy.symm.trans h)
      subst hg
      exact ⟨Nat.not_le.2 run'.lt, run'.cell rfl⟩
    · have hg0 := noneYet_f (hy.symm.trans h)
      have vW := (M.went hg0).keep A.keeps (no (M.went hg0).lt)
      rcases hp' with rfl | rfl | rfl
      · refine ⟨Nat.not_le.2 run'.lt, run'.cell ?_⟩
        show some (hdV g.length Y.WA Y.cW) = _
        rw [hdV_pos hg0]
        rfl
      · exact ⟨Nat.not_le.2 s2'.lt, s2'.cell rfl⟩
      · refine ⟨Nat.not_le.2 vW.lt, ?_⟩
        have es : iop .sub .i64 ((((g.length : Nat) : Int).toNat : Nat) : Int) 1 = ((g.length - 1 : Nat) : Int) := by
          show IntKind.wrap .i64 _ = _
          rw [wrapN (by omega)]; omega
        have hl : g[g.length - 1]? = some (g[g.length - 1]'(by omega)) := List.getElem?_eq_getElem (by omega)
        have hla : las g = ((g[g.length - 1]'(by omega) : Nat) : Int) := by
          unfold las
          rw [List.getLast?_eq_getElem?, hl]
        have h1 := vW.arr (g.length - 1) (iV (g[g.length - 1]'(by omega) : Nat)) (by simp [intsL, List.getElem?_map, hl])
        rw [Nat.zero_add] at h1
        show w.cell? ⟨Y.WA, (iop .sub .i64 ((((g.length : Nat) : Int).toNat : Nat) : Int) 1).toNat, none⟩ = some (.int .i64 (las g))
        rw [es, hla]
        exact h1
  obtain ⟨w1, ρ', hh, a1', cl, fr', frs', C⟩ := hd
  obtain ⟨a37, rfl, e37⟩ := map_one C.cls
  obtain ⟨g37, rfl, r37⟩ := frs_one C.frs
  have n37 : a37.fn = 37 := congrArg Seen.fn e37
  rw [n37] at e37
  obtain ⟨q37, t37⟩ := FrRel.toldF r37 (lv := scWL) e37 (.inl rfl)
  obtain ⟨s1, t1⟩ := FrRel.toldF C.fr (lv := scL (v 12) (v 5)) C.cur (.inl rfl)
  have x7 : ρ'.i 7 = (rdy D c D.n).length := C.agree.i 7 (by decide)
  have x12 : ρ'.i 12 = las g := C.agree.i 12 (by decide)
  have x33 : ρ'.i 33 = lc := C.agree.i 33 (by decide)
  have y10 : ρ'.b 10 = D.R := C.agree.b 10 (by decide)
  have y30 : ρ'.b 30 = D.s1 := C.agree.b 30 (by decide)
  have y31 : ρ'.b 31 = D.s2 := C.agree.b 31 (by decide)
  have y32 : ρ'.b 32 = LB := C.agree.b 32 (by decide)
  refine ⟨w1, s1, q37, fr', g37, C.at', A.keeps.trans (C.keeps.mono fun b hb => Nat.le_trans hsz hb), fun t num ps qs lv fv => t1 _ ?_, fun q t num ps qs lv fv => t37 _ ?_, ⟨hv1, hv2.keep C.keeps (Nat.not_le.2 hv2.lt)⟩, fun p x hp => absurd hp (by omega)⟩
  · cases y with
    | true =>
      have hg : g = [] := noneYet_t hy.symm
      simp only [scL, lasE, slc, List.map_cons, List.map_nil, AV.evs, i64, v, AV.ev, Option.map_some, AA.ev, BR.ev, IE.ev, x7, x33, y32]
      rw [hg]
      rfl
    | false =>
      simp only [scL, lasE, slc, List.map_cons, List.map_nil, AV.evs, i64, v, AV.ev, Option.map_some, AA.ev, BR.ev, IE.ev, x7, x12, x33, y32]
      rfl
  · simp only [scWL, sched, slc, List.map_cons, List.map_nil, AV.evs, ptr0, i64, v, AV.ev, Option.map_some, AA.ev, BR.ev, IE.ev, x7, x33, y10, y30, y31, y32]
    rfl

/-- One that is not behind the last one. -/
theorem sched_step {w0 w : World} {q j : Nat} {m : Machine} {T : Trace} {st s37 : Nat → Value} {fr f37 : Frame} {LB lc : Nat} (M : Mem D th Inb c g Y w0) (hq : (rdy D c D.n)[q]? = some j) (hj : (j : Int) ≤ las g) (A : SchAt D W0 cs th Inb c g Y N w0 q m T w st s37 fr f37 LB lc) :
    Gets Try.prog m T fun m' T' => ∃ w' st' s37' fr' f37', SchAt D W0 cs th Inb c g Y N w0 (q + 1) m' T' w' st' s37' fr' f37' LB lc := by
  have n40 := M.stat.n40
  have hll : (rdy D c D.n).length ≤ D.n := rdy_len D c D.n
  have hql := (List.getElem?_eq_some_iff.1 hq).1
  have hsz := A.keeps.size
  have no : ∀ {b : Nat}, b < w0.heap.size → ¬ w0.heap.size ≤ b := fun h => Nat.not_le.2 h
  obtain ⟨hv1, hv2⟩ := A.vec
  have hjn : j < D.n ∧ c j < D.k j := by
    have := List.mem_of_getElem? hq
    simpa [rdy] using this
  obtain ⟨hTh, hN⟩ := M.thr j hjn.1
  have oT : ∃ v a b, ObjAt w0 (th j).T (thrV D j (th j) v a b) 78 := by
    rcases hN with ⟨hk, AB, s33, s11, s10, s76, Bb, hs, oAB, oT⟩ | ⟨hk, hs, vv, a, ha, oT⟩
    · exact ⟨_, _, _, oT⟩
    · exact ⟨_, _, _, oT⟩
  obtain ⟨vv, a, bb, oT⟩ := oT
  have oT' := oT.keep A.keeps (no oT.lt)
  have cL := hv2.arr q (ptrV (th j).T) (by simp [rdyL, List.getElem?_map, hq])
  rw [Nat.zero_add] at cL
  refine (walkP (cs := cs) (frs := [f37]) A.at' (own := fun b => w.heap.size ≤ b) A.at'.new (fun n hn => hn) (s1 st s37) (s1Low st s37) (s1O false) (A.fr (th j) j [] [] nilV nilV) ⟨A.f37 q (th j) j [] [] nilV nilV, trivial⟩ (fun p hp => ?_) (fun p hp => ?_) (fun p hp => by cases hp) (fun p hp => by cases hp) List.nodup_nil (fun p hp => by cases hp)).mono fun m1 T1 hd => ?_
  · simp only [bsL, List.mem_cons, List.not_mem_nil, or_false] at hp
    rcases hp with rfl | rfl | rfl
    · show decide ((q : Int) < ((((rdy D c D.n).length : Nat) : Int).toNat : Int)) = true
      exact decide_eq_true (by omega)
    · show decide ((0 : Int) ≤ (q : Int)) = true
      exact decide_eq_true (by omega)
    · show decide ((j : Int) > las g) = false
      exact decide_eq_false (by omega)
  · simp only [memL, List.mem_cons, List.not_mem_nil, or_false] at hp
    rcases hp with rfl | rfl
    · exact ⟨Nat.not_le.2 hv2.lt, cL⟩
    · exact ⟨Nat.not_le.2 oT'.lt, oT'.cell rfl⟩
  obtain ⟨w1, ρ', hh, a1', cl, fr', frs', C⟩ := hd
  obtain ⟨a37, rfl, e37⟩ := map_one C.cls
  obtain ⟨g37, rfl, r37⟩ := frs_one C.frs
  have n37 : a37.fn = 37 := congrArg Seen.fn e37
  rw [n37] at e37
  obtain ⟨q37, t37⟩ := FrRel.toldF r37 (lv := scWL) e37 (.inl rfl)
  obtain ⟨s1', t1⟩ := FrRel.toldF C.fr (lv := scL (v 12) (v 5)) C.cur (.inl rfl)
  have x5 : ρ'.i 5 = q := C.agree.i 5 (by decide)
  have x7 : ρ'.i 7 = (rdy D c D.n).length := C.agree.i 7 (by decide)
  have x12 : ρ'.i 12 = las g := C.agree.i 12 (by decide)
  have x33 : ρ'.i 33 = lc := C.agree.i 33 (by decide)
  have y10 : ρ'.b 10 = D.R := C.agree.b 10 (by decide)
  have y30 : ρ'.b 30 = D.s1 := C.agree.b 30 (by decide)
  have y31 : ρ'.b 31 = D.s2 := C.agree.b 31 (by decide)
  have y32 : ρ'.b 32 = LB := C.agree.b 32 (by decide)
  have eq1 : iop .add .i64 (q : Int) 1 = ((q + 1 : Nat) : Int) := by
    show IntKind.wrap .i64 ((q : Int) + 1) = _
    rw [wrapN (by omega)]; rfl
  refine ⟨w1, s1', q37, fr', g37, C.at', A.keeps.trans (C.keeps.mono fun b hb => Nat.le_trans hsz hb), fun t num ps qs lv fv => t1 _ ?_, fun q t num ps qs lv fv => t37 _ ?_, ⟨hv1, hv2.keep C.keeps (Nat.not_le.2 hv2.lt)⟩, fun p x hp hx => ?_⟩
  · simp only [scL, slc, List.map_cons, List.map_nil, AV.evs, i64, v, AV.ev, Option.map_some, AA.ev, BR.ev, IE.ev, x5, x7, x12, x33, y32, eq1]
    rfl
  · simp only [scWL, sched, slc, List.map_cons, List.map_nil, AV.evs, ptr0, i64, v, AV.ev, Option.map_some, AA.ev, BR.ev, IE.ev, x7, x33, y10, y30, y31, y32]
    rfl
  · by_cases h : p = q
    · subst h
      rw [hq] at hx
      cases hx
      exact hj
    · exact A.le p x (by omega) hx
end
end Go.Proofs.Ythaddgfbohmfoaa
/-
  GateRounds: who goes is found, and told; up to the send that lets it go. Conditions: none.
-/
set_option maxRecDepth 100000
set_option linter.unusedVariables false
set_option linter.unusedSimpArgs false
namespace Go.Proofs.Ythaddgfbohmfoaa
open Go.Proofs.Ythaddgfbohmfoaa.SX Go.Conc

section
variable {D : Dat} {W0 : World} {cs : List Frame} {th : Nat → Thr} {Inb : Nat → Option Tok.Seat} {c : Nat → Nat} {g : List Nat} {Y : Lay} {N : Nat}

/-- Who goes, of those that are ready. -/
def Picks (l : List Nat) (la : Int) (q j : Nat) (gt : Bool) : Prop := match gt with
  | true => l[q]? = some j ∧ la < j
  | false => q = l.length ∧ l[0]? = some j

/-- Written in a round ahead of the turn: the run's record, both lists. -/
def rndOwn (D : Dat) (g : List Nat) (Y : Lay) (w0 : World) (b : Nat) : Prop := w0.heap.size ≤ b ∨ b = D.R ∨ (0 < g.length ∧ (b = Y.WA ∨ b = Y.RA))

/-- At the send. -/
structure AtSend (D : Dat) (W0 : World) (cs : List Frame) (th : Nat → Thr) (Inb : Nat → Option Tok.Seat) (g : List Nat) (Y : Lay) (N : Nat) (w0 : World) (j : Nat) (m : Machine) (T : Trace) (w : World) (s63 s37 : Nat → Value) (f63 f37 : Frame) (Y' : Lay) : Prop where
  at' : SAt Try.prog D.base W0 Inb 0 N m T (G f63 (f37 :: cs)) w
  keeps : Keeps (rndOwn D g Y w0) w0 w
  f63 : ∀ k AB, FrRel Try.prog (stE D j k (th j) AB) (gsSd s63) f63
  f37 : ∀ k AB, FrRel Try.prog (stE D j k (th j) AB) (gwW s37) f37
  lay : Y'.TA = Y.TA ∧ Y'.cT = Y.cT ∧ Y'.FA = Y.FA ∧ Y'.cF = Y.cF ∧ Y'.LA = Y.LA ∧ Y'.cL = Y.cL
  run : ObjAt w D.R (runV D (hdV D.n Y.TA Y.cT) (hdV g.length Y.LA Y.cL) (hdV (g.length + 1) Y'.WA Y'.cW) (hdV (g.length + 1) Y'.RA Y'.cR) (hdV D.n Y.FA Y.cF) false) 87
  went : VecAt Try.prog w 3 Y'.WA (intsL (g ++ [j])) Y'.cW
  ready : ∃ xs, xs.length = g.length + 1 ∧ VecAt Try.prog w 3 Y'.RA xs Y'.cR
  oW : rndOwn D g Y w0 Y'.WA
  oR : rndOwn D g Y w0 Y'.RA
  wr : Y'.WA ≠ Y'.RA

theorem sched_go {w0 w : World} {q j : Nat} {gt : Bool} {m : Machine} {T : Trace} {st s37 : Nat → Value} {fr f37 : Frame} {LB lc : Nat} (M : Mem D th Inb c g Y w0) (hs0 : D.base ≤ w0.heap.size) (hp : Picks (rdy D c D.n) (las g) q j gt) (A : SchAt D W0 cs th Inb c g Y N w0 q m T w st s37 fr f37 LB lc) :
    Gets Try.prog m T fun m' T' => ∃ w' s63 s37' f63 f37' Y', AtSend D W0 cs th Inb g Y N w0 j m' T' w' s63 s37' f63 f37' Y' := by
  have n40 := M.stat.n40
  have hm := M.m
  have hll : (rdy D c D.n).length ≤ D.n := rdy_len D c D.n
  have hsz := A.keeps.size
  have no : ∀ {b : Nat}, b < w0.heap.size → ¬ w0.heap.size ≤ b := fun h => Nat.not_le.2 h
  obtain ⟨hv1, hv2⟩ := A.vec
  have hjm : j ∈ rdy D c D.n := by
    cases gt with
    | true => exact List.mem_of_getElem? hp.1
    | false => exact List.mem_of_getElem? hp.2
  have hjn : j < D.n ∧ c j < D.k j := by simpa [rdy] using hjm
  obtain ⟨hTh, hN⟩ := M.thr j hjn.1
  have oT : ObjAt w0 (th j).T (thrV D j (th j) (ptrV D.X) (atSV j) false) 78 := by
    rcases hN with ⟨hk, AB, s33, s11, s10, s76, Bb, hs, oAB, oT⟩ | ⟨hk, hs, vv, a, ha, oT⟩
    · exact oT
    · omega
  have oT' := oT.keep A.keeps (no oT.lt)
  obtain ⟨y, hy⟩ : ∃ y, y = noneYet g := ⟨_, rfl⟩
  have run' := M.run.keep A.keeps (no M.run.lt)
  have hgy : y = false → 0 < g.length := fun h => noneYet_f (hy.symm.trans h)
  obtain ⟨qs, hqs⟩ : ∃ qs, 0 < g.length → (qs.length = g.length ∧ VecAt Try.prog w0 3 Y.RA qs Y.cR) := by
    by_cases h : 0 < g.length
    · obtain ⟨xs, h1, h2⟩ := M.ready h
      exact ⟨xs, fun _ => ⟨h1, h2⟩⟩
    · exact ⟨[], fun h' => absurd h' h⟩
  generalize hlv : hdV g.length Y.LA Y.cL = lv at *
  generalize hfv : hdV D.n Y.FA Y.cF = fv at *
  have hown : ∀ b, (w.heap.size ≤ b ∨ b = D.R ∨ (0 < g.length ∧ (b = Y.WA ∨ b = Y.RA))) → (SK Try.prog D.base Inb).own b := fun b hb => by
    have nc : ∀ {b : Nat} {e : TypeId}, Ty w0 b e → ¬ chanOf Inb b := fun hb ⟨k, s, e, ec⟩ => (hb.keep A.keeps (no hb.lt)).noChan (A.at'.chan e) ec.symm
    rcases hb with hb | rfl | ⟨h0, rfl | rfl⟩
    · exact A.at'.new b hb
    · exact ⟨M.bR, nc M.run.ty⟩
    · exact ⟨(M.bL h0).2.1, nc (M.went h0).ty⟩
    · exact ⟨(M.bL h0).2.2, nc (hqs h0).2.ty⟩
  have nT : ¬ (w.heap.size ≤ (th j).T ∨ (th j).T = D.R ∨ (0 < g.length ∧ ((th j).T = Y.WA ∨ (th j).T = Y.RA))) := fun x => by
    rcases x with x | x | ⟨h0, x | x⟩
    · have := oT'.lt; omega
    · exact hTh.T.ne M.run.ty (by decide) x
    · exact hTh.T.ne (M.went h0).ty (by decide) x
    · exact hTh.T.ne (hqs h0).2.ty (by decide) x
  have nLB : ¬ (w.heap.size ≤ LB ∨ LB = D.R ∨ (0 < g.length ∧ (LB = Y.WA ∨ LB = Y.RA))) := fun x => by
    rcases x with x | x | ⟨h0, x | x⟩
    · have := hv2.lt; omega
    · have := M.run.lt; omega
    · have := (M.went h0).lt; omega
    · have := (hqs h0).2.lt; omega
  have hall : ∀ p ∈ hpG y, p = (10, .cells (runG y) 87) ∨ (y = false ∧ (p = (23, .pre false 40 (v 6) [] [] [] 3 (v 25)) ∨ p = (24, .pre false 41 (v 6) [] [] [] 3 (v 26)))) := fun p hp => by
    cases y with
    | true => exact .inl (List.mem_singleton.1 hp)
    | false =>
      simp only [hpG, List.mem_cons, List.not_mem_nil, or_false] at hp
      rcases hp with h | h | h
      · exact .inr ⟨rfl, .inr h⟩
      · exact .inr ⟨rfl, .inl h⟩
      · exact .inl h
  have hn1 : 0 < D.n := by omega
  have eR : AV.evs (schE D q (th j) j Y LB lc (rdy D c D.n).length g (intsL g) qs lv fv) (runG y) = runV D (hdV D.n Y.TA Y.cT) lv (hdV g.length Y.WA Y.cW) (hdV g.length Y.RA Y.cR) fv false := by
    rw [hdV_pos hn1]
    cases y with
    | true =>
      have hg : g = [] := noneYet_t hy.symm
      rw [hg]
      rfl
    | false =>
      rw [hdV_pos (hgy rfl), hdV_pos (hgy rfl)]
      rfl
  have hr := run'
  rw [← eR] at hr
  have p3 : ∀ inf, Try.prog.info? 3 = some inf → inf.size = 1 := fun inf hi => by
    have e2 : (Try.prog.info? 3).map (fun x => x.size) = some 1 := by kernel_rfl
    rw [hi] at e2
    exact Option.some.inj e2
  refine (walkP (cs := cs) (frs := [f37]) A.at' hown (fun n hn => .inl hn) (s2 y gt st s37) (s2Low y st s37) (s2O y gt) (A.fr (th j) j (intsL g) qs lv fv) ⟨A.f37 q (th j) j (intsL g) qs lv fv, trivial⟩ (fun p hpp => ?_) (fun p hpp => ?_) (fun p hpp => ?_) (fun p hpp => ?_) ?_ (fun p hpp n hn => ?_)).mono fun m1 T1 hd => ?_
  · have hp' : (gt = true ∧ (p = (.cmp .lss (v 5) (.tn (v 7)), true) ∨ p = (.cmp .leq (.lit 0) (v 5), true) ∨ p = (.cmp .gtr (v 11) (v 12), true))) ∨ (gt = false ∧ (p = (.cmp .lss (v 5) (.tn (v 7)), false) ∨ p = (.cmp .lss (.lit 0) (.tn (v 7)), true))) ∨ p = (.cmp .leq (.plus (.tn (v 6)) (.lit 1)) (.lit 1048576), true) := by
      cases gt <;> cases y <;> simp only [bsG, bsL, List.append_nil, List.cons_append, List.nil_append, List.mem_cons, List.not_mem_nil, or_false] at hpp
      · rcases hpp with h | h | h
        · exact .inr (.inl ⟨rfl, .inl h⟩)
        · exact .inr (.inl ⟨rfl, .inr h⟩)
        · exact .inr (.inr h)
      · exact .inr (.inl ⟨rfl, hpp⟩)
      · rcases hpp with h | h | h | h
        · exact .inl ⟨rfl, .inl h⟩
        · exact .inl ⟨rfl, .inr (.inl h)⟩
        · exact .inl ⟨rfl, .inr (.inr h)⟩
        · exact .inr (.inr h)
      · exact .inl ⟨rfl, hpp⟩
    rcases hp' with ⟨h, hp'⟩ | ⟨h, hp'⟩ | rfl
    · subst h
      have hql := (List.getElem?_eq_some_iff.1 hp.1).1
      have hgt := hp.2
      rcases hp' with rfl | rfl | rfl
      · show decide ((q : Int) < ((((rdy D c D.n).length : Nat) : Int).toNat : Int)) = true
        exact decide_eq_true (by omega)
      · show decide ((0 : Int) ≤ (q : Int)) = true
        exact decide_eq_true (by omega)
      · show decide ((j : Int) > las g) = true
        exact decide_eq_true (by omega)
    · subst h
      have hql := hp.1
      have h0l := (List.getElem?_eq_some_iff.1 hp.2).1
      rcases hp' with rfl | rfl
      · show decide ((q : Int) < ((((rdy D c D.n).length : Nat) : Int).toNat : Int)) = false
        exact decide_eq_false (by omega)
      · show decide ((0 : Int) < ((((rdy D c D.n).length : Nat) : Int).toNat : Int)) = true
        exact decide_eq_true (by omega)
    · show decide (((((g.length : Nat) : Int).toNat : Nat) : Int) + 1 ≤ 1048576) = true
      exact decide_eq_true (by omega)
  · have hp' : (gt = true ∧ p = (⟨.dyn 32, .tn (v 5)⟩, ptr0 14)) ∨ (gt = false ∧ p = (⟨.dyn 32, .lit 0⟩, ptr0 14)) ∨ p = (⟨.dyn 14, .lit 1⟩, i64 (v 11)) ∨ p = (⟨.dyn 14, .lit 2⟩, chb 26) := by
      cases gt <;> simp only [memG, List.mem_cons, List.not_mem_nil, or_false] at hpp
      · rcases hpp with h | h | h
        · exact .inr (.inl ⟨rfl, h⟩)
        · exact .inr (.inr (.inl h))
        · exact .inr (.inr (.inr h))
      · rcases hpp with h | h | h
        · exact .inl ⟨rfl, h⟩
        · exact .inr (.inr (.inl h))
        · exact .inr (.inr (.inr h))
    rcases hp' with ⟨h, rfl⟩ | ⟨h, rfl⟩ | rfl | rfl
    · subst h
      have cL := hv2.arr q (ptrV (th j).T) (by simp [rdyL, List.getElem?_map, hp.1])
      rw [Nat.zero_add] at cL
      exact ⟨nLB, cL⟩
    · subst h
      have cL := hv2.arr 0 (ptrV (th j).T) (by simp [rdyL, List.getElem?_map, hp.2])
      rw [Nat.zero_add] at cL
      exact ⟨nLB, cL⟩
    · exact ⟨nT, oT'.cell rfl⟩
    · exact ⟨nT, oT'.cell rfl⟩
  · rcases hall p hpp with rfl | ⟨h, rfl | rfl⟩
    · exact ObjAt.is (P := Try.prog) hr
    · have vW := (M.went (hgy h)).keep A.keeps (no (M.went (hgy h)).lt)
      exact vW.is (ρ := schE D q (th j) j Y LB lc (rdy D c D.n).length g (intsL g) qs lv fv) rfl (fun inf hinf => by
        rw [p3 inf hinf]
        show (intsL g).length = ((g.length : Nat) : Int).toNat * 1
        simp [intsL]) (fun p hp => by cases hp) rfl
    · have vR := (hqs (hgy h)).2.keep A.keeps (no (hqs (hgy h)).2.lt)
      exact vR.is (ρ := schE D q (th j) j Y LB lc (rdy D c D.n).length g (intsL g) qs lv fv) rfl (fun inf hinf => by
        rw [p3 inf hinf, (hqs (hgy h)).1]
        show g.length = ((g.length : Nat) : Int).toNat * 1
        omega) (fun p hp => by cases hp) rfl
  · rcases hall p hpp with rfl | ⟨h, rfl | rfl⟩
    · exact .inr (.inl rfl)
    · exact .inr (.inr ⟨hgy h, .inl rfl⟩)
    · exact .inr (.inr ⟨hgy h, .inr rfl⟩)
  · cases y with
    | true => simp [hpG]
    | false =>
      have h0 := hgy rfl
      have n1 : Y.RA ≠ Y.WA := fun e => M.wr h0 e.symm
      have n2 : Y.RA ≠ D.R := (hqs h0).2.ty.ne M.run.ty (by decide)
      have n3 : Y.WA ≠ D.R := (M.went h0).ty.ne M.run.ty (by decide)
      show [Y.RA, Y.WA, D.R].Nodup
      simp [n1, n2, n3]
  · exfalso
    have ns : ∀ {b : Nat} {e : TypeId}, Ty w0 b e → e ≠ 78 → ¬ stillI Inb b n := fun hb he h => by
      obtain ⟨k, hk, rfl, _⟩ := M.still h
      exact hb.ne (M.thr k hk).1.T he rfl
    rcases hall p hpp with rfl | ⟨h, rfl | rfl⟩
    · exact ns M.run.ty (by decide) hn
    · exact ns (M.went (hgy h)).ty (by decide) hn
    · exact ns (hqs (hgy h)).2.ty (by decide) hn
  obtain ⟨w1, ρ', hh, a1', cl, fr', frs', C⟩ := hd
  obtain ⟨a37, rfl, e37⟩ := map_one C.cls
  obtain ⟨g37, rfl, r37⟩ := frs_one C.frs
  have n37 : a37.fn = 37 := congrArg Seen.fn e37
  rw [n37] at e37
  obtain ⟨q37, t37⟩ := FrRel.toldF r37 (lv := rL) e37 (.inl rfl)
  obtain ⟨s63, t63⟩ := FrRel.toldF C.fr (lv := [(0, ptr0 14), (5, chb 26), (6, UN)]) C.cur (.inl rfl)
  have x1 : ρ'.i 1 = D.n := C.agree.i 1 (by decide)
  have x6 : ρ'.i 6 = g.length := C.agree.i 6 (by decide)
  have x7 : ρ'.i 7 = (rdy D c D.n).length := C.agree.i 7 (by decide)
  have x11 : ρ'.i 11 = j := C.agree.i 11 (by decide)
  have x22 : ρ'.i 22 = Y.cT := C.agree.i 22 (by decide)
  have y10 : ρ'.b 10 = D.R := C.agree.b 10 (by decide)
  have y14 : ρ'.b 14 = (th j).T := C.agree.b 14 (by decide)
  have y15 : ρ'.b 15 = D.MB := C.agree.b 15 (by decide)
  have y20 : ρ'.b 20 = Y.TA := C.agree.b 20 (by decide)
  have y26 : ρ'.b 26 = (th j).wk := C.agree.b 26 (by decide)
  have y30 : ρ'.b 30 = D.s1 := C.agree.b 30 (by decide)
  have y31 : ρ'.b 31 = D.s2 := C.agree.b 31 (by decide)
  have v40 : ρ'.v 40 = .agg (intsL g).toArray := by rw [C.agree.v]; rfl
  have v41 : ρ'.v 41 = .agg qs.toArray := by rw [C.agree.v]; rfl
  have v43 : ρ'.v 43 = lv := by rw [C.agree.v]; rfl
  have v44 : ρ'.v 44 = fv := by rw [C.agree.v]; rfl
  have fR : findB 10 hh.hp = some (.cells (runG' y) 87) := by rw [C.hp]; rfl
  have fW : findB 101 hh.hp = some (arrG y 40 (i64 (v 11)) 101) := by rw [C.hp]; rfl
  have fQ : findB 103 hh.hp = some (arrG y 41 (i64 (.tn (v 7))) 103) := by rw [C.hp]; rfl
  have oR := obj_of_cells C.rel fR
  have eR' : AV.evs ρ' (runG' y) = runV D (hdV D.n Y.TA Y.cT) lv (hdV (g.length + 1) (ρ'.b 101) (ρ'.i 101).toNat) (hdV (g.length + 1) (ρ'.b 103) (ρ'.i 103).toNat) fv false := by
    rw [hdV_pos hn1]
    cases y with
    | true =>
      have hg : g = [] := noneYet_t hy.symm
      simp only [runG', slc, AV.evs, ff, AV.ev, v, Option.map_some, AA.ev, BR.ev, IE.ev, BE.ev, x1, x22, y15, y20, v43, v44, hg]
      rfl
    | false =>
      simp only [runG', slc, AV.evs, ff, AV.ev, v, Option.map_some, AA.ev, BR.ev, IE.ev, BE.ev, x1, x6, x22, y15, y20, v43, v44]
      rfl
  rw [eR', y10] at oR
  have eW : AV.evs ρ' [i64 (v 11)] = [iV j] := by
    simp only [AV.evs, i64, v, AV.ev, IE.ev, x11]
    rfl
  have vW : VecAt Try.prog w1 3 (ρ'.b 101) (intsL (g ++ [j])) (ρ'.i 101).toNat := by
    have e : intsL (g ++ [j]) = intsL g ++ [iV j] := by simp [intsL]
    rw [e]
    cases y with
    | true =>
      have hg : g = [] := noneYet_t hy.symm
      have h := vec_of_row C.rel fW
      rw [eW] at h
      rw [hg]
      exact h
    | false =>
      have h := vec_of_pre C.rel fW v40
      rw [eW] at h
      exact h
  have vR : ∃ xs, xs.length = g.length + 1 ∧ VecAt Try.prog w1 3 (ρ'.b 103) xs (ρ'.i 103).toNat := by
    cases y with
    | true =>
      have hg : g = [] := noneYet_t hy.symm
      have h := vec_of_row C.rel fQ
      exact ⟨_, by rw [hg]; simp [evs_length], h⟩
    | false =>
      have h := vec_of_pre C.rel fQ v41
      refine ⟨_, ?_, h⟩
      simp only [wrote]
      simp [evs_length, (hqs (hgy rfl)).1]
  have own3 : ∀ {k : Nat} {b : ABlk}, findB k hh.hp = some b → b.isChan = false → rndOwn D g Y w0 (ρ'.b k) := fun f hc => by
    rcases C.rel.own _ _ f hc with h | h | h
    · exact .inl (Nat.le_trans hsz h)
    · exact .inr (.inl h)
    · exact .inr (.inr h)
  refine ⟨w1, s63, q37, fr', g37, ⟨Y.TA, Y.cT, Y.FA, Y.cF, Y.LA, Y.cL, ρ'.b 101, (ρ'.i 101).toNat, ρ'.b 103, (ρ'.i 103).toNat⟩, ⟨C.at', (A.keeps.mono fun b hb => .inl hb).trans (C.keeps.mono fun b hb => hb.imp (fun h => Nat.le_trans hsz h) id), fun k AB => t63 _ ?_, fun k AB => t37 _ ?_, ⟨rfl, rfl, rfl, rfl, rfl, rfl⟩, ?_, vW, vR, ?_, ?_, fun e => ?_⟩⟩
  · simp only [List.map_cons, List.map_nil, AV.evs, chb, ptr0, UN, AV.ev, Option.map_some, AA.ev, BR.ev, IE.ev, y14, y26]
    rfl
  · simp only [rL, sched, List.map_cons, List.map_nil, AV.evs, ptr0, i64, AV.ev, Option.map_some, AA.ev, BR.ev, IE.ev, y10, y30, y31]
    rfl
  · rw [hlv, hfv]; exact oR
  · cases y <;> exact own3 fW rfl
  · cases y <;> exact own3 fQ rfl
  · have := C.rel.inj _ _ _ _ fW fQ e
    omega
end
end Go.Proofs.Ythaddgfbohmfoaa
