/-
  GateRounds: from the last round to the answer: pieces, as closed data. Conditions: none.
-/
import Derived.Test.YthaddgfbohmfoaaSxQSa
import Derived.Test.YthaddgfbohmfoaaSxQSb
import Derived.Test.YthaddgfbohmfoaaSxSems
set_option maxRecDepth 100000
set_option linter.unusedVariables false
set_option linter.unusedSimpArgs false
namespace Go.Proofs.Ythaddgfbohmfoaa
open Go.Proofs.Ythaddgfbohmfoaa.SX Go.Conc

/-! ### all have ended: up to ends' first loop -/
noncomputable def thS : AV := slc 20 (v 1) (v 22)
noncomputable def feS : AV := slc 21 (v 1) (v 23)
noncomputable def eB : Code := pc (bodyOf Try.f64) [1,1,0,1,0,0]
noncomputable def eTl : List Item := [.code eB, .inLoop eB, .inBlock 0, .code (pc (bodyOf Try.f64) [1,1,1])]
noncomputable def eL (i : IE) : List (Nat × AV) := [(0, ptr0 10), (3, nilA), (14, thS), (15, i64 (.tn (v 1))), (16, i64 i)]
noncomputable def eHd (st : Nat → Value) (i : IE) : AFrame := ⟨64, 89, tmpsOf 89 st (eL i), eTl, [], .run, .normal⟩
noncomputable def f39T : List Item := [.inRegion (opsOf (pc (bodyOf Try.f39) [1,0])) [1, 2], .code (pc (bodyOf Try.f39) [1,1])]
noncomputable def f39K : List (Nat × AV) := [(0, ptr0 10), (1, .int .i8 (.lit 1)), (4, ptr0 41)]
noncomputable def f39W (st : Nat → Value) : AFrame := ⟨39, 48, tmpsOf 48 st f39K, f39T, [], .run, .normal⟩
noncomputable def f12T2 : List Item := [.inRegion (opsOf (pc (bodyOf Try.f12) [1,1,1,1,0])) [2, 3], .code .ret]
noncomputable def f12V (st : Nat → Value) : AFrame := ⟨12, 30, tmpsOf 30 st [(6, ptr0 40)], f12T2, [], .run, .normal⟩
noncomputable def lvE (f : FuncId) : List Nat := Bool.rec (Bool.rec (Bool.rec [] [0, 1, 4] (Nat.beq f 39)) [1, 3, 4, 6] (Nat.beq f 3)) [6] (Nat.beq f 12)
noncomputable def memE1 : List (AA × AV) := [(⟨.dyn 31, .lit 0⟩, ptr0 10), (⟨.dyn 10, .lit 0⟩, thS)]
theorem e1 (st s37 s12 s3 : Nat → Value) : seeF (runQ bsE memE1 76 [100] (cfg (abHd st true (v 5)) [abW s37, f12W s12, f3W s3] [])) [0, 3, 14, 15, 16] lvE = some (⟨64, 89, eTl, [], .run, .normal, [], [(100, .cells rep0 39)], (eL (.lit 0)).map (·.2)⟩, [⟨39, 48, f39T, [], .run, .normal, [], [], [ptr0 10, .int .i8 (.lit 1), ptr0 100]⟩, ⟨12, 30, f12T2, [], .run, .normal, [], [], [ptr0 40]⟩, ⟨3, 95, f3RT, [], .run, .normal, [], [], f3K.map (·.2)⟩]) := by kernel_rfl
theorem e1Low (st s37 s12 s3 : Nat → Value) : cfgLow 100 (cfg (abHd st true (v 5)) [abW s37, f12W s12, f3W s3] []) = true := by kernel_rfl
theorem e1O : (OO bsE [] memE1).low 100 = true := by kernel_rfl
/-- A lap: it has ended. -/
noncomputable def bsLp : List (BE × Bool) := [(.cmp .lss (v 5) (.tn (v 1)), true), (.cmp .leq (.lit 0) (v 5), true)]
noncomputable def memE2 : List (AA × AV) := [(⟨.dyn 20, .tn (v 5)⟩, ptr0 14), (⟨.dyn 14, .lit 13⟩, TB)]
theorem e2 (st : Nat → Value) : seeF (runQ bsLp memE2 30 [] (cfg (eHd st (v 5)) [] [])) [0, 3, 14, 15, 16] nol = some (⟨64, 89, eTl, [], .run, .normal, [], [], (eL (.op .add .i64 (v 5) (.lit 1))).map (·.2)⟩, []) := by kernel_rfl
theorem e2Low (st : Nat → Value) : cfgLow 100 (cfg (eHd st (v 5)) [] []) = true := by kernel_rfl
theorem e2O : (OO bsLp [] memE2).low 100 = true := by kernel_rfl
/-! ### the second loop -/
noncomputable def gB : Code := pc (bodyOf Try.f64) [1,1,1,1,0,1,0,0]
noncomputable def gTl : List Item := [.code gB, .inLoop gB, .inBlock 2, .code (pc (bodyOf Try.f64) [1,1,1,1,1])]
noncomputable def gL (i : IE) : List (Nat × AV) := [(0, ptr0 10), (3, nilA), (9, i64 i)]
noncomputable def gHd (st : Nat → Value) (i : IE) : AFrame := ⟨64, 89, tmpsOf 89 st (gL i), gTl, [], .run, .normal⟩
noncomputable def runE (e : AV) : List AV := [.opq 40, .opq 41, .opq 42, .opq 43, .opq 44, .opq 45, e]
theorem e3 (st : Nat → Value) : seeF (runQ bsE [] 21 [10] (cfg (eHd st (v 5)) [] [(10, .cells (runE ff) 87)])) [0, 3, 9] nol = some (⟨64, 89, gTl, [], .run, .normal, [], [(10, .cells (runE TB) 87)], (gL (.lit 0)).map (·.2)⟩, []) := by kernel_rfl
theorem e3Low (st : Nat → Value) : cfgLow 100 (cfg (eHd st (v 5)) [] [(10, .cells (runE ff) 87)]) = true := by kernel_rfl
theorem e3O : (OO bsE [] []).low 100 = true := by kernel_rfl
noncomputable def memE4 : List (AA × AV) := (⟨.dyn 10, .lit 0⟩, thS) :: memE2
theorem e4 (st : Nat → Value) : seeF (runQ bsLp memE4 43 [] (cfg (gHd st (v 5)) [] [])) [0, 3, 9] nol = some (⟨64, 89, gTl, [], .run, .normal, [], [], (gL (.op .add .i64 (v 5) (.lit 1))).map (·.2)⟩, []) := by kernel_rfl
theorem e4Low (st : Nat → Value) : cfgLow 100 (cfg (gHd st (v 5)) [] []) = true := by kernel_rfl
theorem e4O : (OO bsLp [] memE4).low 100 = true := by kernel_rfl
/-! ### report's loop -/
noncomputable def hB : Code := pc (bodyOf Try.f39) [1,1,1,0,1,0,0]
noncomputable def hTl : List Item := [.code hB, .inLoop hB, .inBlock 0, .code (pc (bodyOf Try.f39) [1,1,1,1])]
noncomputable def hL (i : IE) : List (Nat × AV) := [(0, ptr0 10), (1, .int .i8 (.lit 1)), (4, ptr0 41), (5, nilA), (6, nilA), (14, feS), (15, i64 (.tn (v 1))), (16, i64 i)]
noncomputable def hHd (st : Nat → Value) (i : IE) : AFrame := ⟨39, 48, tmpsOf 48 st (hL i), hTl, [], .run, .normal⟩
noncomputable def memE5 : List (AA × AV) := [(⟨.dyn 10, .lit 0⟩, thS), (⟨.dyn 10, .lit 5⟩, feS)]
theorem e5 (st s39 : Nat → Value) : seeF (runQ bsE memE5 38 [] (cfg (gHd st (v 5)) [f39W s39] [])) ((hL (v 5)).map (·.1)) nol = some (⟨39, 48, hTl, [], .run, .normal, [], [], (hL (.lit 0)).map (·.2)⟩, []) := by kernel_rfl
theorem e5Low (st s39 : Nat → Value) : cfgLow 100 (cfg (gHd st (v 5)) [f39W s39] []) = true := by kernel_rfl
theorem e5O : (OO bsE [] memE5).low 100 = true := by kernel_rfl
noncomputable def memE6 : List (AA × AV) := [(⟨.dyn 21, .tn (v 5)⟩, ff)]
theorem e6 (st : Nat → Value) : seeF (runQ bsLp memE6 29 [] (cfg (hHd st (v 5)) [] [])) ((hL (v 5)).map (·.1)) nol = some (⟨39, 48, hTl, [], .run, .normal, [], [], (hL (.op .add .i64 (v 5) (.lit 1))).map (·.2)⟩, []) := by kernel_rfl
theorem e6Low (st : Nat → Value) : cfgLow 100 (cfg (hHd st (v 5)) [] []) = true := by kernel_rfl
theorem e6O : (OO bsLp [] memE6).low 100 = true := by kernel_rfl
/-! ### back: the report -/
noncomputable def lst (y : Bool) (b c : Nat) : AV := match y with
  | true => nilA
  | false => slc b (v 6) (v c)
noncomputable def numY (y : Bool) : IE := match y with
  | true => .lit 0
  | false => .tn (v 6)
noncomputable def memE7 (y : Bool) : List (AA × AV) := [(⟨.dyn 10, .lit 2⟩, lst y 24 24), (⟨.dyn 10, .lit 3⟩, lst y 23 25), (⟨.dyn 10, .lit 4⟩, lst y 25 26)]
noncomputable def rep1 (y : Bool) : List AV := [.int .i8 (.lit 1), i64 (numY y), lst y 24 24, lst y 23 25, lst y 25 26, nilA, nilA]
noncomputable def oP : List Nat := [1,1,1,1,1,1,1,1,1,0,1,0,0]
noncomputable def oB : Code := pc (bodyOf Try.f3) [1,1,1,1,1,1,1,1,1,0,1,0,0]
noncomputable def oTl : List Item := [.inLoop oB, .inBlock 2, .code (pc (bodyOf Try.f3) [1,1,1,1,1,1,1,1,1,1])]
noncomputable def wnt (z : Bool) : AV := match z with
  | true => nilA
  | false => slc 28 (v 36) (v 29)
noncomputable def oL (z : Bool) (r : IE) : List (Nat × AV) := [(1, ptr0 11), (3, TB), (4, ptr0 13), (6, i64 (v 3)), (8, ptr0 42), (9, wnt z), (10, .int .u8 r)]
noncomputable def oHd (st : Nat → Value) (z : Bool) (r : IE) : AFrame := ⟨3, 95, tmpsOf 95 st (oL z r), .code oB :: oTl, [], .run, .normal⟩
noncomputable def hpE7 : List (Nat × ABlk) := [(41, .cells rep0 39), (40, .cells rep0 39)]
theorem e7 (y : Bool) (st s12 s3 : Nat → Value) : seeF (runQ bsE (memE7 y) 29 [100] (cfg (hHd st (v 5)) [f12V s12, f3W s3] hpE7)) ((oL true (v 3)).map (·.1)) nol = some (⟨3, 95, .code oB :: oTl, [], .run, .normal, [], [(100, .cells (rep1 y) 39)], [ptr0 11, TB, ptr0 13, i64 (v 3), ptr0 100, nilA, .int .u8 (.lit 0)]⟩, []) := by cases y <;> kernel_rfl
theorem e7Low (st s12 s3 : Nat → Value) : cfgLow 100 (cfg (hHd st (v 5)) [f12V s12, f3W s3] hpE7) = true := by kernel_rfl
theorem e7O (y : Bool) : (OO bsE [] (memE7 y)).low 100 = true := by cases y <;> kernel_rfl

/-! ### what is wanted -/
noncomputable def iB : Code := pc (bodyOf Try.f3) [1,1,1,1,1,1,1,1,1,0,1,0,0,1,0,0,1,0,0]
noncomputable def iTl : List Item := [.code iB, .inLoop iB, .inBlock 4, .inBlock 3, .code (pc (bodyOf Try.f3) [1,1,1,1,1,1,1,1,1,0,1,0,0,1,1])] ++ oTl
noncomputable def iL (z : Bool) (r i : IE) : List (Nat × AV) := oL z r ++ [(11, i64 i)]
noncomputable def iHd (st : Nat → Value) (z : Bool) (r i : IE) : AFrame := ⟨3, 95, tmpsOf 95 st (iL z r i), iTl, [], .run, .normal⟩
noncomputable def bsF (b : Bool) : List (BE × Bool) := [(.cmp .lss (v 12) (.lit 32), b)]
theorem f1 (z : Bool) (st : Nat → Value) : seeF (runQ (bsF true) [] 16 [] (cfg (oHd st z (v 12)) [] [])) ((iL z (v 12) (v 5)).map (·.1)) nol = some (⟨3, 95, iTl, [], .run, .normal, [], [], (iL z (v 12) (.lit 0)).map (·.2)⟩, []) := by cases z <;> kernel_rfl
theorem f1Low (z : Bool) (st : Nat → Value) : cfgLow 100 (cfg (oHd st z (v 12)) [] []) = true := by cases z <;> kernel_rfl
theorem f1O (b : Bool) : (OO (bsF b) [] []).low 100 = true := by cases b <;> kernel_rfl
/-- A lap of the inner loop. -/
noncomputable def memF : List (AA × AV) := [(⟨.dyn 11, .lit 0⟩, oftS), (⟨.dyn 9, .plus (.tn (v 8)) (.tn (v 5))⟩, .int .u8 (v 4))]
noncomputable def bsF2 (z e : Bool) : List (BE × Bool) := bsLp ++ [(.cmp .gtr modE (v 12), e)] ++ match z, e with
  | false, true => [(.cmp .leq (.plus (.tn (v 36)) (.lit 1)) (.lit 1048576), true)]
  | _, _ => []
noncomputable def hpF (z e : Bool) : List (Nat × ABlk) := match z, e with
  | false, true => [(28, .pre false 40 (v 36) [] [] [] 3 (v 29))]
  | _, _ => []
noncomputable def arrF (z : Bool) : ABlk := match z with
  | true => .row [i64 (v 5)] 3 (v 101)
  | false => .pre false 40 (v 36) [] [] [i64 (v 5)] 3 (v 101)
noncomputable def hpF' (z e : Bool) : List (Nat × ABlk) := match e with
  | true => [(101, arrF z)]
  | false => []
noncomputable def wnt' (z e : Bool) : AV := match e, z with
  | true, true => slc 101 (.lit 1) (v 101)
  | true, false => slc 101 (.plus (.tn (v 36)) (.lit 1)) (v 101)
  | false, z => wnt z
noncomputable def nF (e : Bool) : Nat := match e with
  | true => 37
  | false => 31
noncomputable def kF (e : Bool) : List Nat := match e with
  | true => [101]
  | false => []
theorem f2 (z e : Bool) (st : Nat → Value) : seeF (runQ (bsF2 z e) memF (nF e) (kF e) (cfg (iHd st z (v 12) (v 5)) [] (hpF z e))) ((iL z (v 12) (v 5)).map (·.1)) nol = some (⟨3, 95, iTl, [], .run, .normal, [], hpF' z e, [ptr0 11, TB, ptr0 13, i64 (v 3), ptr0 42, wnt' z e, .int .u8 (v 12), i64 (.op .add .i64 (v 5) (.lit 1))]⟩, []) := by cases z <;> cases e <;> kernel_rfl
theorem f2Low (z e : Bool) (st : Nat → Value) : cfgLow 100 (cfg (iHd st z (v 12) (v 5)) [] (hpF z e)) = true := by cases z <;> cases e <;> kernel_rfl
theorem f2O (z e : Bool) : (OO (bsF2 z e) [] memF).low 100 = true := by cases z <;> cases e <;> kernel_rfl
/-- Out of it. -/
theorem f3 (z : Bool) (st : Nat → Value) : seeF (runQ bsE memF.dropLast 17 [] (cfg (iHd st z (v 12) (v 5)) [] [])) ((oL z (v 12)).map (·.1)) nol = some (⟨3, 95, .code oB :: oTl, [], .run, .normal, [], [], (oL z (.op .add .u8 (v 12) (.lit 1))).map (·.2)⟩, []) := by cases z <;> kernel_rfl
theorem f3Low (z : Bool) (st : Nat → Value) : cfgLow 100 (cfg (iHd st z (v 12) (v 5)) [] []) = true := by cases z <;> kernel_rfl
theorem f3O : (OO bsE [] memF.dropLast).low 100 = true := by kernel_rfl

/-! ### EqInts, and the answer -/
noncomputable def memZ (y : Bool) : List (AA × AV) := [(⟨.dyn 42, .lit 0⟩, .int .i8 (.lit 1)), (⟨.dyn 42, .lit 1⟩, i64 (v 3)), (⟨.dyn 42, .lit 3⟩, lst y 23 25), (⟨.dyn 13, .lit 0⟩, i64 (v 3)), (⟨.dyn 42, .lit 5⟩, nilA), (⟨.dyn 42, .lit 6⟩, nilA)]
noncomputable def bsZ : List (BE × Bool) := [(.cmp .lss (v 12) (.lit 32), false), (.cmp .eql (v 3) (v 3), true), (.cmp .neq (.tn (v 6)) (.tn (v 36)), false)]
theorem z0 (st : Nat → Value) : isT (run? Try.prog (OO bsZ [] (memZ true)) (XX bsZ [] (memZ true)) noSums 4000 (cfg (oHd st true (v 12)) [] [])) = true := by kernel_rfl
theorem zO (y : Bool) : (OO bsZ [] (memZ y)).low 100 = true := by cases y <;> kernel_rfl
noncomputable def qB : Code := pc (bodyOf Try.f13) [1,1,0,1,0,0]
noncomputable def qTl : List Item := [.code qB, .inLoop qB, .inBlock 0, .code (pc (bodyOf Try.f13) [1,1,1])]
noncomputable def qL (i : IE) : List (Nat × AV) := [(0, slc 23 (v 6) (v 25)), (1, slc 28 (v 36) (v 29)), (5, i64 i)]
noncomputable def qHd (st : Nat → Value) (i : IE) : AFrame := ⟨13, 26, tmpsOf 26 st (qL i), qTl, [], .run, .normal⟩
noncomputable def f3ZT : List Item := [.inRegion (opsOf (pc (bodyOf Try.f3) [1,1,1,1,1,1,1,1,1,1,0])) [13, 14, 15, 16, 17, 18, 19, 20, 21, 22, 23, 24, 25, 26, 27, 28, 29, 30, 31, 32], .code .ret]
noncomputable def f3ZK : List (Nat × AV) := [(3, TB), (4, ptr0 13), (6, i64 (v 3)), (8, ptr0 42), (72, TB)]
noncomputable def f3Z (st : Nat → Value) : AFrame := ⟨3, 95, tmpsOf 95 st f3ZK, f3ZT, [], .run, .normal⟩
theorem z1 (st : Nat → Value) : seeF (runQ bsZ (memZ false) 46 [] (cfg (oHd st false (v 12)) [] [])) ((qL (v 5)).map (·.1)) (lv3 (f3ZK.map (·.1))) = some (⟨13, 26, qTl, [], .run, .normal, [], [], (qL (.lit 0)).map (·.2)⟩, [⟨3, 95, f3ZT, [], .run, .normal, [], [], f3ZK.map (·.2)⟩]) := by kernel_rfl
noncomputable def bsQ : List (BE × Bool) := [(.cmp .lss (v 5) (.tn (v 6)), true), (.cmp .leq (.lit 0) (v 5), true), (.cmp .lss (v 5) (.tn (v 36)), true), (.cmp .neq (v 9) (v 9), false)]
noncomputable def memQ : List (AA × AV) := [(⟨.dyn 23, .tn (v 5)⟩, i64 (v 9)), (⟨.dyn 28, .tn (v 5)⟩, i64 (v 9))]
theorem z2 (st : Nat → Value) : seeF (runQ bsQ memQ 23 [] (cfg (qHd st (v 5)) [] [])) ((qL (v 5)).map (·.1)) nol = some (⟨13, 26, qTl, [], .run, .normal, [], [], (qL (.op .add .i64 (v 5) (.lit 1))).map (·.2)⟩, []) := by kernel_rfl
theorem z2Low (st : Nat → Value) : cfgLow 100 (cfg (qHd st (v 5)) [] []) = true := by kernel_rfl
theorem z2O : (OO bsQ [] memQ).low 100 = true := by kernel_rfl
noncomputable def bsZ3 : List (BE × Bool) := [(.cmp .lss (v 5) (.tn (v 6)), false), (.cmp .eql (v 3) (v 3), true)]
theorem z3 (st s3 : Nat → Value) : isT (run? Try.prog (OO bsZ3 [] (memZ false)) (XX bsZ3 [] (memZ false)) noSums 400 (cfg (qHd st (v 5)) [f3Z s3] [])) = true := by kernel_rfl
theorem z3Low (st s3 : Nat → Value) : cfgLow 100 (cfg (qHd st (v 5)) [f3Z s3] []) = true := by kernel_rfl
theorem z3O : (OO bsZ3 [] (memZ false)).low 100 = true := by kernel_rfl
end Go.Proofs.Ythaddgfbohmfoaa
/-
  GateRounds: the run is told: ends, report. Conditions: none.
-/
set_option maxRecDepth 100000
set_option linter.unusedVariables false
set_option linter.unusedSimpArgs false
namespace Go.Proofs.Ythaddgfbohmfoaa
open Go.Proofs.Ythaddgfbohmfoaa.SX Go.Conc
open Go.ConcN (upd upd_ne upd_same)

noncomputable def finE (D : Dat) (Y : Lay) (i tT g RB RC : Nat) : Env := mkE [(1, D.n), (3, sumC D.k D.n), (5, i), (6, g), (22, Y.cT), (23, Y.cF), (24, Y.cL), (25, Y.cW), (26, Y.cR)] [(10, D.R), (11, D.OB), (13, D.X), (14, tT), (15, D.MB), (20, Y.TA), (21, Y.FA), (23, Y.WA), (24, Y.LA), (25, Y.RA), (30, D.s1), (31, D.s2), (40, RB), (41, RC)] []

def F39At (D : Dat) (RC : Nat) (st : Nat → Value) (fr : Frame) : Prop := ∀ ρ : Env, ρ.b 10 = D.R → ρ.b 41 = RC → FrRel Try.prog ρ (f39W st) fr
def F12V (RB : Nat) (st : Nat → Value) (fr : Frame) : Prop := ∀ ρ : Env, ρ.b 40 = RB → FrRel Try.prog ρ (f12V st) fr
def EHd (D : Dat) (Y : Lay) (i : Nat) (st : Nat → Value) (fr : Frame) : Prop := ∀ ρ : Env, ρ.b 10 = D.R → ρ.b 20 = Y.TA → ρ.i 1 = D.n → ρ.i 22 = Y.cT → ρ.i 5 = i → FrRel Try.prog ρ (eHd st (v 5)) fr
def GHd (D : Dat) (i : Nat) (st : Nat → Value) (fr : Frame) : Prop := ∀ ρ : Env, ρ.b 10 = D.R → ρ.i 5 = i → FrRel Try.prog ρ (gHd st (v 5)) fr
def HHd (D : Dat) (Y : Lay) (RC i : Nat) (st : Nat → Value) (fr : Frame) : Prop := ∀ ρ : Env, ρ.b 10 = D.R → ρ.b 41 = RC → ρ.b 21 = Y.FA → ρ.i 1 = D.n → ρ.i 23 = Y.cF → ρ.i 5 = i → FrRel Try.prog ρ (hHd st (v 5)) fr

theorem frs_four {P : Program} {ρ : Env} {a b c d : AFrame} {l : List Frame} (h : FrRels P ρ [a, b, c, d] l) : ∃ f g h k, l = [f, g, h, k] ∧ FrRel P ρ a f ∧ FrRel P ρ b g ∧ FrRel P ρ c h ∧ FrRel P ρ d k := by
  match l, h with
  | [], h => exact h.elim
  | f :: l, h =>
    obtain ⟨g, k, q, rfl, h2⟩ := frs_three h.2
    exact ⟨f, g, k, q, rfl, h.1, h2⟩

section
variable {D : Dat} {W0 : World} {th : Nat → Thr} {c : Nat → Nat} {g : List Nat} {Y : Lay} {N RB RC : Nat} {w0 : World} {m : Machine} {T : Trace}

theorem end_in {st s12 s3 : Nat → Value} {fr f12 f3 : Frame} (M : Mem D th Nob c g Y w0) (hn : 0 < D.n) (hE : ∀ j, j < D.n → c j = D.k j) (hr : noneYet (rdy D c D.n) = true) (A : SAt Try.prog D.base W0 Nob 0 N m T (G fr [f12, f3]) w0) (hf : HdFr D Y st fr) (h12 : F12At D RB s12 f12) (h3 : F3At D s3 f3) (hb : ObjAt w0 RB rep0V 39) :
    Gets Try.prog m T fun m' T' => ∃ RC w' st' s39 s12' s3' fr' f39 f12' f3', SAt Try.prog D.base W0 Nob 0 N m' T' (G fr' [f39, f12', f3']) w' ∧ EHd D Y 0 st' fr' ∧ F39At D RC s39 f39 ∧ F12V RB s12' f12' ∧ F3At D s3' f3' ∧ Fin D Y th g false w' ∧ ObjAt w' RB rep0V 39 ∧ ObjAt w' RC rep0V 39 ∧ D.base ≤ RC ∧ RB ≠ RC := by
  have t0 : Thr := ⟨0, 0, 0, 0, 0, 0⟩
  refine (walkN (cs := [f12, f3]) (frs := []) A (r1 st) (r1Low st) r1O (hf 0 t0 0 0 0 []) trivial (fun p hp => by cases hp) (fun p hp => by
    obtain rfl := List.mem_singleton.1 hp
    refine M.run.cell ?_
    show some (hdV D.n Y.TA Y.cT) = _
    rw [hdV_pos hn]
    rfl)).trans fun m1 T1 hd => ?_
  obtain ⟨w1, ρ', hh, a1', cl, fr', frs', C⟩ := hd
  obtain ⟨a37, rfl, e37⟩ := map_one C.cls
  obtain ⟨g37, rfl, r37⟩ := frs_one C.frs
  have n37 : a37.fn = 37 := congrArg Seen.fn e37
  rw [n37] at e37
  obtain ⟨q37, t37⟩ := FrRel.toldF r37 (lv := rL) e37 (.inl rfl)
  obtain ⟨s1, t1⟩ := FrRel.toldF C.fr (lv := abL true (v 5)) C.cur (.inl rfl)
  have x1 : ρ'.i 1 = D.n := C.agree.i 1 (by decide)
  have x22 : ρ'.i 22 = Y.cT := C.agree.i 22 (by decide)
  have y10 : ρ'.b 10 = D.R := C.agree.b 10 (by decide)
  have y20 : ρ'.b 20 = Y.TA := C.agree.b 20 (by decide)
  have y30 : ρ'.b 30 = D.s1 := C.agree.b 30 (by decide)
  have y31 : ρ'.b 31 = D.s2 := C.agree.b 31 (by decide)
  have B0 : AbAt D W0 [f12, f3] th Nob c Y N w0 0 m1 T1 w1 s1 q37 fr' g37 0 0 := by
    refine ⟨C.at', C.keeps, fun t xs => t1 _ ?_, fun i t LB lc ll xs => t37 _ ?_, fun h => by cases h⟩
    · simp only [abL, abl, nilA, slc, List.map_cons, List.map_nil, AV.evs, i64, v, AV.ev, Option.map_some, Option.map_none, AA.ev, BR.ev, IE.ev, BE.ev, x1, x22, y20]
      rfl
    · simp only [rL, sched, List.map_cons, List.map_nil, AV.evs, ptr0, i64, AV.ev, Option.map_some, AA.ev, BR.ev, IE.ev, y10, y30, y31]
      rfl
  refine (able_loop M A.size D.n 0 (by omega) B0).trans fun m2 T2 hd => ?_
  obtain ⟨w2, st2, s37a, fr2, f37a, LB, lc, B⟩ := hd
  have F2 : Fin D Y th g false w2 := (M.fin hn hE).keepN B.keeps hn
  have hb2 : ObjAt w2 RB rep0V 39 := hb.keep B.keeps (Nat.not_le.2 hb.lt)
  have hfa := B.fr t0 []
  rw [hr] at hfa
  have g1 : FrRel Try.prog (finE D Y D.n 0 g.length RB 0) (abHd st2 true (v 5)) fr2 := hfa.retell rfl rfl
  have g2 : FrRel Try.prog (finE D Y D.n 0 g.length RB 0) (abW s37a) f37a := (B.f37 0 t0 0 0 0 []).retell rfl rfl
  refine (walkN (cs := []) (frs := [f37a, f12, f3]) B.at' (e1 st2 s37a s12 s3) (e1Low st2 s37a s12 s3) e1O g1 ⟨g2, h12 (finE D Y D.n 0 g.length RB 0) rfl rfl, h3 (finE D Y D.n 0 g.length RB 0) rfl rfl rfl, trivial⟩ (fun p hp => ?_) (fun p hp => ?_)).mono fun m3 T3 hd => ?_
  · obtain rfl := List.mem_singleton.1 hp
    show decide ((D.n : Int) < (((D.n : Nat) : Int).toNat : Int)) = false
    exact decide_eq_false (by omega)
  · simp only [memE1, List.mem_cons, List.not_mem_nil, or_false] at hp
    rcases hp with rfl | rfl
    · exact F2.s2.cell rfl
    · refine F2.run.cell ?_
      show some (hdV D.n Y.TA Y.cT) = _
      rw [hdV_pos hn]
      rfl
  obtain ⟨w3, ρ3, hh3, a3', cl3, fr3, frs3, C3⟩ := hd
  obtain ⟨a39, a12, a3, rfl, e39, e12, e3⟩ := map_three C3.cls
  obtain ⟨f39, f12', f3', rfl, r39, r12, r3⟩ := frs_three C3.frs
  have n39 : a39.fn = 39 := congrArg Seen.fn e39
  have n12 : a12.fn = 12 := congrArg Seen.fn e12
  have n3 : a3.fn = 3 := congrArg Seen.fn e3
  rw [n39] at e39
  rw [n12] at e12
  rw [n3] at e3
  obtain ⟨s39, t39⟩ := FrRel.toldF r39 (lv := f39K) e39 (.inl rfl)
  obtain ⟨s12', t12⟩ := FrRel.toldF r12 (lv := [(6, ptr0 40)]) e12 (.inl rfl)
  obtain ⟨s3', t3⟩ := FrRel.toldF r3 (lv := f3K) e3 (.inl rfl)
  obtain ⟨st', t'⟩ := FrRel.toldF C3.fr (lv := eL (v 5)) C3.cur (.inl rfl)
  have z1 : ρ3.i 1 = D.n := C3.agree.i 1 (by decide)
  have z3 : ρ3.i 3 = sumC D.k D.n := C3.agree.i 3 (by decide)
  have z22 : ρ3.i 22 = Y.cT := C3.agree.i 22 (by decide)
  have u10 : ρ3.b 10 = D.R := C3.agree.b 10 (by decide)
  have u11 : ρ3.b 11 = D.OB := C3.agree.b 11 (by decide)
  have u13 : ρ3.b 13 = D.X := C3.agree.b 13 (by decide)
  have u20 : ρ3.b 20 = Y.TA := C3.agree.b 20 (by decide)
  have u40 : ρ3.b 40 = RB := C3.agree.b 40 (by decide)
  have fC : findB 100 hh3.hp = some (.cells rep0 39) := by rw [C3.hp]; rfl
  have oC : ObjAt w3 (ρ3.b 100) rep0V 39 := obj_of_cells C3.rel fC
  have sC : w2.heap.size ≤ ρ3.b 100 := C3.rel.own _ _ fC rfl
  refine ⟨ρ3.b 100, w3, st', s39, s12', s3', fr3, f39, f12', f3', C3.at', fun ρ h1 h2 h3 h4 h5 => t' ρ ?_, fun ρ h1 h2 => t39 ρ ?_, fun ρ h1 => t12 ρ ?_, fun ρ h1 h2 h3 => t3 ρ ?_, F2.keepN C3.keeps hn, hb2.keep C3.keeps (Nat.not_le.2 hb2.lt), oC, Nat.le_trans B.at'.size sC, fun e => ?_⟩
  · simp only [eL, thS, slc, nilA, List.map_cons, List.map_nil, AV.evs, ptr0, i64, v, AV.ev, Option.map_some, Option.map_none, AA.ev, BR.ev, IE.ev, h1, h2, h3, h4, h5, z1, z22, u10, u20]
    rfl
  · simp only [f39K, List.map_cons, List.map_nil, AV.evs, ptr0, AV.ev, Option.map_some, AA.ev, BR.ev, IE.ev, h1, h2, u10]
  · simp only [List.map_cons, List.map_nil, AV.evs, ptr0, AV.ev, Option.map_some, AA.ev, BR.ev, IE.ev, h1, u40]
  · simp only [f3K, List.map_cons, List.map_nil, AV.evs, ptr0, i64, v, TB, AV.ev, Option.map_some, AA.ev, BR.ev, IE.ev, BE.ev, h1, h2, h3, z3, u11, u13]
  · have := hb2.lt
    omega

/-- ends' first loop: nobody is left. -/
def EAt (D : Dat) (W0 : World) (Y : Lay) (th : Nat → Thr) (g : List Nat) (N : Nat) (cs : List Frame) (w0 : World) (e : Bool) (H : Nat → (Nat → Value) → Frame → Prop) (i : Nat) (m : Machine) (T : Trace) : Prop :=
  ∃ w st fr, SAt Try.prog D.base W0 Nob 0 N m T (G fr cs) w ∧ H i st fr ∧ Fin D Y th g e w ∧ Keeps (fun b => w0.heap.size ≤ b) w0 w

theorem e2_step {cs : List Frame} (hn : 0 < D.n) : ∀ i m T, i < D.n → EAt D W0 Y th g N cs w0 false (EHd D Y) i m T → Gets Try.prog m T (EAt D W0 Y th g N cs w0 false (EHd D Y) (i + 1)) := by
  rintro i m T hi ⟨w, st, fr, A, hf, F, kp⟩
  have n40 := F.n40
  have cA := F.arrT.arr i (ptrV (th i).T) (by simp [psL, List.getElem?_map, List.getElem?_range hi])
  rw [Nat.zero_add] at cA
  refine (walkN (cs := cs) (frs := []) A (e2 st) (e2Low st) e2O (hf (finE D Y i (th i).T g.length 0 0) rfl rfl rfl rfl rfl) trivial (fun p hp => ?_) (fun p hp => ?_)).mono fun m1 T1 hd => ?_
  · simp only [bsLp, List.mem_cons, List.not_mem_nil, or_false] at hp
    rcases hp with rfl | rfl
    · show decide ((i : Int) < (((D.n : Nat) : Int).toNat : Int)) = true
      exact decide_eq_true (by omega)
    · show decide ((0 : Int) ≤ (i : Int)) = true
      exact decide_eq_true (by omega)
  · simp only [memE2, List.mem_cons, List.not_mem_nil, or_false] at hp
    rcases hp with rfl | rfl
    · exact cA
    · exact (F.thr i hi).2
  obtain ⟨w1, ρ', hh, a1', cl, fr', frs', C⟩ := hd
  obtain ⟨rfl, rfl⟩ := C.lone
  obtain ⟨st', t'⟩ := FrRel.toldF C.fr (lv := eL (v 5)) C.cur (.inl rfl)
  have x1 : ρ'.i 1 = D.n := C.agree.i 1 (by decide)
  have x5 : ρ'.i 5 = i := C.agree.i 5 (by decide)
  have x22 : ρ'.i 22 = Y.cT := C.agree.i 22 (by decide)
  have y10 : ρ'.b 10 = D.R := C.agree.b 10 (by decide)
  have y20 : ρ'.b 20 = Y.TA := C.agree.b 20 (by decide)
  refine ⟨w1, st', fr', C.at', fun ρ h1 h2 h3 h4 h5 => t' ρ ?_, F.keepN C.keeps hn, kp.trans (C.keeps.mono fun b hb => Nat.le_trans kp.size hb)⟩
  simp only [eL, thS, slc, nilA, List.map_cons, List.map_nil, AV.evs, ptr0, i64, v, AV.ev, Option.map_some, Option.map_none, AA.ev, BR.ev, IE.ev, h1, h2, h3, h4, h5, x1, x5, x22, y10, y20, add_one (show i ≤ 100000 by omega)]

theorem e4_step {cs : List Frame} (hn : 0 < D.n) : ∀ i m T, i < D.n → EAt D W0 Y th g N cs w0 true (GHd D) i m T → Gets Try.prog m T (EAt D W0 Y th g N cs w0 true (GHd D) (i + 1)) := by
  rintro i m T hi ⟨w, st, fr, A, hf, F, kp⟩
  have n40 := F.n40
  have cA := F.arrT.arr i (ptrV (th i).T) (by simp [psL, List.getElem?_map, List.getElem?_range hi])
  rw [Nat.zero_add] at cA
  refine (walkN (cs := cs) (frs := []) A (e4 st) (e4Low st) e4O (hf (finE D Y i (th i).T g.length 0 0) rfl rfl) trivial (fun p hp => ?_) (fun p hp => ?_)).mono fun m1 T1 hd => ?_
  · simp only [bsLp, List.mem_cons, List.not_mem_nil, or_false] at hp
    rcases hp with rfl | rfl
    · show decide ((i : Int) < (((D.n : Nat) : Int).toNat : Int)) = true
      exact decide_eq_true (by omega)
    · show decide ((0 : Int) ≤ (i : Int)) = true
      exact decide_eq_true (by omega)
  · simp only [memE4, memE2, List.mem_cons, List.not_mem_nil, or_false] at hp
    rcases hp with rfl | rfl | rfl
    · refine F.run.cell ?_
      show some (hdV D.n Y.TA Y.cT) = _
      rw [hdV_pos hn]
      rfl
    · exact cA
    · exact (F.thr i hi).2
  obtain ⟨w1, ρ', hh, a1', cl, fr', frs', C⟩ := hd
  obtain ⟨rfl, rfl⟩ := C.lone
  obtain ⟨st', t'⟩ := FrRel.toldF C.fr (lv := gL (v 5)) C.cur (.inl rfl)
  have x5 : ρ'.i 5 = i := C.agree.i 5 (by decide)
  have y10 : ρ'.b 10 = D.R := C.agree.b 10 (by decide)
  refine ⟨w1, st', fr', C.at', fun ρ h1 h5 => t' ρ ?_, F.keepN C.keeps hn, kp.trans (C.keeps.mono fun b hb => Nat.le_trans kp.size hb)⟩
  simp only [gL, nilA, List.map_cons, List.map_nil, AV.evs, ptr0, i64, v, AV.ev, Option.map_some, Option.map_none, AA.ev, BR.ev, IE.ev, h1, h5, x5, y10, add_one (show i ≤ 100000 by omega)]

theorem e6_step {cs : List Frame} (hn : 0 < D.n) : ∀ i m T, i < D.n → EAt D W0 Y th g N cs w0 true (HHd D Y RC) i m T → Gets Try.prog m T (EAt D W0 Y th g N cs w0 true (HHd D Y RC) (i + 1)) := by
  rintro i m T hi ⟨w, st, fr, A, hf, F, kp⟩
  have n40 := F.n40
  have cA := F.arrF.arr i (.bool false) (by simp [fsL, List.getElem?_map, List.getElem?_range hi])
  rw [Nat.zero_add] at cA
  refine (walkN (cs := cs) (frs := []) A (e6 st) (e6Low st) e6O (hf (finE D Y i 0 g.length 0 RC) rfl rfl rfl rfl rfl rfl) trivial (fun p hp => ?_) (fun p hp => ?_)).mono fun m1 T1 hd => ?_
  · simp only [bsLp, List.mem_cons, List.not_mem_nil, or_false] at hp
    rcases hp with rfl | rfl
    · show decide ((i : Int) < (((D.n : Nat) : Int).toNat : Int)) = true
      exact decide_eq_true (by omega)
    · show decide ((0 : Int) ≤ (i : Int)) = true
      exact decide_eq_true (by omega)
  · obtain rfl := List.mem_singleton.1 hp
    exact cA
  obtain ⟨w1, ρ', hh, a1', cl, fr', frs', C⟩ := hd
  obtain ⟨rfl, rfl⟩ := C.lone
  obtain ⟨st', t'⟩ := FrRel.toldF C.fr (lv := hL (v 5)) C.cur (.inl rfl)
  have x1 : ρ'.i 1 = D.n := C.agree.i 1 (by decide)
  have x5 : ρ'.i 5 = i := C.agree.i 5 (by decide)
  have x23 : ρ'.i 23 = Y.cF := C.agree.i 23 (by decide)
  have y10 : ρ'.b 10 = D.R := C.agree.b 10 (by decide)
  have y21 : ρ'.b 21 = Y.FA := C.agree.b 21 (by decide)
  have y41 : ρ'.b 41 = RC := C.agree.b 41 (by decide)
  refine ⟨w1, st', fr', C.at', fun ρ h1 h2 h3 h4 h5 h6 => t' ρ ?_, F.keepN C.keeps hn, kp.trans (C.keeps.mono fun b hb => Nat.le_trans kp.size hb)⟩
  simp only [hL, feS, slc, nilA, List.map_cons, List.map_nil, AV.evs, ptr0, i64, v, AV.ev, Option.map_some, Option.map_none, AA.ev, BR.ev, IE.ev, h1, h2, h3, h4, h5, h6, x1, x5, x23, y10, y21, y41, add_one (show i ≤ 100000 by omega)]

noncomputable def e3E (D : Dat) (Y : Lay) (g : Nat) (a0 a1 a2 a3 a4 a5 : Value) : Env := mkE [(1, D.n), (5, D.n), (22, Y.cT)] [(10, D.R), (20, Y.TA)] [(40, a0), (41, a1), (42, a2), (43, a3), (44, a4), (45, a5)]

/-- Out of the first loop: the run stops. -/
theorem e3_out {cs : List Frame} {w : World} {st : Nat → Value} {fr : Frame} (hn : 0 < D.n) (A : SAt Try.prog D.base W0 Nob 0 N m T (G fr cs) w) (hf : EHd D Y D.n st fr) (F : Fin D Y th g false w) :
    Gets Try.prog m T fun m' T' => ∃ w' st' fr', SAt Try.prog D.base W0 Nob 0 N m' T' (G fr' cs) w' ∧ GHd D 0 st' fr' ∧ Fin D Y th g true w' ∧ Keeps (fun b => w.heap.size ≤ b ∨ b = D.R) w w' := by
  have hr := F.run
  generalize ha0 : hdV D.n Y.TA Y.cT = a0 at hr
  generalize ha2 : hdV g.length Y.LA Y.cL = a2 at hr
  generalize ha3 : hdV g.length Y.WA Y.cW = a3 at hr
  generalize ha4 : hdV g.length Y.RA Y.cR = a4 at hr
  generalize ha5 : hdV D.n Y.FA Y.cF = a5 at hr
  refine (walkP (cs := cs) (frs := []) A (own := fun b => w.heap.size ≤ b ∨ b = D.R) (fun b hb => hb.elim (A.new b) fun e => e ▸ nob_own F.bR) (fun n hn => .inl hn) (e3 st) (e3Low st) e3O (hf (e3E D Y g.length a0 (.map (some D.MB)) a2 a3 a4 a5) rfl rfl rfl rfl rfl) trivial (fun p hp => ?_) (fun p hp => by cases hp) (fun p hp => ?_) (fun p hp => ?_) (by simp) (fun p hp n hn => absurd hn nob_still)).mono fun m1 T1 hd => ?_
  · obtain rfl := List.mem_singleton.1 hp
    show decide ((D.n : Int) < (((D.n : Nat) : Int).toNat : Int)) = false
    exact decide_eq_false (by omega)
  · obtain rfl := List.mem_singleton.1 hp
    exact ObjAt.is (P := Try.prog) (ρ := e3E D Y g.length a0 (.map (some D.MB)) a2 a3 a4 a5) hr
  · obtain rfl := List.mem_singleton.1 hp
    exact .inr rfl
  obtain ⟨w1, ρ', hh, a1', cl, fr', frs', C⟩ := hd
  obtain ⟨rfl, rfl⟩ := C.lone
  obtain ⟨st', t'⟩ := FrRel.toldF C.fr (lv := gL (v 5)) C.cur (.inl rfl)
  have y10 : ρ'.b 10 = D.R := C.agree.b 10 (by decide)
  have fR : findB 10 hh.hp = some (.cells (runE TB) 87) := by rw [C.hp]; rfl
  have oR := obj_of_cells C.rel fR
  have eR : AV.evs ρ' (runE TB) = runV D a0 a2 a3 a4 a5 true := by
    simp only [runE, AV.evs, AV.ev, TB, BE.ev, C.agree.v]
    rfl
  rw [eR, y10, ← ha0, ← ha2, ← ha3, ← ha4, ← ha5] at oR
  refine ⟨w1, st', fr', C.at', fun ρ h1 h5 => t' ρ ?_, F.keepO C.keeps (fun b t h h39 h87 x => x.elim (Nat.not_le.2 h.lt) fun e => h.ne F.run.ty h87 e) (fun h x => ?_) hn oR, C.keeps⟩
  · simp only [gL, nilA, List.map_cons, List.map_nil, AV.evs, ptr0, i64, v, AV.ev, Option.map_some, Option.map_none, AA.ev, BR.ev, IE.ev, h1, h5, y10]
    rfl
  · have := F.old
    have := F.bR
    omega

/-- Out of the second loop: report goes on. -/
theorem e5_out {cs : List Frame} {w : World} {st s39 : Nat → Value} {fr f39 : Frame} (hn : 0 < D.n) (A : SAt Try.prog D.base W0 Nob 0 N m T (G fr (f39 :: cs)) w) (hf : GHd D D.n st fr) (h39 : F39At D RC s39 f39) (F : Fin D Y th g true w) :
    Gets Try.prog m T (EAt D W0 Y th g N cs w true (HHd D Y RC) 0) := by
  refine (walkN (cs := cs) (frs := [f39]) A (e5 st s39) (e5Low st s39) e5O (hf (finE D Y D.n 0 g.length 0 RC) rfl rfl) ⟨h39 _ rfl rfl, trivial⟩ (fun p hp => ?_) (fun p hp => ?_)).mono fun m1 T1 hd => ?_
  · obtain rfl := List.mem_singleton.1 hp
    show decide ((D.n : Int) < (((D.n : Nat) : Int).toNat : Int)) = false
    exact decide_eq_false (by omega)
  · simp only [memE5, List.mem_cons, List.not_mem_nil, or_false] at hp
    rcases hp with rfl | rfl
    · refine F.run.cell ?_
      show some (hdV D.n Y.TA Y.cT) = _
      rw [hdV_pos hn]
      rfl
    · refine F.run.cell ?_
      show some (hdV D.n Y.FA Y.cF) = _
      rw [hdV_pos hn]
      rfl
  obtain ⟨w1, ρ', hh, a1', cl, fr', frs', C⟩ := hd
  obtain ⟨rfl, rfl⟩ := C.lone
  obtain ⟨st', t'⟩ := FrRel.toldF C.fr (lv := hL (v 5)) C.cur (.inl rfl)
  have x1 : ρ'.i 1 = D.n := C.agree.i 1 (by decide)
  have x23 : ρ'.i 23 = Y.cF := C.agree.i 23 (by decide)
  have y10 : ρ'.b 10 = D.R := C.agree.b 10 (by decide)
  have y21 : ρ'.b 21 = Y.FA := C.agree.b 21 (by decide)
  have y41 : ρ'.b 41 = RC := C.agree.b 41 (by decide)
  refine ⟨w1, st', fr', C.at', fun ρ h1 h2 h3 h4 h5 h6 => t' ρ ?_, F.keepN C.keeps hn, C.keeps⟩
  simp only [hL, feS, slc, nilA, List.map_cons, List.map_nil, AV.evs, ptr0, i64, v, AV.ev, Option.map_some, Option.map_none, AA.ev, BR.ev, IE.ev, h1, h2, h3, h4, h5, h6, x1, x23, y10, y21, y41]
  rfl
end
end Go.Proofs.Ythaddgfbohmfoaa
/-
  GateRounds: the report is told; what is wanted; both are one. Conditions: none.
-/
set_option maxRecDepth 100000
set_option linter.unusedVariables false
set_option linter.unusedSimpArgs false
namespace Go.Proofs.Ythaddgfbohmfoaa
open Go.Proofs.Ythaddgfbohmfoaa.SX Go.Conc
open Go.ConcN (upd upd_ne upd_same)

def lstV (g b c : Nat) : Value := hdV g b c
noncomputable def finE7 (D : Dat) (Y : Lay) (g RB RC : Nat) : Env := mkE [(1, D.n), (3, sumC D.k D.n), (5, D.n), (6, g), (22, Y.cT), (23, Y.cF), (24, Y.cL), (25, Y.cW), (26, Y.cR)] [(10, D.R), (11, D.OB), (13, D.X), (15, D.MB), (20, Y.TA), (21, Y.FA), (23, Y.WA), (24, Y.LA), (25, Y.RA), (30, D.s1), (31, D.s2), (40, RB), (41, RC)] []
def repV (Y : Lay) (g : Nat) : List Value := [.int .i8 1, iV g, hdV g Y.LA Y.cL, hdV g Y.WA Y.cW, hdV g Y.RA Y.cR, nilV, nilV]
/-- The wanted list's head: in round r. -/
def OHd (D : Dat) (RD wl wb wc r : Nat) (st : Nat → Value) (fr : Frame) : Prop := ∀ ρ : Env, ρ.b 11 = D.OB → ρ.b 13 = D.X → ρ.i 3 = sumC D.k D.n → ρ.b 42 = RD → ρ.i 36 = wl → ρ.b 28 = wb → ρ.i 29 = wc → ρ.i 12 = r → FrRel Try.prog ρ (oHd st (zero? wl) (v 12)) fr
def IHd (D : Dat) (RD wl wb wc r i : Nat) (st : Nat → Value) (fr : Frame) : Prop := ∀ ρ : Env, ρ.b 11 = D.OB → ρ.b 13 = D.X → ρ.i 3 = sumC D.k D.n → ρ.b 42 = RD → ρ.i 36 = wl → ρ.b 28 = wb → ρ.i 29 = wc → ρ.i 12 = r → ρ.i 5 = i → FrRel Try.prog ρ (iHd st (zero? wl) (v 12) (v 5)) fr

/-- What is needed still. -/
structure Tail (D : Dat) (Y : Lay) (g : List Nat) (RD : Nat) (w : World) : Prop where
  rep : ObjAt w RD (repV Y g.length) 39
  x : ObjAt w D.X [iV g.length] 28
  went : 0 < g.length → VecAt Try.prog w 3 Y.WA (intsL g) Y.cW
  box : ObjAt w D.OB [.slice (some ⟨D.ob, D.oo, none⟩) D.n D.oc] 22
  often : ∀ i, i < D.n → w.cell? ⟨D.ob, D.oo + i, none⟩ = some (.int .u8 (D.o i))
  old : D.ob < D.base
  o8 : ∀ i, D.o i < 256
  n40 : D.n ≤ 40
  m : g.length ≤ 1300
theorem Tail.keep {D : Dat} {Y : Lay} {g : List Nat} {RD : Nat} {w w' : World} (F : Tail D Y g RD w) {own : Nat → Prop} (kp : Keeps own w w') (hb : ∀ b t, Ty w b t → t ≠ 3 → ¬ own b) (hW : 0 < g.length → ¬ own Y.WA) (hob : D.ob < w.heap.size → ¬ own D.ob) : Tail D Y g RD w' :=
  ⟨F.rep.keep kp (hb _ _ F.rep.ty (by decide)), F.x.keep kp (hb _ _ F.x.ty (by decide)), fun h => (F.went h).keep kp (hW h), F.box.keep kp (hb _ _ F.box.ty (by decide)), fun i hi => by
    have := F.often i hi
    have hl : D.ob < w.heap.size := cellLt this
    simp only [World.cell?] at this ⊢
    rw [kp.heap _ (hob hl)]; exact this, F.old, F.o8, F.n40, F.m⟩
theorem Tail.keepN {D : Dat} {Y : Lay} {g : List Nat} {RD : Nat} {w w' : World} (F : Tail D Y g RD w) (kp : Keeps (fun b => w.heap.size ≤ b) w w') : Tail D Y g RD w' :=
  F.keep kp (fun b t h _ => Nat.not_le.2 h.lt) (fun h => Nat.not_le.2 (F.went h).lt) (fun h => Nat.not_le.2 h)

section
variable {D : Dat} {W0 : World} {th : Nat → Thr} {g : List Nat} {Y : Lay} {N RB RC : Nat} {m : Machine} {T : Trace}

theorem e7_out {w : World} {st s12 s3 : Nat → Value} {fr f12 f3 : Frame} (hn : 0 < D.n) (A : SAt Try.prog D.base W0 Nob 0 N m T (G fr [f12, f3]) w) (hf : HHd D Y RC D.n st fr) (h12 : F12V RB s12 f12) (h3 : F3At D s3 f3) (F : Fin D Y th g true w) (hB : ObjAt w RB rep0V 39) (hC : ObjAt w RC rep0V 39) (gB : D.base ≤ RB) (gC : D.base ≤ RC) (hne : RB ≠ RC) :
    Gets Try.prog m T fun m' T' => ∃ RD w' st' fr', SAt Try.prog D.base W0 Nob 0 N m' T' (G fr' []) w' ∧ OHd D RD 0 0 0 0 st' fr' ∧ Tail D Y g RD w' := by
  obtain ⟨y, hy⟩ : ∃ y, y = zero? g.length := ⟨_, rfl⟩
  have e0 : y = true → g.length = 0 := fun h => zero_t (hy.symm.trans h)
  have e1 : y = false → 0 < g.length := fun h => zero_f (hy.symm.trans h)
  have hl : ∀ b c : Nat, ∀ ρ : Env, ∀ bi ci : Nat, ρ.i 6 = g.length → ρ.b bi = b → ρ.i ci = c → (lst y bi ci).ev ρ = hdV g.length b c := fun b c ρ bi ci h6 hb hc => by
    cases y with
    | true => rw [e0 rfl]; rfl
    | false =>
      rw [hdV_pos (e1 rfl)]
      show Value.slice (some ⟨ρ.b bi, 0, none⟩) (ρ.i 6).toNat (ρ.i ci).toNat = _
      rw [h6, hb, hc]; rfl
  refine (walkP (cs := []) (frs := [f12, f3]) A (own := fun b => w.heap.size ≤ b ∨ b = RB ∨ b = RC) (fun b hb => by
    rcases hb with hb | rfl | rfl
    · exact A.new b hb
    · exact nob_own gB
    · exact nob_own gC) (fun n hn => .inl hn) (e7 y st s12 s3) (e7Low st s12 s3) (e7O y) (hf (finE7 D Y g.length RB RC) rfl rfl rfl rfl rfl rfl) ⟨h12 _ rfl, h3 _ rfl rfl rfl, trivial⟩ (fun p hp => ?_) (fun p hp => ?_) (fun p hp => ?_) (fun p hp => ?_) ?_ (fun p hp n hn => absurd hn nob_still)).mono fun m1 T1 hd => ?_
  · obtain rfl := List.mem_singleton.1 hp
    show decide ((D.n : Int) < (((D.n : Nat) : Int).toNat : Int)) = false
    exact decide_eq_false (by omega)
  · have nR : ¬ (w.heap.size ≤ D.R ∨ D.R = RB ∨ D.R = RC) := fun x => by
      rcases x with x | x | x
      · exact Nat.not_lt.2 x F.run.lt
      · exact F.run.ty.ne hB.ty (by decide) x
      · exact F.run.ty.ne hC.ty (by decide) x
    simp only [memE7, List.mem_cons, List.not_mem_nil, or_false] at hp
    rcases hp with rfl | rfl | rfl
    · refine ⟨nR, F.run.cell ?_⟩
      rw [hl Y.LA Y.cL _ 24 24 rfl rfl rfl]
      rfl
    · refine ⟨nR, F.run.cell ?_⟩
      rw [hl Y.WA Y.cW _ 23 25 rfl rfl rfl]
      rfl
    · refine ⟨nR, F.run.cell ?_⟩
      rw [hl Y.RA Y.cR _ 25 26 rfl rfl rfl]
      rfl
  · simp only [hpE7, List.mem_cons, List.not_mem_nil, or_false] at hp
    rcases hp with rfl | rfl
    · exact ObjAt.is (P := Try.prog) (ρ := finE7 D Y g.length RB RC) hC
    · exact ObjAt.is (P := Try.prog) (ρ := finE7 D Y g.length RB RC) hB
  · simp only [hpE7, List.mem_cons, List.not_mem_nil, or_false] at hp
    rcases hp with rfl | rfl
    · exact .inr (.inr rfl)
    · exact .inr (.inl rfl)
  · show [RC, RB].Nodup
    have h' : ¬ RC = RB := fun e => hne e.symm
    simp [h']
  obtain ⟨w1, ρ', hh, a1', cl, fr', frs', C⟩ := hd
  obtain ⟨rfl, rfl⟩ := C.lone
  obtain ⟨st', t'⟩ := FrRel.toldF C.fr (lv := oL true (v 12)) C.cur (.inl rfl)
  have x3 : ρ'.i 3 = sumC D.k D.n := C.agree.i 3 (by decide)
  have x6 : ρ'.i 6 = g.length := C.agree.i 6 (by decide)
  have x24 : ρ'.i 24 = Y.cL := C.agree.i 24 (by decide)
  have x25 : ρ'.i 25 = Y.cW := C.agree.i 25 (by decide)
  have x26 : ρ'.i 26 = Y.cR := C.agree.i 26 (by decide)
  have y11 : ρ'.b 11 = D.OB := C.agree.b 11 (by decide)
  have y13 : ρ'.b 13 = D.X := C.agree.b 13 (by decide)
  have y23 : ρ'.b 23 = Y.WA := C.agree.b 23 (by decide)
  have y24 : ρ'.b 24 = Y.LA := C.agree.b 24 (by decide)
  have y25 : ρ'.b 25 = Y.RA := C.agree.b 25 (by decide)
  have fD : findB 100 hh.hp = some (.cells (rep1 y) 39) := by rw [C.hp]; rfl
  have oD := obj_of_cells C.rel fD
  have eN : (numY y).ev ρ' = (g.length : Int) := by
    cases y with
    | true => rw [e0 rfl]; rfl
    | false =>
      show (((ρ'.i 6).toNat : Nat) : Int) = _
      rw [x6]; rfl
  have eD : AV.evs ρ' (rep1 y) = repV Y g.length := by
    simp only [rep1, AV.evs, i64, AV.ev, eN, hl Y.LA Y.cL ρ' 24 24 x6 y24 x24, hl Y.WA Y.cW ρ' 23 25 x6 y23 x25, hl Y.RA Y.cR ρ' 25 26 x6 y25 x26]
    rfl
  rw [eD] at oD
  have nk : ∀ b t, Ty w b t → t ≠ 39 → ¬ (w.heap.size ≤ b ∨ b = RB ∨ b = RC) := fun b t h h39 x => by
    rcases x with x | x | x
    · exact Nat.not_lt.2 x h.lt
    · exact h.ne hB.ty h39 x
    · exact h.ne hC.ty h39 x
  refine ⟨ρ'.b 100, w1, st', fr', C.at', fun ρ h1 h2 h3 h4 h5 h6 h7 h8 => t' ρ ?_, ⟨oD, F.x.keep C.keeps (nk _ _ F.x.ty (by decide)), fun h => (F.went h).keep C.keeps (nk _ _ (F.went h).ty (by decide)), F.box.keep C.keeps (nk _ _ F.box.ty (by decide)), fun i hi => ?_, F.old, F.o8, F.n40, F.m⟩⟩
  · simp only [oL, wnt, nilA, List.map_cons, List.map_nil, AV.evs, ptr0, i64, v, TB, AV.ev, Option.map_some, Option.map_none, AA.ev, BR.ev, IE.ev, BE.ev, h1, h2, h3, h4, h5, h6, h7, h8, x3, y11, y13]
    rfl
  · have := F.often i hi
    have hlt : D.ob < w.heap.size := cellLt this
    have hold := F.old
    simp only [World.cell?] at this ⊢
    rw [C.keeps.heap _ (fun x => by omega)]; exact this

noncomputable def wntE (D : Dat) (i r RD wl wb wc : Nat) (ws : List Value) : Env := mkE [(1, D.n), (3, sumC D.k D.n), (5, i), (12, r), (4, D.o i), (7, D.oc), (8, D.oo), (36, wl), (29, wc)] [(9, D.ob), (11, D.OB), (13, D.X), (42, RD), (28, wb)] [(40, .agg ws.toArray)]

/-- The inner loop, in round r at thread i. -/
structure IAt (D : Dat) (W0 : World) (Y : Lay) (g : List Nat) (N RD r i : Nat) (ws : List Nat) (m : Machine) (T : Trace) : Prop where
  ex : ∃ w st fr wb wc, SAt Try.prog D.base W0 Nob 0 N m T (G fr []) w ∧ IHd D RD ws.length wb wc r i st fr ∧ Tail D Y g RD w ∧ (0 < ws.length → D.base ≤ wb ∧ VecAt Try.prog w 3 wb (intsL ws) wc ∧ (0 < g.length → Y.WA ≠ wb))
structure OAt (D : Dat) (W0 : World) (Y : Lay) (g : List Nat) (N RD r : Nat) (ws : List Nat) (m : Machine) (T : Trace) : Prop where
  ex : ∃ w st fr wb wc, SAt Try.prog D.base W0 Nob 0 N m T (G fr []) w ∧ OHd D RD ws.length wb wc r st fr ∧ Tail D Y g RD w ∧ (0 < ws.length → D.base ≤ wb ∧ VecAt Try.prog w 3 wb (intsL ws) wc ∧ (0 < g.length → Y.WA ≠ wb))

theorem wr_in {RD r : Nat} {ws : List Nat} (hr : r < 32) (H : OAt D W0 Y g N RD r ws m T) : Gets Try.prog m T (IAt D W0 Y g N RD r 0 ws) := by
  obtain ⟨w, st, fr, wb, wc, A, hf, F, hv⟩ := H.ex
  obtain ⟨z, hz⟩ : ∃ z, z = zero? ws.length := ⟨_, rfl⟩
  have hfr := hf (wntE D 0 r RD ws.length wb wc []) rfl rfl rfl rfl rfl rfl rfl rfl
  rw [← hz] at hfr
  refine (walkN (cs := []) (frs := []) A (f1 z st) (f1Low z st) (f1O true) hfr trivial (fun p hp => ?_) (fun p hp => by cases hp)).mono fun m1 T1 hd => ?_
  · obtain rfl := List.mem_singleton.1 hp
    show decide ((r : Int) < 32) = true
    exact decide_eq_true (by omega)
  obtain ⟨w1, ρ', hh, a1', cl, fr', frs', C⟩ := hd
  obtain ⟨rfl, rfl⟩ := C.lone
  obtain ⟨st', t'⟩ := FrRel.toldF C.fr (lv := iL z (v 12) (v 5)) C.cur (.inl rfl)
  have ev : AV.evs ρ' ((iL z (v 12) (.lit 0)).map (·.2)) = AV.evs (wntE D 0 r RD ws.length wb wc []) ((iL z (v 12) (.lit 0)).map (·.2)) := evsL C.agree (by cases z <;> rfl)
  rw [ev] at t'
  refine ⟨w1, st', fr', wb, wc, C.at', fun ρ h1 h2 h3 h4 h5 h6 h7 h8 h9 => ?_, F.keepN C.keeps, fun h => ⟨(hv h).1, (hv h).2.1.keep C.keeps (Nat.not_le.2 (hv h).2.1.lt), (hv h).2.2⟩⟩
  rw [← hz]
  refine t' ρ ?_
  cases z <;>
  · simp only [iL, oL, wnt, slc, nilA, List.map_append, List.cons_append, List.nil_append, List.map_cons, List.map_nil, AV.evs, ptr0, i64, v, TB, AV.ev, Option.map_some, Option.map_none, AA.ev, BR.ev, IE.ev, BE.ev, h1, h2, h3, h4, h5, h6, h7, h8, h9]
    rfl

theorem wr_lap {RD r i : Nat} {ws : List Nat} (hi : i < D.n) (hwl : ws.length ≤ 2000) (H : IAt D W0 Y g N RD r i ws m T) : Gets Try.prog m T (IAt D W0 Y g N RD r (i + 1) (ws ++ if r < D.k i then [i] else [])) := by
  obtain ⟨w, st, fr, wb, wc, A, hf, F, hv⟩ := H.ex
  have n40 := F.n40
  obtain ⟨z, hz⟩ : ∃ z, z = zero? ws.length := ⟨_, rfl⟩
  have e0 : z = true → ws = [] := fun h => List.length_eq_zero_iff.1 (zero_t (hz.symm.trans h))
  have e1 : z = false → 0 < ws.length := fun h => zero_f (hz.symm.trans h)
  obtain ⟨e, he⟩ : ∃ e : Bool, e = decide (r < D.k i) := ⟨_, rfl⟩
  have hfr := hf (wntE D i r RD ws.length wb wc (intsL ws)) rfl rfl rfl rfl rfl rfl rfl rfl rfl
  rw [← hz] at hfr
  have e8 : (wntE D i r RD ws.length wb wc (intsL ws)).i 4 = (D.o i : Nat) := rfl
  have p3 : ∀ inf, Try.prog.info? 3 = some inf → inf.size = 1 := fun inf hi => by
    have e2 : (Try.prog.info? 3).map (fun x => x.size) = some 1 := by kernel_rfl
    rw [hi] at e2
    exact Option.some.inj e2
  have hall : ∀ p ∈ hpF z e, z = false ∧ e = true ∧ p = (28, .pre false 40 (v 36) [] [] [] 3 (v 29)) := fun p hp => by
    cases z <;> cases e <;> simp only [hpF, List.mem_cons, List.not_mem_nil, or_false] at hp
    exact ⟨rfl, rfl, hp⟩
  have hfo := F.old
  refine (walkP (cs := []) (frs := []) A (own := fun b => w.heap.size ≤ b ∨ (z = false ∧ e = true ∧ b = wb)) (fun b hb => by
    rcases hb with hb | ⟨h, _, rfl⟩
    · exact A.new b hb
    · exact nob_own (hv (e1 h)).1) (fun n hn => .inl hn) (f2 z e st) (f2Low z e st) (f2O z e) hfr trivial (fun p hp => ?_) (fun p hp => ?_) (fun p hp => ?_) (fun p hp => ?_) ?_ (fun p hp n hn => absurd hn nob_still)).mono fun m1 T1 hd => ?_
  · have hp' : p = (.cmp .lss (v 5) (.tn (v 1)), true) ∨ p = (.cmp .leq (.lit 0) (v 5), true) ∨ p = (.cmp .gtr modE (v 12), e) ∨ p = (.cmp .leq (.plus (.tn (v 36)) (.lit 1)) (.lit 1048576), true) := by
      cases z <;> cases e <;> simp only [bsF2, bsLp, List.append_nil, List.cons_append, List.nil_append, List.mem_cons, List.not_mem_nil, or_false] at hp
      · rcases hp with h | h | h
        · exact .inl h
        · exact .inr (.inl h)
        · exact .inr (.inr (.inl h))
      · exact hp
      all_goals
        rcases hp with h | h | h
        · exact .inl h
        · exact .inr (.inl h)
        · exact .inr (.inr (.inl h))
    rcases hp' with rfl | rfl | rfl | rfl
    · show decide ((i : Int) < (((D.n : Nat) : Int).toNat : Int)) = true
      exact decide_eq_true (by omega)
    · show decide ((0 : Int) ≤ (i : Int)) = true
      exact decide_eq_true (by omega)
    · show decide (modE.ev (wntE D i r RD ws.length wb wc (intsL ws)) > (r : Int)) = e
      rw [mod_ev e8 (F.o8 i), he]
      show decide (((D.k i : Nat) : Int) > (r : Int)) = decide (r < D.k i)
      by_cases h0 : r < D.k i
      · rw [decide_eq_true h0]; exact decide_eq_true (by omega)
      · rw [decide_eq_false h0]; exact decide_eq_false (by omega)
    · show decide ((((((ws.length : Nat) : Int).toNat : Nat) : Int) + 1) ≤ 1048576) = true
      exact decide_eq_true (by omega)
  · simp only [memF, List.mem_cons, List.not_mem_nil, or_false] at hp
    rcases hp with rfl | rfl
    · refine ⟨fun x => ?_, F.box.cell rfl⟩
      rcases x with x | ⟨h, _, x⟩
      · exact Nat.not_lt.2 x F.box.lt
      · exact F.box.ty.ne (hv (e1 h)).2.1.ty (by decide) x
    · refine ⟨fun x => ?_, F.often i hi⟩
      have hlt : D.ob < w.heap.size := cellLt (F.often i hi)
      rcases x with x | ⟨h, _, x⟩
      · have x' : w.heap.size ≤ D.ob := x
        omega
      · have := (hv (e1 h)).1
        have x' : D.ob = wb := x
        omega
  · obtain ⟨h, _, rfl⟩ := hall p hp
    exact (hv (e1 h)).2.1.is (ρ := wntE D i r RD ws.length wb wc (intsL ws)) rfl (fun inf hinf => by
      rw [p3 inf hinf]
      show (intsL ws).length = ((ws.length : Nat) : Int).toNat * 1
      simp [intsL]) (fun p hp => by cases hp) rfl
  · obtain ⟨h, h', rfl⟩ := hall p hp
    exact .inr ⟨h, h', rfl⟩
  · cases z <;> cases e <;> simp [hpF]
  obtain ⟨w1, ρ', hh, a1', cl, fr', frs', C⟩ := hd
  obtain ⟨rfl, rfl⟩ := C.lone
  have F' : Tail D Y g RD w1 := F.keep C.keeps (fun b t h h3 x => by
    rcases x with x | ⟨h', _, x⟩
    · exact Nat.not_lt.2 x h.lt
    · exact h.ne (hv (e1 h')).2.1.ty h3 x) (fun h x => by
    rcases x with x | ⟨h', _, x⟩
    · exact Nat.not_lt.2 x (F.went h).lt
    · exact (hv (e1 h')).2.2 h x) (fun h x => by
    rcases x with x | ⟨h', _, x⟩
    · omega
    · have := (hv (e1 h')).1; omega)
  have x3 : ρ'.i 3 = sumC D.k D.n := C.agree.i 3 (by decide)
  have x5 : ρ'.i 5 = i := C.agree.i 5 (by decide)
  have x12 : ρ'.i 12 = r := C.agree.i 12 (by decide)
  have x36 : ρ'.i 36 = ws.length := C.agree.i 36 (by decide)
  have x29 : ρ'.i 29 = wc := C.agree.i 29 (by decide)
  have y11 : ρ'.b 11 = D.OB := C.agree.b 11 (by decide)
  have y13 : ρ'.b 13 = D.X := C.agree.b 13 (by decide)
  have y28 : ρ'.b 28 = wb := C.agree.b 28 (by decide)
  have y42 : ρ'.b 42 = RD := C.agree.b 42 (by decide)
  have v40 : ρ'.v 40 = .agg (intsL ws).toArray := by rw [C.agree.v]; rfl
  have a1 := add_one (show i ≤ 100000 by omega)
  cases e with
  | false =>
    rw [if_neg (of_decide_eq_false he.symm), List.append_nil]
    obtain ⟨st', t'⟩ := FrRel.toldF C.fr (lv := iL z (v 12) (v 5)) C.cur (.inl rfl)
    refine ⟨w1, st', fr', wb, wc, C.at', fun ρ h1 h2 h3 h4 h5 h6 h7 h8 h9 => ?_, F', fun h => ⟨(hv h).1, (hv h).2.1.keep C.keeps (fun x => ?_), (hv h).2.2⟩⟩
    · rw [← hz]
      refine t' ρ ?_
      cases z <;>
      simp only [iL, oL, wnt, wnt', slc, nilA, List.map_append, List.cons_append, List.nil_append, List.map_cons, List.map_nil, AV.evs, ptr0, i64, v, TB, AV.ev, Option.map_some, Option.map_none, AA.ev, BR.ev, IE.ev, BE.ev, h1, h2, h3, h4, h5, h6, h7, h8, h9, x3, x5, x12, x36, x29, y11, y13, y28, y42, a1]
    · rcases x with x | ⟨_, x, _⟩
      · exact Nat.not_lt.2 x (hv h).2.1.lt
      · cases x
  | true =>
    rw [if_pos (of_decide_eq_true he.symm)]
    have f : findB 101 hh.hp = some (arrF z) := by rw [C.hp]; rfl
    have eP : AV.evs ρ' [i64 (v 5)] = [iV (i : Int)] := by
      simp only [AV.evs, i64, v, AV.ev, IE.ev, x5]
      rfl
    have eL : intsL (ws ++ [i]) = intsL ws ++ [iV i] := by simp [intsL]
    have vL : VecAt Try.prog w1 3 (ρ'.b 101) (intsL (ws ++ [i])) (ρ'.i 101).toNat := by
      rw [eL]
      cases z with
      | true =>
        have h := vec_of_row C.rel f
        rw [eP] at h
        rw [e0 rfl]
        exact h
      | false =>
        have h := vec_of_pre C.rel f v40
        rw [eP] at h
        exact h
    have ow := C.rel.own _ _ f (by cases z <;> rfl)
    have hnz : zero? (ws ++ [i]).length = false := by simp [zero?]
    obtain ⟨st', t'⟩ := FrRel.toldF C.fr (lv := iL false (v 12) (v 5)) C.cur (.inl rfl)
    refine ⟨w1, st', fr', ρ'.b 101, (ρ'.i 101).toNat, C.at', fun ρ h1 h2 h3 h4 h5 h6 h7 h8 h9 => ?_, F', fun _ => ⟨?_, vL, fun h e => ?_⟩⟩
    · rw [hnz]
      refine t' ρ ?_
      rw [List.length_append, List.length_singleton] at h5
      cases z with
      | true =>
        rw [e0 rfl] at h5
        simp only [iL, oL, wnt, wnt', slc, nilA, List.map_append, List.cons_append, List.nil_append, List.map_cons, List.map_nil, AV.evs, ptr0, i64, v, TB, AV.ev, Option.map_some, Option.map_none, AA.ev, BR.ev, IE.ev, BE.ev, h1, h2, h3, h4, h5, h6, h7, h8, h9, x3, x5, x12, x36, x29, y11, y13, y28, y42, a1]
        rfl
      | false =>
        simp only [iL, oL, wnt, wnt', slc, nilA, List.map_append, List.cons_append, List.nil_append, List.map_cons, List.map_nil, AV.evs, ptr0, i64, v, TB, AV.ev, Option.map_some, Option.map_none, AA.ev, BR.ev, IE.ev, BE.ev, h1, h2, h3, h4, h5, h6, h7, h8, h9, x3, x5, x12, x36, x29, y11, y13, y28, y42, a1]
        rfl
    · rcases ow with x | ⟨h, _, x⟩
      · exact Nat.le_trans A.size x
      · rw [x]; exact (hv (e1 h)).1
    · rcases ow with x | ⟨h', _, x⟩
      · have := (F.went h).lt
        omega
      · exact (hv (e1 h')).2.2 h (e.trans x)

theorem wr_out {RD r : Nat} {ws : List Nat} (hr : r < 32) (H : IAt D W0 Y g N RD r D.n ws m T) : Gets Try.prog m T (OAt D W0 Y g N RD (r + 1) ws) := by
  obtain ⟨w, st, fr, wb, wc, A, hf, F, hv⟩ := H.ex
  obtain ⟨z, hz⟩ : ∃ z, z = zero? ws.length := ⟨_, rfl⟩
  have hfr := hf (wntE D D.n r RD ws.length wb wc []) rfl rfl rfl rfl rfl rfl rfl rfl rfl
  rw [← hz] at hfr
  refine (walkN (cs := []) (frs := []) A (f3 z st) (f3Low z st) f3O hfr trivial (fun p hp => ?_) (fun p hp => ?_)).mono fun m1 T1 hd => ?_
  · obtain rfl := List.mem_singleton.1 hp
    show decide ((D.n : Int) < (((D.n : Nat) : Int).toNat : Int)) = false
    exact decide_eq_false (by omega)
  · obtain rfl := List.mem_singleton.1 hp
    exact F.box.cell rfl
  obtain ⟨w1, ρ', hh, a1', cl, fr', frs', C⟩ := hd
  obtain ⟨rfl, rfl⟩ := C.lone
  obtain ⟨st', t'⟩ := FrRel.toldF C.fr (lv := oL z (v 12)) C.cur (.inl rfl)
  have x3 : ρ'.i 3 = sumC D.k D.n := C.agree.i 3 (by decide)
  have x12 : ρ'.i 12 = r := C.agree.i 12 (by decide)
  have x36 : ρ'.i 36 = ws.length := C.agree.i 36 (by decide)
  have x29 : ρ'.i 29 = wc := C.agree.i 29 (by decide)
  have y11 : ρ'.b 11 = D.OB := C.agree.b 11 (by decide)
  have y13 : ρ'.b 13 = D.X := C.agree.b 13 (by decide)
  have y28 : ρ'.b 28 = wb := C.agree.b 28 (by decide)
  have y42 : ρ'.b 42 = RD := C.agree.b 42 (by decide)
  have a1 := u8_succ (show r < 255 by omega)
  refine ⟨w1, st', fr', wb, wc, C.at', fun ρ h1 h2 h3 h4 h5 h6 h7 h8 => ?_, F.keepN C.keeps, fun h => ⟨(hv h).1, (hv h).2.1.keep C.keeps (Nat.not_le.2 (hv h).2.1.lt), (hv h).2.2⟩⟩
  rw [← hz]
  refine t' ρ ?_
  cases z <;>
  simp only [iL, oL, wnt, slc, nilA, List.map_append, List.cons_append, List.nil_append, List.map_cons, List.map_nil, AV.evs, ptr0, i64, v, TB, AV.ev, Option.map_some, Option.map_none, AA.ev, BR.ev, IE.ev, BE.ev, h1, h2, h3, h4, h5, h6, h7, h8, x3, x12, x36, x29, y11, y13, y28, y42, a1]

theorem wantR_succ (D : Dat) (r i : Nat) : wantR D r (i + 1) = wantR D r i ++ if r < D.k i then [i] else [] := by
  unfold wantR
  rw [List.range_succ, List.filter_append]
  by_cases h : r < D.k i
  · simp [h]
  · simp [h]

theorem wr_round {RD r : Nat} (hr : r < 32) (n40 : D.n ≤ 40) (H : OAt D W0 Y g N RD r (wantL D r) m T) : Gets Try.prog m T (OAt D W0 Y g N RD (r + 1) (wantL D (r + 1))) := by
  refine (wr_in hr H).trans fun m1 T1 H1 => ?_
  have H1' : IAt D W0 Y g N RD r 0 (wantL D r ++ wantR D r 0) m1 T1 := by
    have : wantR D r 0 = [] := rfl
    rw [this, List.append_nil]
    exact H1
  refine (laps (n := D.n) (I := fun i => IAt D W0 Y g N RD r i (wantL D r ++ wantR D r i)) (fun i m T hi H => ?_) D.n 0 (by omega) H1').trans fun m2 T2 H2 => wr_out hr H2
  have h1 := wantL_len D r
  have h2 := wantR_len D r i
  have h5 : r * D.n ≤ 31 * 40 := Nat.mul_le_mul (by omega) n40
  have := wr_lap hi (by rw [List.length_append]; omega) H
  rw [wantR_succ, ← List.append_assoc]
  exact this
theorem wr_rounds {RD : Nat} (n40 : D.n ≤ 40) (H : OAt D W0 Y g N RD 0 [] m T) : Gets Try.prog m T (OAt D W0 Y g N RD 32 (wantL D 32)) :=
  laps (n := 32) (I := fun r => OAt D W0 Y g N RD r (wantL D r)) (fun r m T hr H => wr_round hr n40 H) 32 0 rfl H
end
end Go.Proofs.Ythaddgfbohmfoaa
/-
  GateRounds: who went is who was wanted: it answers true. Conditions: none.
-/
set_option maxRecDepth 100000
set_option linter.unusedVariables false
set_option linter.unusedSimpArgs false
namespace Go.Proofs.Ythaddgfbohmfoaa
open Go.Proofs.Ythaddgfbohmfoaa.SX Go.Conc
open Go.ConcN (upd upd_ne upd_same)

/-- It answers true. -/
def Answers (base : Nat) (W0 : World) (m : Machine) (T : Trace) : Prop := ∃ N a w, SAt Try.prog base W0 Nob 0 N m T a w ∧ ∃ ρ, EndsAs (SK Try.prog base Nob) 3 ρ (.returned (.bool (.lit true))) [] a w

section
variable {base : Nat} {W0 : World} {N : Nat} {m : Machine} {T : Trace} {w : World}
theorem walkT {fr : Frame} {frs : List Frame} (A : SAt Try.prog base W0 Nob 0 N m T (G fr (frs ++ [])) w) {bs : List (BE × Bool)} {mem : List (AA × AV)} {n : Nat} {cur : AFrame} {callers : List AFrame}
    (hv : isT (run? Try.prog (OO bs [] mem) (XX bs [] mem) noSums n (cfg cur callers [])) = true) (hbot : bot cur.fn callers = 3) (hl : cfgLow 100 (cfg cur callers []) = true) (hO : (OO bs [] mem).low 100 = true) {ρ : Env} (hf : FrRel Try.prog ρ cur fr) (hfs : FrRels Try.prog ρ callers frs)
    (hb : ∀ p ∈ bs, p.1.ev ρ = p.2) (hm : ∀ p ∈ mem, w.cell? (p.1.ev ρ) = some (p.2.ev ρ)) :
    Gets Try.prog m T (Answers base W0) := by
  have Gd2 := sub_good (K := SK Try.prog base Nob) (O := OO bs [] mem) (own := fun b => w.heap.size ≤ b) (still := fun _ _ => False) SK_good (room_of A).new
  have W := piece_end (K := SK Try.prog base Nob) (main := true) (own := fun b => w.heap.size ≤ b) (still := fun _ _ => False) (O := OO bs [] mem) (cs := []) SK_good (room_of A).new ⟨fns_ok, ext_facts, mixed⟩ (ext_ok Gd2 (.inr tabC_quiet) tabC_facts) noSums_ok hv hl rfl hO hf hfs
    (rel_new ⟨hb, (fun p hp => by cases hp), fun p hp => ⟨Nat.not_le.2 (cellLt (hm p hp)), hm p hp, fun s => ⟨ev_read _ _ s, fun b n s e => by cases e⟩⟩⟩ (fun n hn => hn) fun b n h => h.elim (A.low b n) False.elim)
  have hbot' : bot (cfg cur callers []).cur.fn (cfg cur callers []).callers = 3 := hbot
  rw [hbot'] at W
  refine (A.walk W fun a' w' hd => hd.1.mono fun n hn => Nat.le_trans A.size hn).mono fun m' T' hd => ?_
  obtain ⟨a', w', A', _, hE⟩ := hd
  exact ⟨N, a', w', A', hE⟩
end

section
variable {D : Dat} {W0 : World} {g : List Nat} {Y : Lay} {N : Nat} {m : Machine} {T : Trace}

noncomputable def eqE (D : Dat) (Y : Lay) (g : List Nat) (RD wb wc i : Nat) (x : Int) : Env := mkE [(3, sumC D.k D.n), (5, i), (6, g.length), (36, g.length), (12, 32), (9, x), (25, Y.cW), (29, wc)] [(11, D.OB), (13, D.X), (23, Y.WA), (28, wb), (42, RD)] []

theorem tail_mem {RD wb wc i : Nat} {x : Int} {y : Bool} {w : World} (F : Tail D Y g RD w) (hlen : g.length = sumC D.k D.n) (hy : y = zero? g.length) : ∀ p ∈ memZ y, w.cell? (p.1.ev (eqE D Y g RD wb wc i x)) = some (p.2.ev (eqE D Y g RD wb wc i x)) := fun p hp => by
  have e0 : y = true → g.length = 0 := fun h => zero_t (hy.symm.trans h)
  have e1 : y = false → 0 < g.length := fun h => zero_f (hy.symm.trans h)
  have hl : (lst y 23 25).ev (eqE D Y g RD wb wc i x) = hdV g.length Y.WA Y.cW := by
    cases y with
    | true => rw [e0 rfl]; rfl
    | false => rw [hdV_pos (e1 rfl)]; rfl
  simp only [memZ, List.mem_cons, List.not_mem_nil, or_false] at hp
  rcases hp with rfl | rfl | rfl | rfl | rfl | rfl
  · exact F.rep.cell rfl
  · refine F.rep.cell ?_
    show some (iV (g.length : Int)) = some (Value.int .i64 ((sumC D.k D.n : Nat) : Int))
    rw [hlen]; rfl
  · refine F.rep.cell ?_
    rw [hl]; rfl
  · refine F.x.cell ?_
    show some (iV (g.length : Int)) = some (Value.int .i64 ((sumC D.k D.n : Nat) : Int))
    rw [hlen]; rfl
  · exact F.rep.cell rfl
  · exact F.rep.cell rfl
theorem bsZ_ok {RD wb wc i : Nat} {x : Int} : ∀ p ∈ bsZ, p.1.ev (eqE D Y g RD wb wc i x) = p.2 := fun p hp => by
  simp only [bsZ, List.mem_cons, List.not_mem_nil, or_false] at hp
  rcases hp with rfl | rfl | rfl
  · show decide ((32 : Int) < 32) = false
    rfl
  · show (((sumC D.k D.n : Nat) : Int) == ((sumC D.k D.n : Nat) : Int)) = true
    simp
  · show (((((g.length : Nat) : Int).toNat : Nat) : Int) != ((((g.length : Nat) : Int).toNat : Nat) : Int)) = false
    simp

def QHd (D : Dat) (Y : Lay) (g : List Nat) (wb wc i : Nat) (st : Nat → Value) (fr : Frame) : Prop := ∀ ρ : Env, ρ.b 23 = Y.WA → ρ.i 6 = g.length → ρ.i 25 = Y.cW → ρ.b 28 = wb → ρ.i 36 = g.length → ρ.i 29 = wc → ρ.i 5 = i → FrRel Try.prog ρ (qHd st (v 5)) fr
def F3Z (D : Dat) (RD : Nat) (st : Nat → Value) (fr : Frame) : Prop := ∀ ρ : Env, ρ.b 13 = D.X → ρ.i 3 = sumC D.k D.n → ρ.b 42 = RD → FrRel Try.prog ρ (f3Z st) fr
def QAt (D : Dat) (W0 : World) (Y : Lay) (g : List Nat) (N RD wb wc : Nat) (cs : List Frame) (i : Nat) (m : Machine) (T : Trace) : Prop :=
  ∃ w st fr, SAt Try.prog D.base W0 Nob 0 N m T (G fr cs) w ∧ QHd D Y g wb wc i st fr ∧ Tail D Y g RD w ∧ VecAt Try.prog w 3 wb (intsL g) wc

theorem q_step {RD wb wc : Nat} {cs : List Frame} : ∀ i m T, i < g.length → QAt D W0 Y g N RD wb wc cs i m T → Gets Try.prog m T (QAt D W0 Y g N RD wb wc cs (i + 1)) := by
  rintro i m T hi ⟨w, st, fr, A, hf, F, hv⟩
  have hm := F.m
  have hgi : (intsL g)[i]? = some (iV ((g[i] : Nat) : Int)) := by simp [intsL, List.getElem?_map, List.getElem?_eq_getElem hi]
  have c1 := (F.went (by omega)).arr i _ hgi
  have c2 := hv.arr i _ hgi
  rw [Nat.zero_add] at c1 c2
  refine (walkN (cs := cs) (frs := []) A (z2 st) (z2Low st) z2O (hf (eqE D Y g RD wb wc i ((g[i] : Nat) : Int)) rfl rfl rfl rfl rfl rfl rfl) trivial (fun p hp => ?_) (fun p hp => ?_)).mono fun m1 T1 hd => ?_
  · simp only [bsQ, List.mem_cons, List.not_mem_nil, or_false] at hp
    rcases hp with rfl | rfl | rfl | rfl
    · show decide ((i : Int) < (((g.length : Nat) : Int).toNat : Int)) = true
      exact decide_eq_true (by omega)
    · show decide ((0 : Int) ≤ (i : Int)) = true
      exact decide_eq_true (by omega)
    · show decide ((i : Int) < (((g.length : Nat) : Int).toNat : Int)) = true
      exact decide_eq_true (by omega)
    · show (((g[i] : Nat) : Int) != ((g[i] : Nat) : Int)) = false
      simp
  · simp only [memQ, List.mem_cons, List.not_mem_nil, or_false] at hp
    rcases hp with rfl | rfl
    · exact c1
    · exact c2
  obtain ⟨w1, ρ', hh, a1', cl, fr', frs', C⟩ := hd
  obtain ⟨rfl, rfl⟩ := C.lone
  obtain ⟨st', t'⟩ := FrRel.toldF C.fr (lv := qL (v 5)) C.cur (.inl rfl)
  have x5 : ρ'.i 5 = i := C.agree.i 5 (by decide)
  have x6 : ρ'.i 6 = g.length := C.agree.i 6 (by decide)
  have x36 : ρ'.i 36 = g.length := C.agree.i 36 (by decide)
  have x25 : ρ'.i 25 = Y.cW := C.agree.i 25 (by decide)
  have x29 : ρ'.i 29 = wc := C.agree.i 29 (by decide)
  have y23 : ρ'.b 23 = Y.WA := C.agree.b 23 (by decide)
  have y28 : ρ'.b 28 = wb := C.agree.b 28 (by decide)
  refine ⟨w1, st', fr', C.at', fun ρ h1 h2 h3 h4 h5 h6 h7 => t' ρ ?_, F.keepN C.keeps, hv.keep C.keeps (Nat.not_le.2 hv.lt)⟩
  simp only [qL, slc, List.map_cons, List.map_nil, AV.evs, ptr0, i64, v, AV.ev, Option.map_some, AA.ev, BR.ev, IE.ev, h1, h2, h3, h4, h5, h6, h7, x5, x6, x36, x25, x29, y23, y28, add_one (show i ≤ 100000 by omega)]

theorem answer {RD : Nat} (hlen : g.length = sumC D.k D.n) (H : OAt D W0 Y g N RD 32 g m T) : Gets Try.prog m T (Answers D.base W0) := by
  obtain ⟨w, st, fr, wb, wc, A, hf, F, hv⟩ := H.ex
  have hfr := hf (eqE D Y g RD wb wc 0 0) rfl rfl rfl rfl rfl rfl rfl rfl
  cases hy : zero? g.length with
  | true =>
    rw [hy] at hfr
    exact walkT (frs := []) A (z0 st) rfl (f1Low true st) (zO true) hfr trivial bsZ_ok (tail_mem F hlen hy.symm)
  | false =>
    rw [hy] at hfr
    have h0 := zero_f hy
    obtain ⟨hb, hvec, _⟩ := hv h0
    refine (walkN (cs := []) (frs := []) A (z1 st) (f1Low false st) (zO false) hfr trivial bsZ_ok (tail_mem F hlen hy.symm)).trans fun m1 T1 hd => ?_
    obtain ⟨w1, ρ', hh, a1', cl, fr', frs', C⟩ := hd
    obtain ⟨a3, rfl, e3⟩ := map_one C.cls
    obtain ⟨f3, rfl, r3⟩ := frs_one C.frs
    have n3 : a3.fn = 3 := congrArg Seen.fn e3
    rw [n3] at e3
    obtain ⟨s3, t3⟩ := FrRel.toldF r3 (lv := f3ZK) e3 (.inl rfl)
    obtain ⟨st', t'⟩ := FrRel.toldF C.fr (lv := qL (v 5)) C.cur (.inl rfl)
    have x3 : ρ'.i 3 = sumC D.k D.n := C.agree.i 3 (by decide)
    have x6 : ρ'.i 6 = g.length := C.agree.i 6 (by decide)
    have x36 : ρ'.i 36 = g.length := C.agree.i 36 (by decide)
    have x25 : ρ'.i 25 = Y.cW := C.agree.i 25 (by decide)
    have x29 : ρ'.i 29 = wc := C.agree.i 29 (by decide)
    have y13 : ρ'.b 13 = D.X := C.agree.b 13 (by decide)
    have y23 : ρ'.b 23 = Y.WA := C.agree.b 23 (by decide)
    have y28 : ρ'.b 28 = wb := C.agree.b 28 (by decide)
    have y42 : ρ'.b 42 = RD := C.agree.b 42 (by decide)
    have h3 : F3Z D RD s3 f3 := fun ρ h1 h2 h3 => t3 ρ (by
      simp only [f3ZK, List.map_cons, List.map_nil, AV.evs, ptr0, i64, v, TB, AV.ev, Option.map_some, AA.ev, BR.ev, IE.ev, BE.ev, h1, h2, h3, x3, y13, y42])
    have Q0 : QAt D W0 Y g N RD wb wc [f3] 0 m1 T1 := ⟨w1, st', fr', C.at', fun ρ h1 h2 h3 h4 h5 h6 h7 => t' ρ (by
      simp only [qL, slc, List.map_cons, List.map_nil, AV.evs, ptr0, i64, v, AV.ev, Option.map_some, AA.ev, BR.ev, IE.ev, h1, h2, h3, h4, h5, h6, h7, x6, x36, x25, x29, y23, y28]
      rfl), F.keepN C.keeps, hvec.keep C.keeps (Nat.not_le.2 hvec.lt)⟩
    refine (laps (n := g.length) (I := QAt D W0 Y g N RD wb wc [f3]) (fun i m T hi H => q_step i m T hi H) g.length 0 (by omega) Q0).trans fun m2 T2 hd => ?_
    obtain ⟨w2, st2, fr2, A2, hf2, F2, hv2⟩ := hd
    refine walkT (frs := [f3]) A2 (z3 st2 s3) rfl (z3Low st2 s3) z3O (hf2 (eqE D Y g RD wb wc g.length 0) rfl rfl rfl rfl rfl rfl rfl) ⟨h3 _ rfl rfl rfl, trivial⟩ (fun p hp => ?_) (tail_mem F2 hlen hy.symm)
    simp only [bsZ3, List.mem_cons, List.not_mem_nil, or_false] at hp
    rcases hp with rfl | rfl
    · show decide (((g.length : Nat) : Int) < (((g.length : Nat) : Int).toNat : Int)) = false
      exact decide_eq_false (by omega)
    · show (((sumC D.k D.n : Nat) : Int) == ((sumC D.k D.n : Nat) : Int)) = true
      simp

/-- From the bodies' list to the answer. -/
theorem all_in {i : Nat} {w : World} {st : Nat → Value} {fr : Frame} (hn : 0 < D.n) (B : BodAt D W0 N D.n m T w st fr) : Gets Try.prog m T (Answers D.base W0) := by
  refine (run_in hn B).trans fun m1 T1 hd => ?_
  obtain ⟨D1, RB, s12, s3, f12, f3, th, fr1, st1, w1, S1, B1, Sd, h12, h3⟩ := hd
  obtain ⟨e1, e2, e3, e4, e5, e6, e7, e8, e9⟩ := S1
  have hn1 : 0 < D1.n := by rw [e2]; exact hn
  refine (beg_loop D1.n 0 (by omega) B1 Sd).trans fun m2 T2 hd => ?_
  obtain ⟨Inb2, th2, fr2, st2, TA, cT, FA, cF, w2, B2, Sd2⟩ := hd
  refine (first_round hn1 B2 Sd2).trans fun m3 T3 hd => ?_
  obtain ⟨Y3, fr3, st3, w3, A3, hf3, M3, hb3, gB⟩ := hd
  refine (rounds hn1 1300 (by simp) (sch_zero D1) M3 A3 hf3 hb3).trans fun m4 T4 hd => ?_
  obtain ⟨Inb4, c4, g4, r4, p4, Y4, w4, fr4, st4, A4, hf4, M4, S4, hr4, hb4⟩ := hd
  obtain ⟨hE, hg, hlen⟩ := S4.done hr4
  obtain rfl : Inb4 = Nob := nobody M4 hE
  refine (end_in M4 hn1 hE hr4 A4 hf4 h12 h3 hb4).trans fun m5 T5 hd => ?_
  obtain ⟨RC, w5, st5, s39, s12', s3', fr5, f39, f12', f3', A5, hf5, h39, h12', h3', F5, hb5, hc5, gC, hne⟩ := hd
  refine (laps (n := D1.n) (I := EAt D1 W0 Y4 th2 g4 (D1.N0 + D1.n) [f39, f12', f3'] w5 false (EHd D1 Y4)) (e2_step hn1) D1.n 0 (by omega) ⟨w5, st5, fr5, A5, hf5, F5, Keeps.refl _ _⟩).trans fun m6 T6 hd => ?_
  obtain ⟨w6, st6, fr6, A6, hf6, F6, kp6⟩ := hd
  have o6 : ∀ {w' : World} {b : Nat} {cs : List Value} {e : TypeId} {w0 : World}, ObjAt w0 b cs e → Keeps (fun b => w0.heap.size ≤ b) w0 w' → ObjAt w' b cs e := fun h k => h.keep k (Nat.not_le.2 h.lt)
  refine (e3_out hn1 A6 hf6 F6).trans fun m7 T7 hd => ?_
  obtain ⟨w7, st7, fr7, A7, hf7, F7, kp7⟩ := hd
  have nR : ∀ {b : Nat} {cs : List Value}, ObjAt w6 b cs 39 → ¬ (w6.heap.size ≤ b ∨ b = D1.R) := fun h x => x.elim (Nat.not_le.2 h.lt) fun e => h.ty.ne F6.run.ty (by decide) e
  have hb6 := o6 hb5 kp6
  have hc6 := o6 hc5 kp6
  have hb7 := hb6.keep kp7 (nR hb6)
  have hc7 := hc6.keep kp7 (nR hc6)
  refine (laps (n := D1.n) (I := EAt D1 W0 Y4 th2 g4 (D1.N0 + D1.n) [f39, f12', f3'] w7 true (GHd D1)) (e4_step hn1) D1.n 0 (by omega) ⟨w7, st7, fr7, A7, hf7, F7, Keeps.refl _ _⟩).trans fun m8 T8 hd => ?_
  obtain ⟨w8, st8, fr8, A8, hf8, F8, kp8⟩ := hd
  refine (e5_out (RC := RC) hn1 A8 hf8 h39 F8).trans fun m9 T9 H9 => ?_
  refine (laps (n := D1.n) (I := EAt D1 W0 Y4 th2 g4 (D1.N0 + D1.n) [f12', f3'] w8 true (HHd D1 Y4 RC)) (e6_step hn1) D1.n 0 (by omega) H9).trans fun m10 T10 hd => ?_
  obtain ⟨w10, st10, fr10, A10, hf10, F10, kp10⟩ := hd
  have hb10 := o6 (o6 hb7 kp8) kp10
  have hc10 := o6 (o6 hc7 kp8) kp10
  refine (e7_out hn1 A10 hf10 h12' h3' F10 hb10 hc10 gB gC hne).trans fun m11 T11 hd => ?_
  obtain ⟨RD, w11, st11, fr11, A11, hf11, F11⟩ := hd
  refine (wr_rounds (RD := RD) F11.n40 ⟨w11, st11, fr11, 0, 0, A11, hf11, F11, fun h => absurd h (Nat.lt_irrefl 0)⟩).trans fun m12 T12 H12 => ?_
  rw [← hg] at H12
  rw [← e1]
  exact answer hlen H12
end
end Go.Proofs.Ythaddgfbohmfoaa
