/-
  GateRounds: from its entry to the run's beginning: pieces, as closed data. Conditions: none.
-/
import Derived.Test.YthaddgfbohmfoaaSxQC
import Derived.Test.YthaddgfbohmfoaaSxCrews
set_option maxRecDepth 100000
set_option linter.unusedVariables false
set_option linter.unusedSimpArgs false
namespace Go.Proofs.Ythaddgfbohmfoaa
open Go.Proofs.Ythaddgfbohmfoaa.SX Go.Conc

/-! ### works -/
noncomputable def f9In : AFrame := okA (enterA Try.prog 9 [] .normal)
theorem f9Enter : enterA Try.prog 9 [] .normal = .ok f9In := by kernel_rfl
def hCrew : AH := ⟨[], 100, 5192296858534827628530496329220096⟩
noncomputable def okS (m : M CSt) : CSt := match m with
  | .ok c => c
  | .error _ => ⟨1, ⟨⟨0, 0, .leaf, [], [], .run, .normal⟩, [], e0⟩, [], 0, 0⟩
noncomputable def wkS : CSt := okS (cchunk? Try.prog (OO [] [] []) (XX [] [] []) noSums 40000 1990 [] ⟨0, ⟨f9In, [], hCrew⟩, [], 1, 0⟩)
theorem wkRun : cchunk? Try.prog (OO [] [] []) (XX [] [] []) noSums 40000 1990 [] ⟨0, ⟨f9In, [], hCrew⟩, [], 1, 0⟩ = .ok wkS := by kernel_rfl
theorem wkH : wkS.h = 0 := by kernel_rfl
theorem wkSeats : wkS.seats = [] := by kernel_rfl
theorem wkDeaf : wkS.deaf = 0 := by kernel_rfl
theorem wkCallers : wkS.c.callers = [] := by kernel_rfl
theorem wkSeen : frSeen wkS.c.cur [0] = ⟨9, 44, [.code .ret], [], .run, .normal, [], [], [TB]⟩ := by kernel_rfl
noncomputable def f9R (st : Nat → Value) : AFrame := ⟨9, 44, tmpsOf 44 st [(0, TB)], [.code .ret], [], .run, .normal⟩

/-! ### up to works' call -/
noncomputable def oftS : AV := .slice (some ⟨.dyn 9, v 8⟩) (v 1) (v 7)
noncomputable def f3In : AFrame := okA (enterA Try.prog 3 [oftS] .normal)
theorem f3Enter : enterA Try.prog 3 [oftS] .normal = .ok f3In := by kernel_rfl
noncomputable def f3WT : List Item := [.inRegion (opsOf (pc (bodyOf Try.f3) [1,0])) [0, 1], .code (pc (bodyOf Try.f3) [1,1])]
noncomputable def f3W0 (st : Nat → Value) : AFrame := ⟨3, 95, tmpsOf 95 st [(1, ptr0 11)], f3WT, [], .run, .normal⟩
noncomputable def lv3 (l : List Nat) (f : FuncId) : List Nat := Bool.rec [] l (Nat.beq f 3)
theorem a0 : seeF (runQ [] [] 8 [100] (cfg f3In [] [])) [] (lv3 [1]) = some (⟨9, 44, [.code (bodyOf Try.f9)], [], .run, .normal, [], [(100, .cells [oftS] 22)], []⟩, [⟨3, 95, f3WT, [], .run, .normal, [], [], [ptr0 100]⟩]) := by kernel_rfl
theorem a0Low : cfgLow 100 (cfg f3In [] []) = true := by kernel_rfl

/-! ### works has answered -/
noncomputable def memW : List (AA × AV) := [(⟨.dyn 11, .lit 0⟩, oftS)]
/-- More than 40. -/
theorem w1T (s9 st : Nat → Value) : isT (run? Try.prog (OO [(.cmp .gtr (.tn (v 1)) (.lit 40), true)] [] memW) (XX [(.cmp .gtr (.tn (v 1)) (.lit 40), true)] [] memW) noSums 400 (cfg (f9R s9) [f3W0 st] [])) = true := by kernel_rfl
theorem w1Low (s9 st : Nat → Value) : cfgLow 100 (cfg (f9R s9) [f3W0 st] []) = true := by kernel_rfl
theorem w1O (b : Bool) : (OO [(.cmp .gtr (.tn (v 1)) (.lit 40), b)] [] memW).low 100 = true := by cases b <;> kernel_rfl
/-- None. -/
noncomputable def bsN : List (BE × Bool) := [(.cmp .gtr (.tn (v 1)) (.lit 40), false), (.cmp .gtr (.tn (v 1)) (.lit 64), false), (.cmp .lss (.lit 0) (.tn (v 1)), false)]
theorem w1N (s9 st : Nat → Value) : isT (run? Try.prog (OO bsN [] memW) (XX bsN [] memW) noSums 4000 (cfg (f9R s9) [f3W0 st] [])) = true := by kernel_rfl
theorem w1NO : (OO bsN [] memW).low 100 = true := by kernel_rfl

/-! ### the bodies -/
noncomputable def f3B : Code := pc (bodyOf Try.f3) [1,1,1,1,1,1,0,1,0,0]
noncomputable def f3Tl : List Item := [.code f3B, .inLoop f3B, .inBlock 0, .code (pc (bodyOf Try.f3) [1,1,1,1,1,1,1])]
noncomputable def bodL (z : Bool) : AV := match z with
  | true => nilA
  | false => slc 28 (v 2) (v 29)
noncomputable def f3L (z : Bool) : List (Nat × AV) := [(1, ptr0 11), (3, TB), (4, ptr0 13), (5, bodL z), (6, i64 (v 3)), (7, ptr0 12)]
noncomputable def f3Hd (st : Nat → Value) (z : Bool) : AFrame := ⟨3, 95, tmpsOf 95 st (f3L z), f3Tl, [], .run, .normal⟩
theorem w1B (s9 st : Nat → Value) : seeF (runQ [(.cmp .gtr (.tn (v 1)) (.lit 40), false)] memW 37 [101, 100] (cfg (f9R s9) [f3W0 st] [])) ((f3L true).map (·.1)) nol = some (⟨3, 95, f3Tl, [], .run, .normal, [], [(101, .cells [i64 (.lit 0)] 3), (100, .cells [i64 (.lit 0)] 28)], [ptr0 11, TB, ptr0 100, nilA, i64 (.lit 0), ptr0 101]⟩, []) := by kernel_rfl
noncomputable def memBd : List (AA × AV) := [(⟨.dyn 11, .lit 0⟩, oftS), (⟨.dyn 9, .plus (.tn (v 8)) (.tn (v 2))⟩, .int .u8 (v 4))]
noncomputable def bsBd (z : Bool) : List (BE × Bool) := [(.cmp .lss (v 2) (.tn (v 1)), true), (.cmp .leq (.lit 0) (v 2), true)] ++ match z with
  | true => []
  | false => [(.cmp .leq (.plus (.tn (v 2)) (.lit 1)) (.lit 1048576), true)]
noncomputable def hpBd (z : Bool) : List (Nat × ABlk) := (match z with
  | true => []
  | false => [(28, .pre false 40 (v 2) [] [] [] 35 (v 29))]) ++ [(12, .cells [i64 (v 2)] 3)]
noncomputable def hpBd' (z : Bool) : List (Nat × ABlk) := [(102, .cells [i64 (.op .add .i64 (v 2) (.lit 1))] 3), (101, arrB z 40 fvA 35 101), (12, .cells [i64 (v 2)] 3)]
noncomputable def bodV (z : Bool) : AV := match z with
  | true => slc 101 (.lit 1) (v 101)
  | false => slc 101 (.plus (.tn (v 2)) (.lit 1)) (v 101)
noncomputable def addE : IE := .op .add .i64 (v 3) (.conv .i64 modE)
theorem b0 (z : Bool) (st : Nat → Value) : seeF (runQ (bsBd z) memBd 47 [102, 101, 12] (cfg (f3Hd st z) [] (hpBd z))) ((f3L z).map (·.1)) nol = some (⟨3, 95, f3Tl, [], .run, .normal, [], hpBd' z, [ptr0 11, TB, ptr0 13, bodV z, i64 addE, ptr0 102]⟩, []) := by cases z <;> kernel_rfl
theorem b0Low (z : Bool) (st : Nat → Value) : cfgLow 100 (cfg (f3Hd st z) [] (hpBd z)) = true := by cases z <;> kernel_rfl
theorem b0O (z : Bool) : (OO (bsBd z) [] memBd).low 100 = true := by cases z <;> kernel_rfl

/-! ### gate.Run, up to the loop that begins the bodies -/
noncomputable def memRn : List (AA × AV) := [(⟨.dyn 11, .lit 0⟩, oftS), (⟨.dyn 12, .lit 0⟩, i64 (v 2))]
noncomputable def bsRn : List (BE × Bool) := [(.cmp .lss (v 2) (.tn (v 1)), false), (.cmp .gtr (.tn (v 1)) (.lit 64), false)]
noncomputable def f12T : List Item := [.inRegion (opsOf (pc (bodyOf Try.f12) [1,1,1,0])) [6, 7, 8, 9, 10, 11], .code (pc (bodyOf Try.f12) [1,1,1,1])]
noncomputable def f3RT : List Item := [.inRegion (opsOf (pc (bodyOf Try.f3) [1,1,1,1,1,1,1,0])) [1, 2, 3], .code (pc (bodyOf Try.f3) [1,1,1,1,1,1,1,1])]
noncomputable def f12K : List (Nat × AV) := [(6, ptr0 40), (7, ptr0 31)]
noncomputable def f3K : List (Nat × AV) := [(1, ptr0 11), (3, TB), (4, ptr0 13), (6, i64 (v 3))]
noncomputable def f12W (st : Nat → Value) : AFrame := ⟨12, 30, tmpsOf 30 st f12K, f12T, [], .run, .normal⟩
noncomputable def f3W (st : Nat → Value) : AFrame := ⟨3, 95, tmpsOf 95 st f3K, f3RT, [], .run, .normal⟩
noncomputable def lvR (f : FuncId) : List Nat := Bool.rec (Bool.rec [] [1, 3, 4, 6] (Nat.beq f 3)) [6, 7] (Nat.beq f 12)
noncomputable def rep0 : List AV := [i8z, i64 (.lit 0), nilA, nilA, nilA, nilA, nilA]
noncomputable def hpRn : List (Nat × ABlk) := [(104, .cells [ptr0 103] 75), (103, .cells [nilA, .map (some (.dyn 102)), nilA, nilA, nilA, nilA, ff] 87), (102, .map []), (101, .cells rep0 39), (100, .cells [nilA] 37)]
noncomputable def unV : List AV := [i64 (.lit 0), ptr0 103, i64 (.lit 4000), .func (.func 38) [] [ptr0 100, ptr0 104], slc 28 (v 2) (v 29), i64 (.tn (v 2))]
noncomputable def unTl : List Item := [.code unB, .inLoop unB, .inBlock 0, .code unR]
theorem c0 (st : Nat → Value) : seeF (runQ ((.cmp .gtr (.tn (v 2)) (.lit 64), false) :: bsRn) memRn 59 [104, 103, 102, 101, 100] (cfg (f3Hd st false) [] [])) ((unL (v 2)).map (·.1)) lvR = some (⟨37, 80, unTl, [], .run, .normal, [], hpRn, unV⟩, [⟨12, 30, f12T, [], .run, .normal, [], [], [ptr0 101, ptr0 104]⟩, ⟨3, 95, f3RT, [], .run, .normal, [], [], f3K.map (·.2)⟩]) := by kernel_rfl
theorem c0Low (st : Nat → Value) : cfgLow 100 (cfg (f3Hd st false) [] []) = true := by kernel_rfl
theorem c0O : (OO ((.cmp .gtr (.tn (v 2)) (.lit 64), false) :: bsRn) [] memRn).low 100 = true := by kernel_rfl
end Go.Proofs.Ythaddgfbohmfoaa
