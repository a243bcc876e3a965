/-
  StealNone: its start, its end, run by run. Conditions: none.
-/
import Derived.Test.YtcpiafgkmakdiaaSxSNbuild
set_option maxRecDepth 100000
set_option linter.unusedVariables false
namespace Go.Proofs.Ytcpiafgkmakdiaa
open Go.Proofs.Ytcpiafgkmakdiaa.SX Go.Proofs.Ytcpiafgkmakdiaa.SX.Short

noncomputable def mk3 (O : Orc) : Sums := markSum Try.prog O (EO O) noSums 40000 40000 [43]
noncomputable def rf3 (O : Orc) : Sums := rfSum Try.prog O (EO O) (mk3 O) 40000 7777 [18, 46]
noncomputable def orS (a b : Sums) : Sums := fun g x h => match a g x h with
  | some r => some r
  | none => b g x h
noncomputable def sum0 (O : Orc) : Sums := orS (rf3 O) (mk3 O)
noncomputable def sum3 (O : Orc) : Sums := orS oneSum (sum0 O)
noncomputable def O0 (t : Bool) : Orc := { bs := ltB 0 false ++ mostB t, fns := fns, ext := ext, sums := [18, 46, 43], offs := offs }

theorem fin_tt : clast? Try.prog (O3 true true) (EO (O3 true true)) (sum3 (O3 true true)) 40000 3000 (snSt (snOld true)) = true := by kernel_rfl
theorem fin_tf : clast? Try.prog (O3 true false) (EO (O3 true false)) (sum3 (O3 true false)) 40000 3000 (snSt (snOld true)) = true := by kernel_rfl
theorem fin_ft : clast? Try.prog (O3 false true) (EO (O3 false true)) (sum3 (O3 false true)) 40000 3000 (snSt (snOld false)) = true := by kernel_rfl
theorem fin_ff : clast? Try.prog (O3 false false) (EO (O3 false false)) (sum3 (O3 false false)) 40000 3000 (snSt (snOld false)) = true := by kernel_rfl
theorem fin0_tt : clast? Try.prog (O0 true) (EO (O0 true)) (sum0 (O0 true)) 40000 3000 (snSt (snCf true 0)) = true := by kernel_rfl
theorem fin0_tf : clast? Try.prog (O0 false) (EO (O0 false)) (sum0 (O0 false)) 40000 3000 (snSt (snCf true 0)) = true := by kernel_rfl
theorem fin0_ft : clast? Try.prog (O0 true) (EO (O0 true)) (sum0 (O0 true)) 40000 3000 (snSt (snCf false 0)) = true := by kernel_rfl
theorem fin0_ff : clast? Try.prog (O0 false) (EO (O0 false)) (sum0 (O0 false)) 40000 3000 (snSt (snCf false 0)) = true := by kernel_rfl

noncomputable def v1 : IE := .var 1
noncomputable def startB : Nat → List (BE × Bool)
  | 0 => [(.cmp .lss v1 (.lit 0), false), (.cmp .gtr v1 (.lit 70), false)]
  | 1 => [(.cmp .lss v1 (.lit 0), true)]
  | _ => [(.cmp .lss v1 (.lit 0), false), (.cmp .gtr v1 (.lit 70), true)]
noncomputable def sA : Nat → Sub
  | 0 => { is := [(3, v1)], vs := [(200, .int .i64 v1), (219, .int .i64 v1), (220, .int .i64 v1), (221, F), (222, F), (223, .int .i64 v1), (224, F), (225, F)] }
  | 1 => { is := [(3, .lit 70)], vs := [(200, .int .i64 v1), (219, .int .i64 v1), (220, .int .i64 v1), (221, T), (222, T), (223, Z), (224, Z), (225, T)] }
  | _ => { is := [(3, .lit 70)], vs := [(200, .int .i64 v1), (219, .int .i64 v1), (220, .int .i64 v1), (221, F), (222, F), (223, .int .i64 v1), (224, T), (225, T)] }
noncomputable def snA (h : Bool) (k : Nat) : ACfg := ⟨(snCf h 0).cur.ren (sA k), [], ⟨renH (sA k) (snHp h 0), 103, snLim⟩⟩
noncomputable def snArg (h : Bool) : List AV := [.int .i64 v1, .int .i64 v2, .int .i64 (.var 4), .bool (.lit h)]
noncomputable def snFr5 (h : Bool) : AFrame := ⟨5, 74, TT.fill (snArg h) 0 .leaf, [.code (pc (bodyOf Try.f5) [])], [], .run, .normal⟩
noncomputable def snSteps : Nat → Nat
  | 0 => 36
  | _ => 38
theorem sn5 (h : Bool) : enterA Try.prog 5 (snArg h) .normal = .ok (snFr5 h) := by cases h <;> kernel_rfl
def Start (h : Bool) (k : Nat) : Prop := mchunk? Try.prog (OB (startB k) []) (EX (startB k) []) noSums 40000 (snSteps k) [102, 101, 100] (snSt ⟨snFr5 h, [], h0⟩) = .ok (snSt (snA h k))
theorem start_t0 : Start true 0 := by unfold Start; kernel_rfl
theorem start_t1 : Start true 1 := by unfold Start; kernel_rfl
theorem start_t2 : Start true 2 := by unfold Start; kernel_rfl
theorem start_f0 : Start false 0 := by unfold Start; kernel_rfl
theorem start_f1 : Start false 1 := by unfold Start; kernel_rfl
theorem start_f2 : Start false 2 := by unfold Start; kernel_rfl
theorem ren_t0 : IsRen (sA 0) (snA true 0) (snCf true 0) := ⟨by kernel_rfl, rfl, rfl, rfl⟩
theorem ren_t1 : IsRen (sA 1) (snA true 1) (snCf true 0) := ⟨by kernel_rfl, rfl, rfl, rfl⟩
theorem ren_t2 : IsRen (sA 2) (snA true 2) (snCf true 0) := ⟨by kernel_rfl, rfl, rfl, rfl⟩
theorem ren_f0 : IsRen (sA 0) (snA false 0) (snCf false 0) := ⟨by kernel_rfl, rfl, rfl, rfl⟩
theorem ren_f1 : IsRen (sA 1) (snA false 1) (snCf false 0) := ⟨by kernel_rfl, rfl, rfl, rfl⟩
theorem ren_f2 : IsRen (sA 2) (snA false 2) (snCf false 0) := ⟨by kernel_rfl, rfl, rfl, rfl⟩
theorem low_t : cfgLow 103 (snCf true 0) = true := by kernel_rfl
theorem low_f : cfgLow 103 (snCf false 0) = true := by kernel_rfl
theorem noq3_t (t : Bool) : (O3 true t).noq 7777 = true := by cases t <;> kernel_rfl
theorem noq3_f (t : Bool) : (O3 false t).noq 7777 = true := by cases t <;> kernel_rfl
theorem noq0 (t : Bool) : (O0 t).noq 7777 = true := by cases t <;> kernel_rfl
end Go.Proofs.Ytcpiafgkmakdiaa
