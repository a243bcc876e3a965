/-
  Within, by its slot: closed data. Conditions: none.
-/
import Derived.Test.YtmnahfonnljobaaGreatDoorSxLOb
set_option maxRecDepth 100000
set_option linter.unusedVariables false
set_option linter.unusedSimpArgs false
namespace Go.Proofs.YtmnahfonnljobaaGreatDoor
open Go.Proofs.YtmnahfonnljobaaGreatDoor.SX Go.Conc

noncomputable def wG : Nat := 9671406556917033397649505
noncomputable def wGL : Nat := 9671406556917033397649504
noncomputable def wGP : Nat := 4835703278458516698824804
noncomputable def wGH : Nat := 1208925819614629174706279
noncomputable def wGB : Nat := 396140812571321687967719751778
noncomputable def wAB : Nat := 475368975085586025561263702113
noncomputable def wXB : Nat := 713053462628379038341895553119
noncomputable def wRg : AV := .func (.func 67) [] [ptr0 wGB, ptr0 wAB]
noncomputable def wCb : AV := .func (.func 68) [] [ptr0 wGB, ptr0 100, ptr0 wXB]
/-- The clock's block, where i slots are set; the next one holds f. -/
noncomputable def wCl (i : Nat) (f : AV) : ABlk := .cells ([ptr0 11, ptr0 12] ++ ((List.range 16).map fun j => [ptr0 (20 + j), ptr0 (40 + j), bif Nat.blt j i then .opq j else bif Nat.beq j i then f else .nilFunc]).flatten) 72
noncomputable def wSum : IE := .op .add .i64 (.lit 0) (v 1)
noncomputable def wB : List (BE × Bool) := [(.cmp .lss (v 1) (.lit 0), false), (.cmp .lss (.lit 4611686018427387904) (v 1), false), (.cmp .lss (v 1) (.lit 4611686018427387904), true), (.cmp .lss wSum (.lit 0), false), (.cmp .gtr wSum (.lit 4611686018427387904), false)]
noncomputable def wM (i : Nat) : List (AA × AV) := [(⟨.dyn 11, .lit 0⟩, i64 (.lit 0)), (⟨.dyn 11, .lit 1⟩, TB)] ++ ((List.range i).map fun j => [((⟨.dyn (20 + j), .lit 0⟩ : AA), i64 (.lit 2)), (⟨.dyn (20 + j), .lit 1⟩, TB)]).flatten
/-- All its temporaries are told: an unknown one would make the order matter. -/
noncomputable def wFull : List (Nat × AV) := [(0, nilP), (1, ptr0 10), (2, ptr0 60), (3, i64 (v 1))] ++ (List.range 47).map fun n => (n + 4, .opq (n + 44))
noncomputable def wE : AFrame := ⟨27, 51, tmpsOf 51 (fun _ => .nilIface) wFull, [.code (bodyOf Tryz.f27)], [], .run, .normal⟩
noncomputable def wPre (i : Nat) : List (Nat × ABlk) := [(10, wCl i .nilFunc), (20 + i, cel (.lit 0)), (40 + i, cel (.lit 0)), (60, fut 61 62 (.lit 0) .nilIface), (61, cel (.lit 0)), (62, lst 63 64 65), (63, cel (.lit 0)), (64, cel (.lit 0)), (65, plc0)]
noncomputable def wPost (i : Nat) : List (Nat × ABlk) := [(10, wCl i wRg), (20 + i, cel (.lit 2)), (40 + i, cel wSum), (60, fut 61 62 (.lit 0) .nilIface), (61, cel (.lit 0)), (62, lst 63 64 65), (63, cel (.lit 1)), (64, cel (.lit 1)), (65, .cells ([.nilFunc, i64 (.lit 0), wCb, i64 (.lit 0)] ++ pls 63) 236), (wGB, .cells [ptr0 wG] 43), (wG, fut 103 wGL (.lit 0) .nilIface), (103, cel (.lit 0)), (wGL, lst 104 wGH wGP), (104, cel (.lit 0)), (wGH, cel (.lit 0)), (wGP, plc0), (100, .cells [ptr0 10] 62), (wXB, .cells [i64 (.lit i), i64 (.lit 2)] 126), (wAB, .cells [i64 wSum] 2)]
noncomputable def wK (i : Nat) : List Nat := [10, 20 + i, 40 + i, 60, 61, 62, 63, 64, 65, wGB, wG, 103, wGL, 104, wGH, wGP, 100, wXB, wAB]
theorem wTmps (st : Nat → Value) : tmpsOf 51 st wFull = tmpsOf 51 (fun _ => .nilIface) wFull := by kernel_rfl
theorem wi0 : seeF (runZ wB (wM 0) 1740 (wK 0) (cfg wE [] (wPre 0))) [8, 9] (fun _ => []) = some (⟨27, 51, [.code .ret], [], .run, .normal, [], wPost 0, [ptr0 wG, i64 (.lit 0)]⟩, []) := by kernel_rfl
end Go.Proofs.YtmnahfonnljobaaGreatDoor
/-
  Within at each slot: closed data. Conditions: none.
-/
set_option maxRecDepth 100000
set_option linter.unusedVariables false
namespace Go.Proofs.YtmnahfonnljobaaGreatDoor
open Go.Proofs.YtmnahfonnljobaaGreatDoor.SX Go.Conc

theorem wi1 : seeF (runZ wB (wM 1) 1888 (wK 1) (cfg wE [] (wPre 1))) [8, 9] (fun _ => []) = some (⟨27, 51, [.code .ret], [], .run, .normal, [], wPost 1, [ptr0 wG, i64 (.lit 0)]⟩, []) := by kernel_rfl
theorem wi2 : seeF (runZ wB (wM 2) 2036 (wK 2) (cfg wE [] (wPre 2))) [8, 9] (fun _ => []) = some (⟨27, 51, [.code .ret], [], .run, .normal, [], wPost 2, [ptr0 wG, i64 (.lit 0)]⟩, []) := by kernel_rfl
theorem wi3 : seeF (runZ wB (wM 3) 2184 (wK 3) (cfg wE [] (wPre 3))) [8, 9] (fun _ => []) = some (⟨27, 51, [.code .ret], [], .run, .normal, [], wPost 3, [ptr0 wG, i64 (.lit 0)]⟩, []) := by kernel_rfl
theorem wi4 : seeF (runZ wB (wM 4) 2332 (wK 4) (cfg wE [] (wPre 4))) [8, 9] (fun _ => []) = some (⟨27, 51, [.code .ret], [], .run, .normal, [], wPost 4, [ptr0 wG, i64 (.lit 0)]⟩, []) := by kernel_rfl
theorem wi5 : seeF (runZ wB (wM 5) 2480 (wK 5) (cfg wE [] (wPre 5))) [8, 9] (fun _ => []) = some (⟨27, 51, [.code .ret], [], .run, .normal, [], wPost 5, [ptr0 wG, i64 (.lit 0)]⟩, []) := by kernel_rfl
theorem wi6 : seeF (runZ wB (wM 6) 2628 (wK 6) (cfg wE [] (wPre 6))) [8, 9] (fun _ => []) = some (⟨27, 51, [.code .ret], [], .run, .normal, [], wPost 6, [ptr0 wG, i64 (.lit 0)]⟩, []) := by kernel_rfl
theorem wi7 : seeF (runZ wB (wM 7) 2776 (wK 7) (cfg wE [] (wPre 7))) [8, 9] (fun _ => []) = some (⟨27, 51, [.code .ret], [], .run, .normal, [], wPost 7, [ptr0 wG, i64 (.lit 0)]⟩, []) := by kernel_rfl
theorem wi8 : seeF (runZ wB (wM 8) 2924 (wK 8) (cfg wE [] (wPre 8))) [8, 9] (fun _ => []) = some (⟨27, 51, [.code .ret], [], .run, .normal, [], wPost 8, [ptr0 wG, i64 (.lit 0)]⟩, []) := by kernel_rfl
theorem wi9 : seeF (runZ wB (wM 9) 3072 (wK 9) (cfg wE [] (wPre 9))) [8, 9] (fun _ => []) = some (⟨27, 51, [.code .ret], [], .run, .normal, [], wPost 9, [ptr0 wG, i64 (.lit 0)]⟩, []) := by kernel_rfl
theorem wi10 : seeF (runZ wB (wM 10) 3220 (wK 10) (cfg wE [] (wPre 10))) [8, 9] (fun _ => []) = some (⟨27, 51, [.code .ret], [], .run, .normal, [], wPost 10, [ptr0 wG, i64 (.lit 0)]⟩, []) := by kernel_rfl
theorem wi11 : seeF (runZ wB (wM 11) 3368 (wK 11) (cfg wE [] (wPre 11))) [8, 9] (fun _ => []) = some (⟨27, 51, [.code .ret], [], .run, .normal, [], wPost 11, [ptr0 wG, i64 (.lit 0)]⟩, []) := by kernel_rfl
theorem wi12 : seeF (runZ wB (wM 12) 3516 (wK 12) (cfg wE [] (wPre 12))) [8, 9] (fun _ => []) = some (⟨27, 51, [.code .ret], [], .run, .normal, [], wPost 12, [ptr0 wG, i64 (.lit 0)]⟩, []) := by kernel_rfl
theorem wi13 : seeF (runZ wB (wM 13) 3664 (wK 13) (cfg wE [] (wPre 13))) [8, 9] (fun _ => []) = some (⟨27, 51, [.code .ret], [], .run, .normal, [], wPost 13, [ptr0 wG, i64 (.lit 0)]⟩, []) := by kernel_rfl
theorem wi14 : seeF (runZ wB (wM 14) 3812 (wK 14) (cfg wE [] (wPre 14))) [8, 9] (fun _ => []) = some (⟨27, 51, [.code .ret], [], .run, .normal, [], wPost 14, [ptr0 wG, i64 (.lit 0)]⟩, []) := by kernel_rfl
theorem wi15 : seeF (runZ wB (wM 15) 3960 (wK 15) (cfg wE [] (wPre 15))) [8, 9] (fun _ => []) = some (⟨27, 51, [.code .ret], [], .run, .normal, [], wPost 15, [ptr0 wG, i64 (.lit 0)]⟩, []) := by kernel_rfl
theorem wiAll {i : Nat} (h : i < 16) : seeF (runZ wB (wM i) (1740 + 148 * i) (wK i) (cfg wE [] (wPre i))) [8, 9] (fun _ => []) = some (⟨27, 51, [.code .ret], [], .run, .normal, [], wPost i, [ptr0 wG, i64 (.lit 0)]⟩, []) := by
  have : i = 0 ∨ i = 1 ∨ i = 2 ∨ i = 3 ∨ i = 4 ∨ i = 5 ∨ i = 6 ∨ i = 7 ∨ i = 8 ∨ i = 9 ∨ i = 10 ∨ i = 11 ∨ i = 12 ∨ i = 13 ∨ i = 14 ∨ i = 15 := by omega
  rcases this with rfl | rfl | rfl | rfl | rfl | rfl | rfl | rfl | rfl | rfl | rfl | rfl | rfl | rfl | rfl | rfl
  · exact wi0
  · exact wi1
  · exact wi2
  · exact wi3
  · exact wi4
  · exact wi5
  · exact wi6
  · exact wi7
  · exact wi8
  · exact wi9
  · exact wi10
  · exact wi11
  · exact wi12
  · exact wi13
  · exact wi14
  · exact wi15
end Go.Proofs.YtmnahfonnljobaaGreatDoor
/-
  Within at each slot: closed data that lie low. Conditions: none.
-/
set_option maxRecDepth 100000
set_option linter.unusedVariables false
namespace Go.Proofs.YtmnahfonnljobaaGreatDoor
open Go.Proofs.YtmnahfonnljobaaGreatDoor.SX Go.Conc

theorem wl0 : cfgLow 100 (cfg wE [] (wPre 0)) = true := by kernel_rfl
theorem wo0 : (OO wB (wM 0)).low 100 = true := by kernel_rfl
theorem wl1 : cfgLow 100 (cfg wE [] (wPre 1)) = true := by kernel_rfl
theorem wo1 : (OO wB (wM 1)).low 100 = true := by kernel_rfl
theorem wl2 : cfgLow 100 (cfg wE [] (wPre 2)) = true := by kernel_rfl
theorem wo2 : (OO wB (wM 2)).low 100 = true := by kernel_rfl
theorem wl3 : cfgLow 100 (cfg wE [] (wPre 3)) = true := by kernel_rfl
theorem wo3 : (OO wB (wM 3)).low 100 = true := by kernel_rfl
theorem wl4 : cfgLow 100 (cfg wE [] (wPre 4)) = true := by kernel_rfl
theorem wo4 : (OO wB (wM 4)).low 100 = true := by kernel_rfl
theorem wl5 : cfgLow 100 (cfg wE [] (wPre 5)) = true := by kernel_rfl
theorem wo5 : (OO wB (wM 5)).low 100 = true := by kernel_rfl
theorem wl6 : cfgLow 100 (cfg wE [] (wPre 6)) = true := by kernel_rfl
theorem wo6 : (OO wB (wM 6)).low 100 = true := by kernel_rfl
theorem wl7 : cfgLow 100 (cfg wE [] (wPre 7)) = true := by kernel_rfl
theorem wo7 : (OO wB (wM 7)).low 100 = true := by kernel_rfl
theorem wl8 : cfgLow 100 (cfg wE [] (wPre 8)) = true := by kernel_rfl
theorem wo8 : (OO wB (wM 8)).low 100 = true := by kernel_rfl
theorem wl9 : cfgLow 100 (cfg wE [] (wPre 9)) = true := by kernel_rfl
theorem wo9 : (OO wB (wM 9)).low 100 = true := by kernel_rfl
theorem wl10 : cfgLow 100 (cfg wE [] (wPre 10)) = true := by kernel_rfl
theorem wo10 : (OO wB (wM 10)).low 100 = true := by kernel_rfl
theorem wl11 : cfgLow 100 (cfg wE [] (wPre 11)) = true := by kernel_rfl
theorem wo11 : (OO wB (wM 11)).low 100 = true := by kernel_rfl
theorem wl12 : cfgLow 100 (cfg wE [] (wPre 12)) = true := by kernel_rfl
theorem wo12 : (OO wB (wM 12)).low 100 = true := by kernel_rfl
theorem wl13 : cfgLow 100 (cfg wE [] (wPre 13)) = true := by kernel_rfl
theorem wo13 : (OO wB (wM 13)).low 100 = true := by kernel_rfl
theorem wl14 : cfgLow 100 (cfg wE [] (wPre 14)) = true := by kernel_rfl
theorem wo14 : (OO wB (wM 14)).low 100 = true := by kernel_rfl
theorem wl15 : cfgLow 100 (cfg wE [] (wPre 15)) = true := by kernel_rfl
theorem wo15 : (OO wB (wM 15)).low 100 = true := by kernel_rfl
theorem wiLow {i : Nat} (h : i < 16) : cfgLow 100 (cfg wE [] (wPre i)) = true := by
  have : i = 0 ∨ i = 1 ∨ i = 2 ∨ i = 3 ∨ i = 4 ∨ i = 5 ∨ i = 6 ∨ i = 7 ∨ i = 8 ∨ i = 9 ∨ i = 10 ∨ i = 11 ∨ i = 12 ∨ i = 13 ∨ i = 14 ∨ i = 15 := by omega
  rcases this with rfl | rfl | rfl | rfl | rfl | rfl | rfl | rfl | rfl | rfl | rfl | rfl | rfl | rfl | rfl | rfl
  · exact wl0
  · exact wl1
  · exact wl2
  · exact wl3
  · exact wl4
  · exact wl5
  · exact wl6
  · exact wl7
  · exact wl8
  · exact wl9
  · exact wl10
  · exact wl11
  · exact wl12
  · exact wl13
  · exact wl14
  · exact wl15
theorem wiO {i : Nat} (h : i < 16) : (OO wB (wM i)).low 100 = true := by
  have : i = 0 ∨ i = 1 ∨ i = 2 ∨ i = 3 ∨ i = 4 ∨ i = 5 ∨ i = 6 ∨ i = 7 ∨ i = 8 ∨ i = 9 ∨ i = 10 ∨ i = 11 ∨ i = 12 ∨ i = 13 ∨ i = 14 ∨ i = 15 := by omega
  rcases this with rfl | rfl | rfl | rfl | rfl | rfl | rfl | rfl | rfl | rfl | rfl | rfl | rfl | rfl | rfl | rfl
  · exact wo0
  · exact wo1
  · exact wo2
  · exact wo3
  · exact wo4
  · exact wo5
  · exact wo6
  · exact wo7
  · exact wo8
  · exact wo9
  · exact wo10
  · exact wo11
  · exact wo12
  · exact wo13
  · exact wo14
  · exact wo15
end Go.Proofs.YtmnahfonnljobaaGreatDoor
