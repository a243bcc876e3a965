/-
  PoolNil: the rest, for each class of the number: it comes to 'true'. Conditions: none.
-/
import Derived.Test.YtcpiafgkmakdiaaGreatSxPNR
set_option maxRecDepth 100000
namespace Go.Proofs.YtcpiafgkmakdiaaGreat
open Go.Proofs.YtcpiafgkmakdiaaGreat.SX

noncomputable def pnZ (t : Nat) : Bool := clast? Tryz.prog (OB (pnTk t) (pnTi t)) (EX (pnTk t) (pnTi t)) (SM (pnTk t) (pnTi t)) 40000 4500 pnD
theorem pnZ0 : pnZ 0 = true := by kernel_rfl
theorem pnZ1 : pnZ 1 = true := by kernel_rfl
theorem pnZ2 : pnZ 2 = true := by kernel_rfl
theorem pnZ3 : pnZ 3 = true := by kernel_rfl
theorem pnZ4 : pnZ 4 = true := by kernel_rfl
theorem pnZ5 : pnZ 5 = true := by kernel_rfl
theorem pnLow : cfgLow 100 pnD.c = true := by kernel_rfl
theorem pnNb : pnD.c.h.nb = 100 := by kernel_rfl
theorem pnLowO0 : (OB (pnTk 0) (pnTi 0)).low 100 = true := by kernel_rfl
theorem pnLowO1 : (OB (pnTk 1) (pnTi 1)).low 100 = true := by kernel_rfl
theorem pnLowO2 : (OB (pnTk 2) (pnTi 2)).low 100 = true := by kernel_rfl
theorem pnLowO3 : (OB (pnTk 3) (pnTi 3)).low 100 = true := by kernel_rfl
theorem pnLowO4 : (OB (pnTk 4) (pnTi 4)).low 100 = true := by kernel_rfl
theorem pnLowO5 : (OB (pnTk 5) (pnTi 5)).low 100 = true := by kernel_rfl
theorem pnD_is : pnD = ⟨0, pnD.c, [], 3, 0⟩ := rfl
end Go.Proofs.YtcpiafgkmakdiaaGreat
