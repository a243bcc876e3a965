/-
  PoolNil: the loop, for each class of what is called, class 3 of the number. Conditions: none.
-/
import Derived.Test.YtcpiafgkmakdiaaGreatSxPNB
set_option maxRecDepth 100000
namespace Go.Proofs.YtcpiafgkmakdiaaGreat
open Go.Proofs.YtcpiafgkmakdiaaGreat.SX Go.Proofs.YtcpiafgkmakdiaaGreat.SX.Short
theorem pnBs0t3 : cchunk? Tryz.prog (OB (pnDo 0 ++ pnTk 3) (pnTi 3)) (EX (pnDo 0 ++ pnTk 3) (pnTi 3)) (SM (pnDo 0 ++ pnTk 3) (pnTi 3)) 40000 1383 [] pnA5 = .ok pnB0 := by kernel_rfl
theorem pnBs1t3 : cchunk? Tryz.prog (OB (pnDo 1 ++ pnTk 3) (pnTi 3)) (EX (pnDo 1 ++ pnTk 3) (pnTi 3)) (SM (pnDo 1 ++ pnTk 3) (pnTi 3)) 40000 1395 [] pnA5 = .ok pnB1 := by kernel_rfl
theorem pnBs2t3 : cchunk? Tryz.prog (OB (pnDo 2 ++ pnTk 3) (pnTi 3)) (EX (pnDo 2 ++ pnTk 3) (pnTi 3)) (SM (pnDo 2 ++ pnTk 3) (pnTi 3)) 40000 1393 [] pnA5 = .ok pnB2 := by kernel_rfl
theorem pnBs3t3 : cchunk? Tryz.prog (OB (pnDo 3 ++ pnTk 3) (pnTi 3)) (EX (pnDo 3 ++ pnTk 3) (pnTi 3)) (SM (pnDo 3 ++ pnTk 3) (pnTi 3)) 40000 1399 [] pnA5 = .ok pnB3 := by kernel_rfl
theorem pnBs4t3 : cchunk? Tryz.prog (OB (pnDo 4 ++ pnTk 3) (pnTi 3)) (EX (pnDo 4 ++ pnTk 3) (pnTi 3)) (SM (pnDo 4 ++ pnTk 3) (pnTi 3)) 40000 1501 [] pnA5 = .ok pnB4 := by kernel_rfl
theorem pnBs5t3 : cchunk? Tryz.prog (OB (pnDo 5 ++ pnTk 3) (pnTi 3)) (EX (pnDo 5 ++ pnTk 3) (pnTi 3)) (SM (pnDo 5 ++ pnTk 3) (pnTi 3)) 40000 1503 [] pnA5 = .ok pnB5 := by kernel_rfl
theorem pnBs6t3 : cchunk? Tryz.prog (OB (pnDo 6 ++ pnTk 3) (pnTi 3)) (EX (pnDo 6 ++ pnTk 3) (pnTi 3)) (SM (pnDo 6 ++ pnTk 3) (pnTi 3)) 40000 1435 [] pnA5 = .ok pnB6 := by kernel_rfl
theorem pnBs7t3 : cchunk? Tryz.prog (OB (pnDo 7 ++ pnTk 3) (pnTi 3)) (EX (pnDo 7 ++ pnTk 3) (pnTi 3)) (SM (pnDo 7 ++ pnTk 3) (pnTi 3)) 40000 1447 [] pnA5 = .ok pnB7 := by kernel_rfl
theorem pnBs8t3 : cchunk? Tryz.prog (OB (pnDo 8 ++ pnTk 3) (pnTi 3)) (EX (pnDo 8 ++ pnTk 3) (pnTi 3)) (SM (pnDo 8 ++ pnTk 3) (pnTi 3)) 40000 1396 [] pnA5 = .ok pnB8 := by kernel_rfl
theorem pnBs9t3 : cchunk? Tryz.prog (OB (pnDo 9 ++ pnTk 3) (pnTi 3)) (EX (pnDo 9 ++ pnTk 3) (pnTi 3)) (SM (pnDo 9 ++ pnTk 3) (pnTi 3)) 40000 1396 [] pnA5 = .ok pnB9 := by kernel_rfl
end Go.Proofs.YtcpiafgkmakdiaaGreat
