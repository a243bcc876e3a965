/-
  MemoPlaces: the second part, class 1 of the key. Conditions: none.
-/
import Derived.Test.YtbnmlanhjpdalaaGreatDoorSxMPa
set_option maxRecDepth 100000
namespace Go.Proofs.YtbnmlanhjpdalaaGreatDoor
open Go.Proofs.YtbnmlanhjpdalaaGreatDoor.SX

theorem mpZ1 : mpZ 1 = true := by kernel_rfl
end Go.Proofs.YtbnmlanhjpdalaaGreatDoor
