/-
  MemoPlaces: the second part, class 0 of the key. Conditions: none.
-/
import Derived.Test.YtbnmlanhjpdalaaGreatDoorSxMPa
set_option maxRecDepth 100000
namespace Go.Proofs.YtbnmlanhjpdalaaGreatDoor
open Go.Proofs.YtbnmlanhjpdalaaGreatDoor.SX

theorem mpZ0 : mpZ 0 = true := by kernel_rfl
end Go.Proofs.YtbnmlanhjpdalaaGreatDoor
