/-
  MemoPlaces: the second part, class 2 of the key. Conditions: none.
-/
import Derived.Test.YtbnmlanhjpdalaaGreatDoorSxMPa
set_option maxRecDepth 100000
namespace Go.Proofs.YtbnmlanhjpdalaaGreatDoor
open Go.Proofs.YtbnmlanhjpdalaaGreatDoor.SX

theorem mpZ2 : mpZ 2 = true := by kernel_rfl
end Go.Proofs.YtbnmlanhjpdalaaGreatDoor
