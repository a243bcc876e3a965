/-
  What is known beforehand of works(). Conditions: none.
-/
import Derived.Test.YtmnahfonnljobaaGreatDoorSxLCtx
set_option maxRecDepth 100000
namespace Go.Proofs.YtmnahfonnljobaaGreatDoor
open Go.Proofs.YtmnahfonnljobaaGreatDoor.SX
noncomputable def O0 : Orc := { fns := fns, ext := ext, mem := [(⟨.glob 0, .lit 0⟩, .iface 220 (.agg [.ptr (some ⟨.glob 3, .lit 31⟩)]))] }
def h0 : AH := ⟨[], 100, 5192296858534827628530496329220096⟩
end Go.Proofs.YtmnahfonnljobaaGreatDoor
