/-
  LimitNone: what is known beforehand of the number, in three cases. Conditions: none.
-/
import Derived.Test.YtmnahfonnljobaaGreatDoorSxZCtx
set_option maxRecDepth 100000
namespace Go.Proofs.YtmnahfonnljobaaGreatDoor
open Go.Proofs.YtmnahfonnljobaaGreatDoor.SX
/-- Less than nought. -/
def ln1 : List (BE × Bool) := [(.cmp .lss (.var 1) (.lit 0), true)]
/-- From nought to the greatest time. -/
def ln2 : List (BE × Bool) := [(.cmp .lss (.var 1) (.lit 0), false), (.cmp .lss (.lit 4611686018427387904) (.var 1), false), (.cmp .gtr (.var 1) (.lit 4611686018427387904), false), (.cmp .lss (.var 1) (.var 1), false), (.cmp .leq (.var 1) (.var 1), true), (.cmp .gtr (.var 1) (.var 1), false)]
def ln2i : List (IE × IE) := [(.op .add .i64 (.lit 0) (.var 1), .var 1)]
/-- Beyond it. -/
def ln3 : List (BE × Bool) := [(.cmp .lss (.var 1) (.lit 0), false), (.cmp .lss (.lit 4611686018427387904) (.var 1), true)]
end Go.Proofs.YtmnahfonnljobaaGreatDoor
