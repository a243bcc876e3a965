/-
  PoolNil: what is known of what is called, and of the number, in classes. Conditions: none.
-/
import Derived.Test.YtcpiafgkmakdiaaGreatSxPNA5
set_option maxRecDepth 100000
namespace Go.Proofs.YtcpiafgkmakdiaaGreat
open Go.Proofs.YtcpiafgkmakdiaaGreat.SX

def v1 : IE := .var 1
def v4 : IE := .var 4
/-- What is called: 0 to 7 · below · beyond. -/
noncomputable def pnDo : Nat → List (BE × Bool)
  | 8 => [(.cmp .lss v1 (.lit 0), true)]
  | 9 => [(.cmp .lss v1 (.lit 0), false), (.cmp .geq v1 (.lit 8), true)]
  | d => (.cmp .lss v1 (.lit 0), false) :: (.cmp .geq v1 (.lit 8), false) :: (List.range 10).map fun j => (.cmp .eql v1 (.lit (.ofNat j)), Nat.beq j d)
/-- The number: below 1 · 1 to 4 · beyond. -/
noncomputable def pnTk (t : Nat) : List (BE × Bool) := [(.cmp .lss v4 (.lit 1), Nat.beq t 0), (.cmp .geq v4 (.lit 5), Nat.beq t 5), (.cmp .geq (.lit 0) v4, Nat.beq t 0)]
noncomputable def pnTi : Nat → List (IE × IE)
  | 0 => []
  | 5 => []
  | t => [(v4, .lit (.ofNat t)), (.conv .i64 v4, .lit (.ofNat t))]
end Go.Proofs.YtcpiafgkmakdiaaGreat
