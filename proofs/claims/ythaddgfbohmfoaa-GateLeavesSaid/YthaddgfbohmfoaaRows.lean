/-
  No cell of these rows narrows 'for every input' (looked for: loops, veiled, ifaces, maps, wideKeys, modest, calm, conditions, laid).
  DERIVED. THE GIVEN ROWS OF THIS SEAT. 6 by the template 'for every input the law returns true; each argument reads behind the call as it read before'; 0 by the template 'total and deterministic' (their statements: YthaddgfbohmfoaaTotals.lean).
  GIVEN WITH THE SEED: the statements are not yours to turn. If you find one false, say at which input.
  Laid BY PROGRAM, IN A SANDBOX (cutbox-rows.mjs): the forced cells as the released guide's own fill.sh prints them over the translation 9fcc31f48ed4d641… (all of the seat's roots in one cut). By AI agents, Wed Nov 11 2026. No macro, syntax, notation, axiom, sorry.
-/
import Derived.Test.YthaddgfbohmfoaaChecked
import GoSem.Claim
import GoSem.ClaimJoined
import GoSem.ClaimMapViews
import Derived.JoinedTies
import Derived.KernelRfl
namespace Go.Proofs.Ythaddgfbohmfoaa
/- THE CELL 'sum', in the pinned program and in every row, IS THE sha256 OF THE DUMP (.gsa) THAT YthaddgfbohmfoaaProg.lean LOADS. Nothing in Lean hashes anything: it is a label: what it is worth is what the hold of that sum in a sandbox is worth. -/
noncomputable def Try.pinned : Pinned := { name := "ythaddgfbohmfoaa", sum := "9fcc31f48ed4d6411e59fe53b89da5d5ba6cc93e4eab11711368008db75896d5", checked := Try.checked }
namespace Rows
def none {H : Type} : Left H := { results := [], args := [] }

/-- 'treadlelaw01.GateRounds': WHATEVER THE INPUT: true; the input reads as it did. -/
def gateRoundsSpec : ChangeSpec := { name := "gateRounds", fn := fun _ => fun
  | [d] => { results := [.lit (.bool true)], args := [d] }
  | _ => none }
def gateRoundsRow : OpenClaim := { program := "ythaddgfbohmfoaa", sum := "9fcc31f48ed4d6411e59fe53b89da5d5ba6cc93e4eab11711368008db75896d5", func := "treadle/treadlelaw01.GateRounds", spec := "gateRounds", inPlace := ["sync/atomic.LoadInt64", "sync/atomic.StoreInt64", "sync/atomic.CompareAndSwapInt64", "sync/atomic.AddInt64"], unfollowed := true, recurses := true, leaving := true, apart := false }
def GateRoundsSaid : Prop := gateRoundsRow.holds Try.pinned (OpenSpec.ofChange gateRoundsSpec)

/-- ITS FALSE NEIGHBOUR: 'it returns false'. Refute it at one input. -/
def gateRoundsWrong : ChangeSpec := { name := "gateRounds", fn := fun _ => fun
  | [d] => { results := [.lit (.bool false)], args := [d] }
  | _ => none }
def GateRoundsWrongFalsely : Prop := gateRoundsRow.holds Try.pinned (OpenSpec.ofChange gateRoundsWrong)

/-- 'treadlelaw01.GateRecords': WHATEVER THE INPUT: true; the input reads as it did. -/
def gateRecordsSpec : ChangeSpec := { name := "gateRecords", fn := fun _ => fun
  | [d] => { results := [.lit (.bool true)], args := [d] }
  | _ => none }
def gateRecordsRow : OpenClaim := { program := "ythaddgfbohmfoaa", sum := "9fcc31f48ed4d6411e59fe53b89da5d5ba6cc93e4eab11711368008db75896d5", func := "treadle/treadlelaw01.GateRecords", spec := "gateRecords", inPlace := ["sync/atomic.LoadInt64", "sync/atomic.StoreInt64", "sync/atomic.CompareAndSwapInt64", "sync/atomic.AddInt64"], unfollowed := true, recurses := true, leaving := true, apart := false }
def GateRecordsSaid : Prop := gateRecordsRow.holds Try.pinned (OpenSpec.ofChange gateRecordsSpec)

/-- ITS FALSE NEIGHBOUR: 'it returns false'. Refute it at one input. -/
def gateRecordsWrong : ChangeSpec := { name := "gateRecords", fn := fun _ => fun
  | [d] => { results := [.lit (.bool false)], args := [d] }
  | _ => none }
def GateRecordsWrongFalsely : Prop := gateRecordsRow.holds Try.pinned (OpenSpec.ofChange gateRecordsWrong)

/-- 'treadlelaw01.GateLeaves': WHATEVER THE INPUT: true; the input reads as it did. -/
def gateLeavesSpec : ChangeSpec := { name := "gateLeaves", fn := fun _ => fun
  | [d] => { results := [.lit (.bool true)], args := [d] }
  | _ => none }
def gateLeavesRow : OpenClaim := { program := "ythaddgfbohmfoaa", sum := "9fcc31f48ed4d6411e59fe53b89da5d5ba6cc93e4eab11711368008db75896d5", func := "treadle/treadlelaw01.GateLeaves", spec := "gateLeaves", inPlace := ["sync/atomic.LoadInt64", "sync/atomic.StoreInt64", "sync/atomic.CompareAndSwapInt64", "sync/atomic.AddInt64"], unfollowed := true, recurses := true, leaving := true, apart := false }
def GateLeavesSaid : Prop := gateLeavesRow.holds Try.pinned (OpenSpec.ofChange gateLeavesSpec)

/-- ITS FALSE NEIGHBOUR: 'it returns false'. Refute it at one input. -/
def gateLeavesWrong : ChangeSpec := { name := "gateLeaves", fn := fun _ => fun
  | [d] => { results := [.lit (.bool false)], args := [d] }
  | _ => none }
def GateLeavesWrongFalsely : Prop := gateLeavesRow.holds Try.pinned (OpenSpec.ofChange gateLeavesWrong)

/-- 'treadlelaw01.GateInner': WHATEVER THE INPUT: true; the input reads as it did. -/
def gateInnerSpec : ChangeSpec := { name := "gateInner", fn := fun _ => fun
  | [d1, d2] => { results := [.lit (.bool true)], args := [d1, d2] }
  | _ => none }
def gateInnerRow : OpenClaim := { program := "ythaddgfbohmfoaa", sum := "9fcc31f48ed4d6411e59fe53b89da5d5ba6cc93e4eab11711368008db75896d5", func := "treadle/treadlelaw01.GateInner", spec := "gateInner", inPlace := ["sync/atomic.LoadInt64", "sync/atomic.StoreInt64", "sync/atomic.CompareAndSwapInt64", "sync/atomic.AddInt64"], unfollowed := true, recurses := true, leaving := true, apart := false }
def GateInnerSaid : Prop := gateInnerRow.holds Try.pinned (OpenSpec.ofChange gateInnerSpec)

/-- ITS FALSE NEIGHBOUR: 'it returns false'. Refute it at one input. -/
def gateInnerWrong : ChangeSpec := { name := "gateInner", fn := fun _ => fun
  | [d1, d2] => { results := [.lit (.bool false)], args := [d1, d2] }
  | _ => none }
def GateInnerWrongFalsely : Prop := gateInnerRow.holds Try.pinned (OpenSpec.ofChange gateInnerWrong)

/-- 'treadlelaw01.GateAgains': WHATEVER THE INPUT: true; the input reads as it did. -/
def gateAgainsSpec : ChangeSpec := { name := "gateAgains", fn := fun _ => fun
  | [d1, d2] => { results := [.lit (.bool true)], args := [d1, d2] }
  | _ => none }
def gateAgainsRow : OpenClaim := { program := "ythaddgfbohmfoaa", sum := "9fcc31f48ed4d6411e59fe53b89da5d5ba6cc93e4eab11711368008db75896d5", func := "treadle/treadlelaw01.GateAgains", spec := "gateAgains", inPlace := ["sync/atomic.LoadInt64", "sync/atomic.StoreInt64", "sync/atomic.CompareAndSwapInt64", "sync/atomic.AddInt64"], unfollowed := true, recurses := true, leaving := true, apart := false }
def GateAgainsSaid : Prop := gateAgainsRow.holds Try.pinned (OpenSpec.ofChange gateAgainsSpec)

/-- ITS FALSE NEIGHBOUR: 'it returns false'. Refute it at one input. -/
def gateAgainsWrong : ChangeSpec := { name := "gateAgains", fn := fun _ => fun
  | [d1, d2] => { results := [.lit (.bool false)], args := [d1, d2] }
  | _ => none }
def GateAgainsWrongFalsely : Prop := gateAgainsRow.holds Try.pinned (OpenSpec.ofChange gateAgainsWrong)

/-- 'treadlelaw01.GateBegins': WHATEVER THE INPUT: true; the input reads as it did. -/
def gateBeginsSpec : ChangeSpec := { name := "gateBegins", fn := fun _ => fun
  | [d1, d2] => { results := [.lit (.bool true)], args := [d1, d2] }
  | _ => none }
def gateBeginsRow : OpenClaim := { program := "ythaddgfbohmfoaa", sum := "9fcc31f48ed4d6411e59fe53b89da5d5ba6cc93e4eab11711368008db75896d5", func := "treadle/treadlelaw01.GateBegins", spec := "gateBegins", inPlace := ["sync/atomic.LoadInt64", "sync/atomic.StoreInt64", "sync/atomic.CompareAndSwapInt64", "sync/atomic.AddInt64"], unfollowed := true, recurses := true, leaving := true, apart := false }
def GateBeginsSaid : Prop := gateBeginsRow.holds Try.pinned (OpenSpec.ofChange gateBeginsSpec)

/-- ITS FALSE NEIGHBOUR: 'it returns false'. Refute it at one input. -/
def gateBeginsWrong : ChangeSpec := { name := "gateBegins", fn := fun _ => fun
  | [d1, d2] => { results := [.lit (.bool false)], args := [d1, d2] }
  | _ => none }
def GateBeginsWrongFalsely : Prop := gateBeginsRow.holds Try.pinned (OpenSpec.ofChange gateBeginsWrong)

/- THE SECOND FORM. 'bulk': how many values and letters a reading holds, each counted each time it is reached (what is shared counts as often as it is met; a slice's spare places count too). A statement '..UptoSaid' is the law's where the arguments, and the package variables that the reading takes, are together of bulk at most 1048576: NARROWER than '..Said'. Prove '..Said' where nothing that the law and all that it calls make is longer than what came in: it says more and counts as full. Else prove '..UptoSaid'. A law counts once. -/
mutual
def uptoBulk {H : Type} : DataW H → Nat
  | .lit (.string bytes) => bytes.length + 1
  | .lit _ => 1
  | .nil => 1
  | .ptr d => uptoBulk d + 1
  | .slice elems spare => uptoBulkAll elems + uptoBulkAll spare + 1
  | .agg parts => uptoBulkAll parts + 1
  | .iface _ d => uptoBulk d + 1
  | .map entries => uptoBulkEntries entries + 1
  | .held _ => 1
def uptoBulkAll {H : Type} : List (DataW H) → Nat
  | [] => 0
  | d :: r => uptoBulk d + uptoBulkAll r
def uptoBulkEntries {H : Type} : List (Lit × DataW H) → Nat
  | [] => 0
  | x :: r => uptoBulkEntry x + uptoBulkEntries r
def uptoBulkEntry {H : Type} : Lit × DataW H → Nat
  | (.string bytes, d) => bytes.length + uptoBulk d + 1
  | (_, d) => uptoBulk d + 1
 end
def uptoSmall : (H : Type) → List (DataW H) → Bool := fun _ ds => decide (uptoBulkAll ds ≤ 1048576)
def OpenSpec.upto (s : _root_.Go.ChangeSpec) : _root_.Go.OpenSpec := { _root_.Go.OpenSpec.ofChange s with cond := some uptoSmall }

/-- 'treadlelaw01.GateRounds', WHERE WHAT IT READS IS OF BULK AT MOST 1048576: true; the input reads as it did. -/
def gateRoundsUptoRow : OpenClaim := { program := "ythaddgfbohmfoaa", sum := "9fcc31f48ed4d6411e59fe53b89da5d5ba6cc93e4eab11711368008db75896d5", func := "treadle/treadlelaw01.GateRounds", spec := "gateRounds", inPlace := ["sync/atomic.LoadInt64", "sync/atomic.StoreInt64", "sync/atomic.CompareAndSwapInt64", "sync/atomic.AddInt64"], unfollowed := true, recurses := true, leaving := true, apart := false, narrowed := true }
def GateRoundsUptoSaid : Prop := gateRoundsUptoRow.holds Try.pinned (OpenSpec.upto gateRoundsSpec)

/-- 'treadlelaw01.GateRecords', WHERE WHAT IT READS IS OF BULK AT MOST 1048576: true; the input reads as it did. -/
def gateRecordsUptoRow : OpenClaim := { program := "ythaddgfbohmfoaa", sum := "9fcc31f48ed4d6411e59fe53b89da5d5ba6cc93e4eab11711368008db75896d5", func := "treadle/treadlelaw01.GateRecords", spec := "gateRecords", inPlace := ["sync/atomic.LoadInt64", "sync/atomic.StoreInt64", "sync/atomic.CompareAndSwapInt64", "sync/atomic.AddInt64"], unfollowed := true, recurses := true, leaving := true, apart := false, narrowed := true }
def GateRecordsUptoSaid : Prop := gateRecordsUptoRow.holds Try.pinned (OpenSpec.upto gateRecordsSpec)

/-- 'treadlelaw01.GateLeaves', WHERE WHAT IT READS IS OF BULK AT MOST 1048576: true; the input reads as it did. -/
def gateLeavesUptoRow : OpenClaim := { program := "ythaddgfbohmfoaa", sum := "9fcc31f48ed4d6411e59fe53b89da5d5ba6cc93e4eab11711368008db75896d5", func := "treadle/treadlelaw01.GateLeaves", spec := "gateLeaves", inPlace := ["sync/atomic.LoadInt64", "sync/atomic.StoreInt64", "sync/atomic.CompareAndSwapInt64", "sync/atomic.AddInt64"], unfollowed := true, recurses := true, leaving := true, apart := false, narrowed := true }
def GateLeavesUptoSaid : Prop := gateLeavesUptoRow.holds Try.pinned (OpenSpec.upto gateLeavesSpec)

/-- 'treadlelaw01.GateInner', WHERE WHAT IT READS IS OF BULK AT MOST 1048576: true; the input reads as it did. -/
def gateInnerUptoRow : OpenClaim := { program := "ythaddgfbohmfoaa", sum := "9fcc31f48ed4d6411e59fe53b89da5d5ba6cc93e4eab11711368008db75896d5", func := "treadle/treadlelaw01.GateInner", spec := "gateInner", inPlace := ["sync/atomic.LoadInt64", "sync/atomic.StoreInt64", "sync/atomic.CompareAndSwapInt64", "sync/atomic.AddInt64"], unfollowed := true, recurses := true, leaving := true, apart := false, narrowed := true }
def GateInnerUptoSaid : Prop := gateInnerUptoRow.holds Try.pinned (OpenSpec.upto gateInnerSpec)

/-- 'treadlelaw01.GateAgains', WHERE WHAT IT READS IS OF BULK AT MOST 1048576: true; the input reads as it did. -/
def gateAgainsUptoRow : OpenClaim := { program := "ythaddgfbohmfoaa", sum := "9fcc31f48ed4d6411e59fe53b89da5d5ba6cc93e4eab11711368008db75896d5", func := "treadle/treadlelaw01.GateAgains", spec := "gateAgains", inPlace := ["sync/atomic.LoadInt64", "sync/atomic.StoreInt64", "sync/atomic.CompareAndSwapInt64", "sync/atomic.AddInt64"], unfollowed := true, recurses := true, leaving := true, apart := false, narrowed := true }
def GateAgainsUptoSaid : Prop := gateAgainsUptoRow.holds Try.pinned (OpenSpec.upto gateAgainsSpec)

/-- 'treadlelaw01.GateBegins', WHERE WHAT IT READS IS OF BULK AT MOST 1048576: true; the input reads as it did. -/
def gateBeginsUptoRow : OpenClaim := { program := "ythaddgfbohmfoaa", sum := "9fcc31f48ed4d6411e59fe53b89da5d5ba6cc93e4eab11711368008db75896d5", func := "treadle/treadlelaw01.GateBegins", spec := "gateBegins", inPlace := ["sync/atomic.LoadInt64", "sync/atomic.StoreInt64", "sync/atomic.CompareAndSwapInt64", "sync/atomic.AddInt64"], unfollowed := true, recurses := true, leaving := true, apart := false, narrowed := true }
def GateBeginsUptoSaid : Prop := gateBeginsUptoRow.holds Try.pinned (OpenSpec.upto gateBeginsSpec)

end Rows
end Go.Proofs.Ythaddgfbohmfoaa
