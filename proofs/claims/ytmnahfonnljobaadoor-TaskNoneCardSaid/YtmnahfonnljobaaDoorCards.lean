/-
  DERIVED. GIVEN WITH THE SEED: THE CARDS: each row of YtmnahfonnljobaaDoorRows.lean that lists a variable, with what it lists TIED to the program's text (the seventh form; the later family's looks); each row that meets fmt, with fmt's text TOLD by the authors' own Lean function (tested against real Go, not proved from fmt's source: count such statements apart). THE CARD IS WHAT COUNTS. Prove the row's statement (the work); the ties are given (YtmnahfonnljobaaDoorTie.lean); close each card by the builder's one call (the guide's Derived/Test/ToyasCard.lean, 'card_holds'). Laid BY PROGRAM, IN A SANDBOX (cutbox-door.mjs). By AI agents, Wed Nov 11 2026. No macro, syntax, notation, axiom, sorry.
-/
import Derived.Test.YtmnahfonnljobaaDoorRows
import GoSem.ClaimSeven
namespace Go.Proofs.YtmnahfonnljobaaDoor
namespace Rows

/-- THE TIED CARD OF 'treadlelaw13.TaskNone'. -/
def taskNoneCard : Claim7 := { stood := { row := taskNoneRow, standIns := [], harness := (true, "2c9b560654e0b73da869e0634945b2345381d85fc5670e0f237763ccc59d3e7e"), looks := true }, kinds := [], alts := [], laidByText := true, laidKinds := [.handle], laidTests := true, laidLooks := .later }
def TaskNoneCardSaid : Prop := Claim7.holds Tryd.pinned (.plain (OpenSpec.ofChange taskNoneSpec)) taskNoneCard

/-- THE TIED CARD OF 'treadlelaw14.FutureNone'. -/
def futureNoneCard : Claim7 := { stood := { row := futureNoneRow, standIns := [], harness := (true, "2c9b560654e0b73da869e0634945b2345381d85fc5670e0f237763ccc59d3e7e"), looks := true }, kinds := [], alts := [], laidByText := true, laidKinds := [.handle], laidTests := true, laidLooks := .later }
def FutureNoneCardSaid : Prop := Claim7.holds Tryd.pinned (.plain (OpenSpec.ofChange futureNoneSpec)) futureNoneCard

/-- THE SECOND FORM's CARD OF 'treadlelaw13.TaskNone'. -/
def taskNoneUptoCard : Claim7 := { stood := { row := taskNoneUptoRow, standIns := [], harness := (true, "2c9b560654e0b73da869e0634945b2345381d85fc5670e0f237763ccc59d3e7e"), looks := true }, kinds := [], alts := [], laidByText := true, laidKinds := [.handle], laidTests := true, laidLooks := .later }
def TaskNoneUptoCardSaid : Prop := Claim7.holds Tryd.pinned (.plain (OpenSpec.upto taskNoneSpec)) taskNoneUptoCard

/-- THE SECOND FORM's CARD OF 'treadlelaw14.FutureNone'. -/
def futureNoneUptoCard : Claim7 := { stood := { row := futureNoneUptoRow, standIns := [], harness := (true, "2c9b560654e0b73da869e0634945b2345381d85fc5670e0f237763ccc59d3e7e"), looks := true }, kinds := [], alts := [], laidByText := true, laidKinds := [.handle], laidTests := true, laidLooks := .later }
def FutureNoneUptoCardSaid : Prop := Claim7.holds Tryd.pinned (.plain (OpenSpec.upto futureNoneSpec)) futureNoneUptoCard
end Rows
end Go.Proofs.YtmnahfonnljobaaDoor
