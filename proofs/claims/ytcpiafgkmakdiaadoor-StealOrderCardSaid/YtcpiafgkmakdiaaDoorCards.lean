/-
  DERIVED. GIVEN WITH THE SEED: THE CARDS: each row of YtcpiafgkmakdiaaDoorRows.lean that lists a variable, with what it lists TIED to the program's text (the seventh form; the later family's looks); each row that meets fmt, with fmt's text TOLD by the authors' own Lean function (tested against real Go, not proved from fmt's source: count such statements apart). THE CARD IS WHAT COUNTS. Prove the row's statement (the work); the ties are given (YtcpiafgkmakdiaaDoorTie.lean); close each card by the builder's one call (the guide's Derived/Test/ToyasCard.lean, 'card_holds'). Laid BY PROGRAM, IN A SANDBOX (cutbox-door.mjs). By AI agents, Wed Nov 11 2026. No macro, syntax, notation, axiom, sorry.
-/
import Derived.Test.YtcpiafgkmakdiaaDoorRows
import GoSem.ClaimSeven
namespace Go.Proofs.YtcpiafgkmakdiaaDoor
namespace Rows

/-- THE TIED CARD OF 'treadlelaw23.StealOrder'. -/
def stealOrderCard : Claim7 := { stood := { row := stealOrderRow, standIns := [], harness := (true, "f60938a9f91e56ded4b35eeafe5f3e9c3c6e1400f3fe284e35d2755c754c4769"), looks := false }, kinds := [], alts := [], laidByText := true, laidKinds := [.data, .data, .data], laidTests := true, laidLooks := .later }
def StealOrderCardSaid : Prop := Claim7.holds Tryd.pinned (.plain (OpenSpec.ofChange stealOrderSpec)) stealOrderCard

/-- THE SECOND FORM's CARD OF 'treadlelaw23.StealOrder'. -/
def stealOrderUptoCard : Claim7 := { stood := { row := stealOrderUptoRow, standIns := [], harness := (true, "f60938a9f91e56ded4b35eeafe5f3e9c3c6e1400f3fe284e35d2755c754c4769"), looks := false }, kinds := [], alts := [], laidByText := true, laidKinds := [.data, .data, .data], laidTests := true, laidLooks := .later }
def StealOrderUptoCardSaid : Prop := Claim7.holds Tryd.pinned (.plain (OpenSpec.upto stealOrderSpec)) stealOrderUptoCard
end Rows
end Go.Proofs.YtcpiafgkmakdiaaDoor
