/-
  DERIVED. GIVEN WITH THE SEED: THE CARDS: each row of YtmnahfonnljobaaGreatDoorRows.lean that lists a variable, with what it lists TIED to the program's text (the seventh form; the later family's looks); each row that meets fmt, with fmt's text TOLD by the authors' own Lean function (tested against real Go, not proved from fmt's source: count such statements apart). THE CARD IS WHAT COUNTS. Prove the row's statement (the work); the ties are given (YtmnahfonnljobaaGreatDoorTie.lean); close each card by the builder's one call (the guide's Derived/Test/ToyasCard.lean, 'card_holds'). Laid BY PROGRAM, IN A SANDBOX (cutbox-door.mjs). By AI agents, Wed Nov 11 2026. No macro, syntax, notation, axiom, sorry.
-/
import Derived.Test.YtmnahfonnljobaaGreatDoorRows
import GoSem.ClaimSeven
namespace Go.Proofs.YtmnahfonnljobaaGreatDoor
namespace Rows

/-- THE TIED CARD OF 'treadlelaw15.MemoPlaces'. -/
def memoPlacesCard : Claim7 := { stood := { row := memoPlacesRow, standIns := [], harness := (true, "ed99dcdec33e5e7f9100f48e5bbd5d8f43d757ae0ac036b1d25712d63c841dae"), looks := true }, kinds := [], alts := [], laidByText := true, laidKinds := [.data, .data, .handle], laidTests := true, laidLooks := .later }
def MemoPlacesCardSaid : Prop := Claim7.holds Tryz.pinned (.plain (OpenSpec.ofChange memoPlacesSpec)) memoPlacesCard

/-- THE TIED CARD OF 'treadlelaw16.JoinNone'. -/
def joinNoneCard : Claim7 := { stood := { row := joinNoneRow, standIns := [], harness := (true, "ed99dcdec33e5e7f9100f48e5bbd5d8f43d757ae0ac036b1d25712d63c841dae"), looks := true }, kinds := [], alts := [], laidByText := true, laidKinds := [.handle], laidTests := true, laidLooks := .later }
def JoinNoneCardSaid : Prop := Claim7.holds Tryz.pinned (.plain (OpenSpec.ofChange joinNoneSpec)) joinNoneCard

/-- THE TIED CARD OF 'treadlelaw17.LimitNone'. -/
def limitNoneCard : Claim7 := { stood := { row := limitNoneRow, standIns := [], harness := (true, "ed99dcdec33e5e7f9100f48e5bbd5d8f43d757ae0ac036b1d25712d63c841dae"), looks := true }, kinds := [], alts := [], laidByText := true, laidKinds := [.handle], laidTests := true, laidLooks := .later }
def LimitNoneCardSaid : Prop := Claim7.holds Tryz.pinned (.plain (OpenSpec.ofChange limitNoneSpec)) limitNoneCard

/-- THE TIED CARD OF 'treadlelaw17.LimitOrder'. -/
def limitOrderCard : Claim7 := { stood := { row := limitOrderRow, standIns := [], harness := (true, "ed99dcdec33e5e7f9100f48e5bbd5d8f43d757ae0ac036b1d25712d63c841dae"), looks := true }, kinds := [], alts := [], laidByText := true, laidKinds := [.handle], laidTests := true, laidLooks := .later }
def LimitOrderCardSaid : Prop := Claim7.holds Tryz.pinned (.plain (OpenSpec.ofChange limitOrderSpec)) limitOrderCard

/-- THE SECOND FORM's CARD OF 'treadlelaw15.MemoPlaces'. -/
def memoPlacesUptoCard : Claim7 := { stood := { row := memoPlacesUptoRow, standIns := [], harness := (true, "ed99dcdec33e5e7f9100f48e5bbd5d8f43d757ae0ac036b1d25712d63c841dae"), looks := true }, kinds := [], alts := [], laidByText := true, laidKinds := [.data, .data, .handle], laidTests := true, laidLooks := .later }
def MemoPlacesUptoCardSaid : Prop := Claim7.holds Tryz.pinned (.plain (OpenSpec.upto memoPlacesSpec)) memoPlacesUptoCard

/-- THE SECOND FORM's CARD OF 'treadlelaw16.JoinNone'. -/
def joinNoneUptoCard : Claim7 := { stood := { row := joinNoneUptoRow, standIns := [], harness := (true, "ed99dcdec33e5e7f9100f48e5bbd5d8f43d757ae0ac036b1d25712d63c841dae"), looks := true }, kinds := [], alts := [], laidByText := true, laidKinds := [.handle], laidTests := true, laidLooks := .later }
def JoinNoneUptoCardSaid : Prop := Claim7.holds Tryz.pinned (.plain (OpenSpec.upto joinNoneSpec)) joinNoneUptoCard

/-- THE SECOND FORM's CARD OF 'treadlelaw17.LimitNone'. -/
def limitNoneUptoCard : Claim7 := { stood := { row := limitNoneUptoRow, standIns := [], harness := (true, "ed99dcdec33e5e7f9100f48e5bbd5d8f43d757ae0ac036b1d25712d63c841dae"), looks := true }, kinds := [], alts := [], laidByText := true, laidKinds := [.handle], laidTests := true, laidLooks := .later }
def LimitNoneUptoCardSaid : Prop := Claim7.holds Tryz.pinned (.plain (OpenSpec.upto limitNoneSpec)) limitNoneUptoCard

/-- THE SECOND FORM's CARD OF 'treadlelaw17.LimitOrder'. -/
def limitOrderUptoCard : Claim7 := { stood := { row := limitOrderUptoRow, standIns := [], harness := (true, "ed99dcdec33e5e7f9100f48e5bbd5d8f43d757ae0ac036b1d25712d63c841dae"), looks := true }, kinds := [], alts := [], laidByText := true, laidKinds := [.handle], laidTests := true, laidLooks := .later }
def LimitOrderUptoCardSaid : Prop := Claim7.holds Tryz.pinned (.plain (OpenSpec.upto limitOrderSpec)) limitOrderUptoCard
end Rows
end Go.Proofs.YtmnahfonnljobaaGreatDoor
