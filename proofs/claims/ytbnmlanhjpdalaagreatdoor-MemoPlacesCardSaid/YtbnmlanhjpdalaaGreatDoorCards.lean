/-
  DERIVED. GIVEN WITH THE SEED: THE CARDS: each row of YtbnmlanhjpdalaaGreatDoorRows.lean that lists a variable, with what it lists TIED to the program's text (the seventh form; the later family's looks); each row that meets fmt, with fmt's text TOLD by the authors' own Lean function (tested against real Go, not proved from fmt's source: count such statements apart). THE CARD IS WHAT COUNTS. Prove the row's statement (the work); the ties are given (YtbnmlanhjpdalaaGreatDoorTie.lean); close each card by the builder's one call (the guide's Derived/Test/ToyasCard.lean, 'card_holds'). Laid BY PROGRAM, IN A SANDBOX (cutbox-door.mjs). By AI agents, Wed Nov 11 2026. No macro, syntax, notation, axiom, sorry.
-/
import Derived.Test.YtbnmlanhjpdalaaGreatDoorRows
import GoSem.ClaimSeven
namespace Go.Proofs.YtbnmlanhjpdalaaGreatDoor
namespace Rows

/-- THE TIED CARD OF 'treadlelaw15.MemoPlaces'. -/
def memoPlacesCard : Claim7 := { stood := { row := memoPlacesRow, standIns := [], harness := (true, "826222594d70902f22a5564bcb945b8723e7a7a833854abfae8a12ed11f66c0a"), looks := true }, kinds := [], alts := [], goes := true, laidByText := true, laidKinds := [.data, .data, .handle], laidTests := true, laidLooks := .later }
def MemoPlacesCardSaid : Prop := Claim7.holds Tryz.pinned (.plain (OpenSpec.ofChange memoPlacesSpec)) memoPlacesCard

/-- THE TIED CARD OF 'treadlelaw19.ScopeNone'. -/
def scopeNoneCard : Claim7 := { stood := { row := scopeNoneRow, standIns := [], harness := (true, "826222594d70902f22a5564bcb945b8723e7a7a833854abfae8a12ed11f66c0a"), looks := true }, kinds := [], alts := [], goes := true, laidByText := true, laidKinds := [.handle], laidTests := true, laidLooks := .later }
def ScopeNoneCardSaid : Prop := Claim7.holds Tryz.pinned (.plain (OpenSpec.ofChange scopeNoneSpec)) scopeNoneCard
end Rows
end Go.Proofs.YtbnmlanhjpdalaaGreatDoor
