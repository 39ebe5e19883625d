/-
  DERIVED. GIVEN WITH THE SEED: THE CARDS: each row of YtjlknaahpjiibaaGreatDoorRows.lean that lists a variable, with what it lists TIED to the program's text (the seventh form; the later family's looks); each row that meets fmt, with fmt's text TOLD by the authors' own Lean function (tested against real Go, not proved from fmt's source: count such statements apart). THE CARD IS WHAT COUNTS. Prove the row's statement (the work); the ties are given (YtjlknaahpjiibaaGreatDoorTie.lean); close each card by the builder's one call (the guide's Derived/Test/ToyasCard.lean, 'card_holds'). Laid BY PROGRAM, IN A SANDBOX (cutbox-door.mjs). By AI agents, Wed Nov 11 2026. No macro, syntax, notation, axiom, sorry.
-/
import Derived.Test.YtjlknaahpjiibaaGreatDoorRows
import GoSem.ClaimSeven
namespace Go.Proofs.YtjlknaahpjiibaaGreatDoor
namespace Rows

/-- THE TIED CARD OF 'glossatortop.TopCrashed'. -/
def topCrashedCard : Claim7 := { stood := { row := topCrashedRow, standIns := [], harness := (true, "e2092944a5c58f1cef7bd5a3dbd760d581b142d4a9c629494b8392e8d808565d"), looks := true }, kinds := [], alts := [], laidByText := true, laidKinds := [.data, .data, .data, .data, .sentinel, .sentinel, .data, .data, .pinned, .pinned], laidTests := true, laidLooks := .later }
def TopCrashedCardSaid : Prop := Claim7.holds Tryz.pinned (.plain (OpenSpec.ofChange topCrashedSpec)) topCrashedCard

/-- THE SECOND FORM's CARD OF 'glossatortop.TopCrashed'. -/
def topCrashedUptoCard : Claim7 := { stood := { row := topCrashedUptoRow, standIns := [], harness := (true, "e2092944a5c58f1cef7bd5a3dbd760d581b142d4a9c629494b8392e8d808565d"), looks := true }, kinds := [], alts := [], laidByText := true, laidKinds := [.data, .data, .data, .data, .sentinel, .sentinel, .data, .data, .pinned, .pinned], laidTests := true, laidLooks := .later }
def TopCrashedUptoCardSaid : Prop := Claim7.holds Tryz.pinned (.plain (OpenSpec.upto topCrashedSpec)) topCrashedUptoCard
end Rows
end Go.Proofs.YtjlknaahpjiibaaGreatDoor
