/-
  DERIVED. GIVEN WITH THE SEED: THE CARDS: each row of YticfigfipbcmhaaGreatDoorRows.lean that lists a variable, with what it lists TIED to the program's text (the seventh form; the later family's looks); each row that meets fmt, with fmt's text TOLD by the authors' own Lean function (tested against real Go, not proved from fmt's source: count such statements apart). THE CARD IS WHAT COUNTS. Prove the row's statement (the work); the ties are given (YticfigfipbcmhaaGreatDoorTie.lean); close each card by the builder's one call (the guide's Derived/Test/ToyasCard.lean, 'card_holds'). Laid BY PROGRAM, IN A SANDBOX (cutbox-door.mjs). By AI agents, Wed Nov 11 2026. No macro, syntax, notation, axiom, sorry.
-/
import Derived.Test.YticfigfipbcmhaaGreatDoorRows
import GoSem.ClaimSeven
namespace Go.Proofs.YticfigfipbcmhaaGreatDoor
namespace Rows

/-- THE TIED CARD OF 'glossatorkeep3.WordindexCrash'. -/
def wordindexCrashCard : Claim7 := { stood := { row := wordindexCrashRow, standIns := [], harness := (true, "7c3b0e835d16f9f763f96e5996970df0b0567467c0f0779526ffc50c91dba1ee"), looks := false }, kinds := [], alts := [], laidByText := true, laidKinds := [.data, .pinned], laidTests := true, laidLooks := .later }
def WordindexCrashCardSaid : Prop := Claim7.holds Tryz.pinned (.plain (OpenSpec.ofChange wordindexCrashSpec)) wordindexCrashCard

/-- THE SECOND FORM's CARD OF 'glossatorkeep3.WordindexCrash'. -/
def wordindexCrashUptoCard : Claim7 := { stood := { row := wordindexCrashUptoRow, standIns := [], harness := (true, "7c3b0e835d16f9f763f96e5996970df0b0567467c0f0779526ffc50c91dba1ee"), looks := false }, kinds := [], alts := [], laidByText := true, laidKinds := [.data, .pinned], laidTests := true, laidLooks := .later }
def WordindexCrashUptoCardSaid : Prop := Claim7.holds Tryz.pinned (.plain (OpenSpec.upto wordindexCrashSpec)) wordindexCrashUptoCard
end Rows
end Go.Proofs.YticfigfipbcmhaaGreatDoor
