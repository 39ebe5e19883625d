/-
  DERIVED. GIVEN WITH THE SEED: THE CARDS: each row of YtiklgipcgdgkoaaDoorRows.lean that lists a variable, with what it lists TIED to the program's text (the seventh form; the later family's looks); each row that meets fmt, with fmt's text TOLD by the authors' own Lean function (tested against real Go, not proved from fmt's source: count such statements apart). THE CARD IS WHAT COUNTS. Prove the row's statement (the work); the ties are given (YtiklgipcgdgkoaaDoorTie.lean); close each card by the builder's one call (the guide's Derived/Test/ToyasCard.lean, 'card_holds'). Laid BY PROGRAM, IN A SANDBOX (cutbox-door.mjs). By AI agents, Wed Nov 11 2026. No macro, syntax, notation, axiom, sorry.
-/
import Derived.Test.YtiklgipcgdgkoaaDoorRows
import GoSem.ClaimSeven
namespace Go.Proofs.YtiklgipcgdgkoaaDoor
namespace Rows

/-- THE TIED CARD OF 'glossatorkeep3.JsonrpcRoundTrip'. -/
def jsonrpcRoundTripCard : Claim7 := { stood := { row := jsonrpcRoundTripRow, standIns := [], harness := (true, "cf2c77ae6778ac86ff26b5fb99f6dbe4fd994be04a49df32727f3a4b7b6c3dd6"), looks := false }, kinds := [], alts := [], laidByText := true, laidKinds := [.data, .data, .data, .data, .pinned], laidTests := true, laidLooks := .later }
def JsonrpcRoundTripCardSaid : Prop := Claim7.holds Tryd.pinned (.plain (OpenSpec.ofChange jsonrpcRoundTripSpec)) jsonrpcRoundTripCard

/-- THE TIED CARD OF 'glossatorkeep3.JsonrpcDecodeEncode'. -/
def jsonrpcDecodeEncodeCard : Claim7 := { stood := { row := jsonrpcDecodeEncodeRow, standIns := [], harness := (true, "cf2c77ae6778ac86ff26b5fb99f6dbe4fd994be04a49df32727f3a4b7b6c3dd6"), looks := false }, kinds := [], alts := [], laidByText := true, laidKinds := [.data, .data, .data, .data, .pinned], laidTests := true, laidLooks := .later }
def JsonrpcDecodeEncodeCardSaid : Prop := Claim7.holds Tryd.pinned (.plain (OpenSpec.ofChange jsonrpcDecodeEncodeSpec)) jsonrpcDecodeEncodeCard

/-- THE TIED CARD OF 'glossatorkeep3.JsonrpcExactlyOnce'. -/
def jsonrpcExactlyOnceCard : Claim7 := { stood := { row := jsonrpcExactlyOnceRow, standIns := [], harness := (true, "cf2c77ae6778ac86ff26b5fb99f6dbe4fd994be04a49df32727f3a4b7b6c3dd6"), looks := false }, kinds := [], alts := [], laidByText := true, laidKinds := [.data, .data, .data, .data, .pinned], laidTests := true, laidLooks := .later }
def JsonrpcExactlyOnceCardSaid : Prop := Claim7.holds Tryd.pinned (.plain (OpenSpec.ofChange jsonrpcExactlyOnceSpec)) jsonrpcExactlyOnceCard

/-- THE TIED CARD OF 'glossatorkeep3.JsonrpcConversation'. -/
def jsonrpcConversationCard : Claim7 := { stood := { row := jsonrpcConversationRow, standIns := [], harness := (true, "cf2c77ae6778ac86ff26b5fb99f6dbe4fd994be04a49df32727f3a4b7b6c3dd6"), looks := false }, kinds := [], alts := [], laidByText := true, laidKinds := [.data, .data, .data, .data, .pinned], laidTests := true, laidLooks := .later }
def JsonrpcConversationCardSaid : Prop := Claim7.holds Tryd.pinned (.plain (OpenSpec.ofChange jsonrpcConversationSpec)) jsonrpcConversationCard

/-- THE SECOND FORM's CARD OF 'glossatorkeep3.JsonrpcRoundTrip'. -/
def jsonrpcRoundTripUptoCard : Claim7 := { stood := { row := jsonrpcRoundTripUptoRow, standIns := [], harness := (true, "cf2c77ae6778ac86ff26b5fb99f6dbe4fd994be04a49df32727f3a4b7b6c3dd6"), looks := false }, kinds := [], alts := [], laidByText := true, laidKinds := [.data, .data, .data, .data, .pinned], laidTests := true, laidLooks := .later }
def JsonrpcRoundTripUptoCardSaid : Prop := Claim7.holds Tryd.pinned (.plain (OpenSpec.upto jsonrpcRoundTripSpec)) jsonrpcRoundTripUptoCard

/-- THE SECOND FORM's CARD OF 'glossatorkeep3.JsonrpcDecodeEncode'. -/
def jsonrpcDecodeEncodeUptoCard : Claim7 := { stood := { row := jsonrpcDecodeEncodeUptoRow, standIns := [], harness := (true, "cf2c77ae6778ac86ff26b5fb99f6dbe4fd994be04a49df32727f3a4b7b6c3dd6"), looks := false }, kinds := [], alts := [], laidByText := true, laidKinds := [.data, .data, .data, .data, .pinned], laidTests := true, laidLooks := .later }
def JsonrpcDecodeEncodeUptoCardSaid : Prop := Claim7.holds Tryd.pinned (.plain (OpenSpec.upto jsonrpcDecodeEncodeSpec)) jsonrpcDecodeEncodeUptoCard

/-- THE SECOND FORM's CARD OF 'glossatorkeep3.JsonrpcExactlyOnce'. -/
def jsonrpcExactlyOnceUptoCard : Claim7 := { stood := { row := jsonrpcExactlyOnceUptoRow, standIns := [], harness := (true, "cf2c77ae6778ac86ff26b5fb99f6dbe4fd994be04a49df32727f3a4b7b6c3dd6"), looks := false }, kinds := [], alts := [], laidByText := true, laidKinds := [.data, .data, .data, .data, .pinned], laidTests := true, laidLooks := .later }
def JsonrpcExactlyOnceUptoCardSaid : Prop := Claim7.holds Tryd.pinned (.plain (OpenSpec.upto jsonrpcExactlyOnceSpec)) jsonrpcExactlyOnceUptoCard

/-- THE SECOND FORM's CARD OF 'glossatorkeep3.JsonrpcConversation'. -/
def jsonrpcConversationUptoCard : Claim7 := { stood := { row := jsonrpcConversationUptoRow, standIns := [], harness := (true, "cf2c77ae6778ac86ff26b5fb99f6dbe4fd994be04a49df32727f3a4b7b6c3dd6"), looks := false }, kinds := [], alts := [], laidByText := true, laidKinds := [.data, .data, .data, .data, .pinned], laidTests := true, laidLooks := .later }
def JsonrpcConversationUptoCardSaid : Prop := Claim7.holds Tryd.pinned (.plain (OpenSpec.upto jsonrpcConversationSpec)) jsonrpcConversationUptoCard
end Rows
end Go.Proofs.YtiklgipcgdgkoaaDoor
