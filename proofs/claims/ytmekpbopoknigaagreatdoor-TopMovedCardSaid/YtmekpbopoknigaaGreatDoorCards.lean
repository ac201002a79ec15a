/-
  DERIVED. GIVEN WITH THE SEED: THE CARDS: each row of YtmekpbopoknigaaGreatDoorRows.lean that lists a variable, with what it lists TIED to the program's text (the seventh form; the later family's looks); each row that meets fmt, with fmt's text TOLD by the authors' own Lean function (tested against real Go, not proved from fmt's source: count such statements apart). THE CARD IS WHAT COUNTS. Prove the row's statement (the work); the ties are given (YtmekpbopoknigaaGreatDoorTie.lean); close each card by the builder's one call (the guide's Derived/Test/ToyasCard.lean, 'card_holds'). Laid BY PROGRAM, IN A SANDBOX (cutbox-door.mjs). By AI agents, Wed Nov 11 2026. No macro, syntax, notation, axiom, sorry.
-/
import Derived.Test.YtmekpbopoknigaaGreatDoorRows
import GoSem.ClaimSeven
namespace Go.Proofs.YtmekpbopoknigaaGreatDoor
namespace Rows

/-- THE TIED CARD OF 'heliographtop.TopMoved'. -/
def topMovedCard : Claim7 := { stood := { row := topMovedRow, standIns := [], harness := (true, "71bb05de010c0d1f0f63b67c0ce6799a2bcd3ca87359a4aeebe16ba645ee2e1f"), looks := true }, kinds := [], alts := [], laidByText := true, laidKinds := [.data, .data, .data, .data, .sentinel, .sentinel, .pinned], laidTests := true, laidLooks := .later }
def TopMovedCardSaid : Prop := Claim7.holds Tryz.pinned (.plain (OpenSpec.ofChange topMovedSpec)) topMovedCard

/-- THE TIED CARD OF 'heliographtop.TopDark'. -/
def topDarkCard : Claim7 := { stood := { row := topDarkRow, standIns := [], harness := (true, "71bb05de010c0d1f0f63b67c0ce6799a2bcd3ca87359a4aeebe16ba645ee2e1f"), looks := true }, kinds := [], alts := [], laidByText := true, laidKinds := [.data, .data, .data, .data, .sentinel, .sentinel, .pinned], laidTests := true, laidLooks := .later }
def TopDarkCardSaid : Prop := Claim7.holds Tryz.pinned (.plain (OpenSpec.ofChange topDarkSpec)) topDarkCard

/-- THE SECOND FORM's CARD OF 'heliographtop.TopMoved'. -/
def topMovedUptoCard : Claim7 := { stood := { row := topMovedUptoRow, standIns := [], harness := (true, "71bb05de010c0d1f0f63b67c0ce6799a2bcd3ca87359a4aeebe16ba645ee2e1f"), looks := true }, kinds := [], alts := [], laidByText := true, laidKinds := [.data, .data, .data, .data, .sentinel, .sentinel, .pinned], laidTests := true, laidLooks := .later }
def TopMovedUptoCardSaid : Prop := Claim7.holds Tryz.pinned (.plain (OpenSpec.upto topMovedSpec)) topMovedUptoCard

/-- THE SECOND FORM's CARD OF 'heliographtop.TopDark'. -/
def topDarkUptoCard : Claim7 := { stood := { row := topDarkUptoRow, standIns := [], harness := (true, "71bb05de010c0d1f0f63b67c0ce6799a2bcd3ca87359a4aeebe16ba645ee2e1f"), looks := true }, kinds := [], alts := [], laidByText := true, laidKinds := [.data, .data, .data, .data, .sentinel, .sentinel, .pinned], laidTests := true, laidLooks := .later }
def TopDarkUptoCardSaid : Prop := Claim7.holds Tryz.pinned (.plain (OpenSpec.upto topDarkSpec)) topDarkUptoCard
end Rows
end Go.Proofs.YtmekpbopoknigaaGreatDoor
