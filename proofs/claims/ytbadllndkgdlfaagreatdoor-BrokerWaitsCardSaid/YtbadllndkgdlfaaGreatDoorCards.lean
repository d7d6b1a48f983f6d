/-
  DERIVED. GIVEN WITH THE SEED: THE CARDS: each row of YtbadllndkgdlfaaGreatDoorRows.lean that lists a variable, with what it lists TIED to the program's text (the seventh form; the later family's looks); each row that meets fmt, with fmt's text TOLD by the authors' own Lean function (tested against real Go, not proved from fmt's source: count such statements apart). THE CARD IS WHAT COUNTS. Prove the row's statement (the work); the ties are given (YtbadllndkgdlfaaGreatDoorTie.lean); close each card by the builder's one call (the guide's Derived/Test/ToyasCard.lean, 'card_holds'). Laid BY PROGRAM, IN A SANDBOX (cutbox-door.mjs). By AI agents, Wed Nov 11 2026. No macro, syntax, notation, axiom, sorry.
-/
import Derived.Test.YtbadllndkgdlfaaGreatDoorRows
import GoSem.ClaimSeven
namespace Go.Proofs.YtbadllndkgdlfaaGreatDoor
namespace Rows

/-- THE TIED CARD OF 'kiosklaw24.BrokerTwice'. -/
def brokerTwiceCard : Claim7 := { stood := { row := brokerTwiceRow, standIns := [], harness := (true, "a124a7ab019b6b882a4885cf3dcd13a2f729c4ba2b27486e1e21e2015189c6dc"), looks := false }, kinds := [], alts := [], laidByText := true, laidKinds := [.data, .data, .data, .data, .pinned], laidTests := true, laidLooks := .later }
def BrokerTwiceCardSaid : Prop := Claim7.holds Tryz.pinned (.plain (OpenSpec.ofChange brokerTwiceSpec)) brokerTwiceCard

/-- THE TIED CARD OF 'kiosklaw24.BrokerWaits'. -/
def brokerWaitsCard : Claim7 := { stood := { row := brokerWaitsRow, standIns := [], harness := (true, "a124a7ab019b6b882a4885cf3dcd13a2f729c4ba2b27486e1e21e2015189c6dc"), looks := false }, kinds := [], alts := [], laidByText := true, laidKinds := [.data, .data, .data, .data, .pinned], laidTests := true, laidLooks := .later }
def BrokerWaitsCardSaid : Prop := Claim7.holds Tryz.pinned (.plain (OpenSpec.ofChange brokerWaitsSpec)) brokerWaitsCard

/-- THE TIED CARD OF 'kiosklaw24.BrokerWills'. -/
def brokerWillsCard : Claim7 := { stood := { row := brokerWillsRow, standIns := [], harness := (true, "a124a7ab019b6b882a4885cf3dcd13a2f729c4ba2b27486e1e21e2015189c6dc"), looks := false }, kinds := [], alts := [], laidByText := true, laidKinds := [.data, .data, .data, .data, .pinned], laidTests := true, laidLooks := .later }
def BrokerWillsCardSaid : Prop := Claim7.holds Tryz.pinned (.plain (OpenSpec.ofChange brokerWillsSpec)) brokerWillsCard

/-- THE SECOND FORM's CARD OF 'kiosklaw24.BrokerTwice'. -/
def brokerTwiceUptoCard : Claim7 := { stood := { row := brokerTwiceUptoRow, standIns := [], harness := (true, "a124a7ab019b6b882a4885cf3dcd13a2f729c4ba2b27486e1e21e2015189c6dc"), looks := false }, kinds := [], alts := [], laidByText := true, laidKinds := [.data, .data, .data, .data, .pinned], laidTests := true, laidLooks := .later }
def BrokerTwiceUptoCardSaid : Prop := Claim7.holds Tryz.pinned (.plain (OpenSpec.upto brokerTwiceSpec)) brokerTwiceUptoCard

/-- THE SECOND FORM's CARD OF 'kiosklaw24.BrokerWaits'. -/
def brokerWaitsUptoCard : Claim7 := { stood := { row := brokerWaitsUptoRow, standIns := [], harness := (true, "a124a7ab019b6b882a4885cf3dcd13a2f729c4ba2b27486e1e21e2015189c6dc"), looks := false }, kinds := [], alts := [], laidByText := true, laidKinds := [.data, .data, .data, .data, .pinned], laidTests := true, laidLooks := .later }
def BrokerWaitsUptoCardSaid : Prop := Claim7.holds Tryz.pinned (.plain (OpenSpec.upto brokerWaitsSpec)) brokerWaitsUptoCard

/-- THE SECOND FORM's CARD OF 'kiosklaw24.BrokerWills'. -/
def brokerWillsUptoCard : Claim7 := { stood := { row := brokerWillsUptoRow, standIns := [], harness := (true, "a124a7ab019b6b882a4885cf3dcd13a2f729c4ba2b27486e1e21e2015189c6dc"), looks := false }, kinds := [], alts := [], laidByText := true, laidKinds := [.data, .data, .data, .data, .pinned], laidTests := true, laidLooks := .later }
def BrokerWillsUptoCardSaid : Prop := Claim7.holds Tryz.pinned (.plain (OpenSpec.upto brokerWillsSpec)) brokerWillsUptoCard
end Rows
end Go.Proofs.YtbadllndkgdlfaaGreatDoor
