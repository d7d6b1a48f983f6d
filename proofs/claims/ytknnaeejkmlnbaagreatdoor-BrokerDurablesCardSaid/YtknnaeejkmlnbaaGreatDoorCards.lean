/-
  DERIVED. GIVEN WITH THE SEED: THE CARDS: each row of YtknnaeejkmlnbaaGreatDoorRows.lean that lists a variable, with what it lists TIED to the program's text (the seventh form; the later family's looks); each row that meets fmt, with fmt's text TOLD by the authors' own Lean function (tested against real Go, not proved from fmt's source: count such statements apart). THE CARD IS WHAT COUNTS. Prove the row's statement (the work); the ties are given (YtknnaeejkmlnbaaGreatDoorTie.lean); close each card by the builder's one call (the guide's Derived/Test/ToyasCard.lean, 'card_holds'). Laid BY PROGRAM, IN A SANDBOX (cutbox-door.mjs). By AI agents, Wed Nov 11 2026. No macro, syntax, notation, axiom, sorry.
-/
import Derived.Test.YtknnaeejkmlnbaaGreatDoorRows
import GoSem.ClaimSeven
namespace Go.Proofs.YtknnaeejkmlnbaaGreatDoor
namespace Rows

/-- THE TIED CARD OF 'kiosklaw24.BrokerDurables'. -/
def brokerDurablesCard : Claim7 := { stood := { row := brokerDurablesRow, standIns := [], harness := (true, "f40cfeb1c64d64c4b19ce456ebf3c4e1978f8e6d31bf5eea5f671f1b3ccb1bd5"), looks := false }, kinds := [], alts := [], laidByText := true, laidKinds := [.data, .data, .data, .data, .pinned], laidTests := true, laidLooks := .later }
def BrokerDurablesCardSaid : Prop := Claim7.holds Tryz.pinned (.plain (OpenSpec.ofChange brokerDurablesSpec)) brokerDurablesCard

/-- THE SECOND FORM's CARD OF 'kiosklaw24.BrokerDurables'. -/
def brokerDurablesUptoCard : Claim7 := { stood := { row := brokerDurablesUptoRow, standIns := [], harness := (true, "f40cfeb1c64d64c4b19ce456ebf3c4e1978f8e6d31bf5eea5f671f1b3ccb1bd5"), looks := false }, kinds := [], alts := [], laidByText := true, laidKinds := [.data, .data, .data, .data, .pinned], laidTests := true, laidLooks := .later }
def BrokerDurablesUptoCardSaid : Prop := Claim7.holds Tryz.pinned (.plain (OpenSpec.upto brokerDurablesSpec)) brokerDurablesUptoCard
end Rows
end Go.Proofs.YtknnaeejkmlnbaaGreatDoor
