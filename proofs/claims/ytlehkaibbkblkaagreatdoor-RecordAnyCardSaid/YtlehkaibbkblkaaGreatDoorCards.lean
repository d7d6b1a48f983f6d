/-
  DERIVED. GIVEN WITH THE SEED: THE CARDS: each row of YtlehkaibbkblkaaGreatDoorRows.lean that lists a variable, with what it lists TIED to the program's text (the seventh form; the later family's looks); each row that meets fmt, with fmt's text TOLD by the authors' own Lean function (tested against real Go, not proved from fmt's source: count such statements apart). THE CARD IS WHAT COUNTS. Prove the row's statement (the work); the ties are given (YtlehkaibbkblkaaGreatDoorTie.lean); close each card by the builder's one call (the guide's Derived/Test/ToyasCard.lean, 'card_holds'). Laid BY PROGRAM, IN A SANDBOX (cutbox-door.mjs). By AI agents, Wed Nov 11 2026. No macro, syntax, notation, axiom, sorry.
-/
import Derived.Test.YtlehkaibbkblkaaGreatDoorRows
import GoSem.ClaimSeven
namespace Go.Proofs.YtlehkaibbkblkaaGreatDoor
namespace Rows

/-- THE TIED CARD OF 'kiosklaw25.RecordAny'. -/
def recordAnyCard : Claim7 := { stood := { row := recordAnyRow, standIns := [], harness := (true, "f7f91c5a18f36da8ce11c44fa75f39fbdbfe6f518643cec5b15285945dab2553"), looks := false }, kinds := [], alts := [], laidByText := true, laidKinds := [.data, .pinned], laidTests := true, laidLooks := .later }
def RecordAnyCardSaid : Prop := Claim7.holds Tryz.pinned (.plain (OpenSpec.ofChange recordAnySpec)) recordAnyCard

/-- THE SECOND FORM's CARD OF 'kiosklaw25.RecordAny'. -/
def recordAnyUptoCard : Claim7 := { stood := { row := recordAnyUptoRow, standIns := [], harness := (true, "f7f91c5a18f36da8ce11c44fa75f39fbdbfe6f518643cec5b15285945dab2553"), looks := false }, kinds := [], alts := [], laidByText := true, laidKinds := [.data, .pinned], laidTests := true, laidLooks := .later }
def RecordAnyUptoCardSaid : Prop := Claim7.holds Tryz.pinned (.plain (OpenSpec.upto recordAnySpec)) recordAnyUptoCard
end Rows
end Go.Proofs.YtlehkaibbkblkaaGreatDoor
