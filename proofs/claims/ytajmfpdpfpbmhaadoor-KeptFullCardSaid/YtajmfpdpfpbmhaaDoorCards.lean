/-
  DERIVED. GIVEN WITH THE SEED: THE CARDS: each row of YtajmfpdpfpbmhaaDoorRows.lean that lists a variable, with what it lists TIED to the program's text (the seventh form; the later family's looks); each row that meets fmt, with fmt's text TOLD by the authors' own Lean function (tested against real Go, not proved from fmt's source: count such statements apart). THE CARD IS WHAT COUNTS. Prove the row's statement (the work); the ties are given (YtajmfpdpfpbmhaaDoorTie.lean); close each card by the builder's one call (the guide's Derived/Test/ToyasCard.lean, 'card_holds'). Laid BY PROGRAM, IN A SANDBOX (cutbox-door.mjs). By AI agents, Wed Nov 11 2026. No macro, syntax, notation, axiom, sorry.
-/
import Derived.Test.YtajmfpdpfpbmhaaDoorRows
import GoSem.ClaimSeven
namespace Go.Proofs.YtajmfpdpfpbmhaaDoor
namespace Rows

/-- THE TIED CARD OF 'kiosklaw20.TopicLevels'. -/
def topicLevelsCard : Claim7 := { stood := { row := topicLevelsRow, standIns := [], harness := (true, "840b585f8b9c20719b45e453f0ca51f2d4e0e2db1a017cd09f8e08247b4567d2"), looks := false }, kinds := [], alts := [], laidByText := true, laidKinds := [.data, .pinned], laidTests := true, laidLooks := .later }
def TopicLevelsCardSaid : Prop := Claim7.holds Tryd.pinned (.plain (OpenSpec.ofChange topicLevelsSpec)) topicLevelsCard

/-- THE TIED CARD OF 'kiosklaw22.KeptFull'. -/
def keptFullCard : Claim7 := { stood := { row := keptFullRow, standIns := [], harness := (true, "840b585f8b9c20719b45e453f0ca51f2d4e0e2db1a017cd09f8e08247b4567d2"), looks := false }, kinds := [], alts := [], laidByText := true, laidKinds := [.data, .pinned], laidTests := true, laidLooks := .later }
def KeptFullCardSaid : Prop := Claim7.holds Tryd.pinned (.plain (OpenSpec.ofChange keptFullSpec)) keptFullCard

/-- THE SECOND FORM's CARD OF 'kiosklaw20.TopicLevels'. -/
def topicLevelsUptoCard : Claim7 := { stood := { row := topicLevelsUptoRow, standIns := [], harness := (true, "840b585f8b9c20719b45e453f0ca51f2d4e0e2db1a017cd09f8e08247b4567d2"), looks := false }, kinds := [], alts := [], laidByText := true, laidKinds := [.data, .pinned], laidTests := true, laidLooks := .later }
def TopicLevelsUptoCardSaid : Prop := Claim7.holds Tryd.pinned (.plain (OpenSpec.upto topicLevelsSpec)) topicLevelsUptoCard

/-- THE SECOND FORM's CARD OF 'kiosklaw22.KeptFull'. -/
def keptFullUptoCard : Claim7 := { stood := { row := keptFullUptoRow, standIns := [], harness := (true, "840b585f8b9c20719b45e453f0ca51f2d4e0e2db1a017cd09f8e08247b4567d2"), looks := false }, kinds := [], alts := [], laidByText := true, laidKinds := [.data, .pinned], laidTests := true, laidLooks := .later }
def KeptFullUptoCardSaid : Prop := Claim7.holds Tryd.pinned (.plain (OpenSpec.upto keptFullSpec)) keptFullUptoCard
end Rows
end Go.Proofs.YtajmfpdpfpbmhaaDoor
