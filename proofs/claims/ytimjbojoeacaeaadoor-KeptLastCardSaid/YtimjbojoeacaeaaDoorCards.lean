/-
  DERIVED. GIVEN WITH THE SEED: THE CARDS: each row of YtimjbojoeacaeaaDoorRows.lean that lists a variable, with what it lists TIED to the program's text (the seventh form; the later family's looks); each row that meets fmt, with fmt's text TOLD by the authors' own Lean function (tested against real Go, not proved from fmt's source: count such statements apart). THE CARD IS WHAT COUNTS. Prove the row's statement (the work); the ties are given (YtimjbojoeacaeaaDoorTie.lean); close each card by the builder's one call (the guide's Derived/Test/ToyasCard.lean, 'card_holds'). Laid BY PROGRAM, IN A SANDBOX (cutbox-door.mjs). By AI agents, Wed Nov 11 2026. No macro, syntax, notation, axiom, sorry.
-/
import Derived.Test.YtimjbojoeacaeaaDoorRows
import GoSem.ClaimSeven
namespace Go.Proofs.YtimjbojoeacaeaaDoor
namespace Rows

/-- THE TIED CARD OF 'kiosklaw20.TopicMatches'. -/
def topicMatchesCard : Claim7 := { stood := { row := topicMatchesRow, standIns := [], harness := (true, "5a290b6daccb4b025161735fefb56d147d0b60a8f1881ea5a872e7b6f04d1a92"), looks := false }, kinds := [], alts := [], laidByText := true, laidKinds := [.data, .pinned], laidTests := true, laidLooks := .later }
def TopicMatchesCardSaid : Prop := Claim7.holds Tryd.pinned (.plain (OpenSpec.ofChange topicMatchesSpec)) topicMatchesCard

/-- THE TIED CARD OF 'kiosklaw20.TopicSelf'. -/
def topicSelfCard : Claim7 := { stood := { row := topicSelfRow, standIns := [], harness := (true, "5a290b6daccb4b025161735fefb56d147d0b60a8f1881ea5a872e7b6f04d1a92"), looks := false }, kinds := [], alts := [], laidByText := true, laidKinds := [.data, .pinned], laidTests := true, laidLooks := .later }
def TopicSelfCardSaid : Prop := Claim7.holds Tryd.pinned (.plain (OpenSpec.ofChange topicSelfSpec)) topicSelfCard

/-- THE TIED CARD OF 'kiosklaw20.TopicChecks'. -/
def topicChecksCard : Claim7 := { stood := { row := topicChecksRow, standIns := [], harness := (true, "5a290b6daccb4b025161735fefb56d147d0b60a8f1881ea5a872e7b6f04d1a92"), looks := false }, kinds := [], alts := [], laidByText := true, laidKinds := [.data, .pinned], laidTests := true, laidLooks := .later }
def TopicChecksCardSaid : Prop := Claim7.holds Tryd.pinned (.plain (OpenSpec.ofChange topicChecksSpec)) topicChecksCard

/-- THE TIED CARD OF 'kiosklaw21.SubsBest'. -/
def subsBestCard : Claim7 := { stood := { row := subsBestRow, standIns := [], harness := (true, "5a290b6daccb4b025161735fefb56d147d0b60a8f1881ea5a872e7b6f04d1a92"), looks := false }, kinds := [], alts := [], laidByText := true, laidKinds := [.data, .pinned], laidTests := true, laidLooks := .later }
def SubsBestCardSaid : Prop := Claim7.holds Tryd.pinned (.plain (OpenSpec.ofChange subsBestSpec)) subsBestCard

/-- THE TIED CARD OF 'kiosklaw22.KeptLast'. -/
def keptLastCard : Claim7 := { stood := { row := keptLastRow, standIns := [], harness := (true, "5a290b6daccb4b025161735fefb56d147d0b60a8f1881ea5a872e7b6f04d1a92"), looks := false }, kinds := [], alts := [], laidByText := true, laidKinds := [.data, .pinned], laidTests := true, laidLooks := .later }
def KeptLastCardSaid : Prop := Claim7.holds Tryd.pinned (.plain (OpenSpec.ofChange keptLastSpec)) keptLastCard

/-- THE TIED CARD OF 'kiosklaw22.KeptExact'. -/
def keptExactCard : Claim7 := { stood := { row := keptExactRow, standIns := [], harness := (true, "5a290b6daccb4b025161735fefb56d147d0b60a8f1881ea5a872e7b6f04d1a92"), looks := false }, kinds := [], alts := [], laidByText := true, laidKinds := [.data, .pinned], laidTests := true, laidLooks := .later }
def KeptExactCardSaid : Prop := Claim7.holds Tryd.pinned (.plain (OpenSpec.ofChange keptExactSpec)) keptExactCard

/-- THE TIED CARD OF 'kiosklaw21.SubsExact'. -/
def subsExactCard : Claim7 := { stood := { row := subsExactRow, standIns := [], harness := (true, "5a290b6daccb4b025161735fefb56d147d0b60a8f1881ea5a872e7b6f04d1a92"), looks := false }, kinds := [], alts := [], laidByText := true, laidKinds := [.data, .pinned], laidTests := true, laidLooks := .later }
def SubsExactCardSaid : Prop := Claim7.holds Tryd.pinned (.plain (OpenSpec.ofChange subsExactSpec)) subsExactCard

/-- THE TIED CARD OF 'kiosklaw21.SubsOrders'. -/
def subsOrdersCard : Claim7 := { stood := { row := subsOrdersRow, standIns := [], harness := (true, "5a290b6daccb4b025161735fefb56d147d0b60a8f1881ea5a872e7b6f04d1a92"), looks := false }, kinds := [], alts := [], laidByText := true, laidKinds := [.data, .pinned], laidTests := true, laidLooks := .later }
def SubsOrdersCardSaid : Prop := Claim7.holds Tryd.pinned (.plain (OpenSpec.ofChange subsOrdersSpec)) subsOrdersCard

/-- THE SECOND FORM's CARD OF 'kiosklaw20.TopicMatches'. -/
def topicMatchesUptoCard : Claim7 := { stood := { row := topicMatchesUptoRow, standIns := [], harness := (true, "5a290b6daccb4b025161735fefb56d147d0b60a8f1881ea5a872e7b6f04d1a92"), looks := false }, kinds := [], alts := [], laidByText := true, laidKinds := [.data, .pinned], laidTests := true, laidLooks := .later }
def TopicMatchesUptoCardSaid : Prop := Claim7.holds Tryd.pinned (.plain (OpenSpec.upto topicMatchesSpec)) topicMatchesUptoCard

/-- THE SECOND FORM's CARD OF 'kiosklaw20.TopicSelf'. -/
def topicSelfUptoCard : Claim7 := { stood := { row := topicSelfUptoRow, standIns := [], harness := (true, "5a290b6daccb4b025161735fefb56d147d0b60a8f1881ea5a872e7b6f04d1a92"), looks := false }, kinds := [], alts := [], laidByText := true, laidKinds := [.data, .pinned], laidTests := true, laidLooks := .later }
def TopicSelfUptoCardSaid : Prop := Claim7.holds Tryd.pinned (.plain (OpenSpec.upto topicSelfSpec)) topicSelfUptoCard

/-- THE SECOND FORM's CARD OF 'kiosklaw20.TopicChecks'. -/
def topicChecksUptoCard : Claim7 := { stood := { row := topicChecksUptoRow, standIns := [], harness := (true, "5a290b6daccb4b025161735fefb56d147d0b60a8f1881ea5a872e7b6f04d1a92"), looks := false }, kinds := [], alts := [], laidByText := true, laidKinds := [.data, .pinned], laidTests := true, laidLooks := .later }
def TopicChecksUptoCardSaid : Prop := Claim7.holds Tryd.pinned (.plain (OpenSpec.upto topicChecksSpec)) topicChecksUptoCard

/-- THE SECOND FORM's CARD OF 'kiosklaw21.SubsBest'. -/
def subsBestUptoCard : Claim7 := { stood := { row := subsBestUptoRow, standIns := [], harness := (true, "5a290b6daccb4b025161735fefb56d147d0b60a8f1881ea5a872e7b6f04d1a92"), looks := false }, kinds := [], alts := [], laidByText := true, laidKinds := [.data, .pinned], laidTests := true, laidLooks := .later }
def SubsBestUptoCardSaid : Prop := Claim7.holds Tryd.pinned (.plain (OpenSpec.upto subsBestSpec)) subsBestUptoCard

/-- THE SECOND FORM's CARD OF 'kiosklaw22.KeptLast'. -/
def keptLastUptoCard : Claim7 := { stood := { row := keptLastUptoRow, standIns := [], harness := (true, "5a290b6daccb4b025161735fefb56d147d0b60a8f1881ea5a872e7b6f04d1a92"), looks := false }, kinds := [], alts := [], laidByText := true, laidKinds := [.data, .pinned], laidTests := true, laidLooks := .later }
def KeptLastUptoCardSaid : Prop := Claim7.holds Tryd.pinned (.plain (OpenSpec.upto keptLastSpec)) keptLastUptoCard

/-- THE SECOND FORM's CARD OF 'kiosklaw22.KeptExact'. -/
def keptExactUptoCard : Claim7 := { stood := { row := keptExactUptoRow, standIns := [], harness := (true, "5a290b6daccb4b025161735fefb56d147d0b60a8f1881ea5a872e7b6f04d1a92"), looks := false }, kinds := [], alts := [], laidByText := true, laidKinds := [.data, .pinned], laidTests := true, laidLooks := .later }
def KeptExactUptoCardSaid : Prop := Claim7.holds Tryd.pinned (.plain (OpenSpec.upto keptExactSpec)) keptExactUptoCard

/-- THE SECOND FORM's CARD OF 'kiosklaw21.SubsExact'. -/
def subsExactUptoCard : Claim7 := { stood := { row := subsExactUptoRow, standIns := [], harness := (true, "5a290b6daccb4b025161735fefb56d147d0b60a8f1881ea5a872e7b6f04d1a92"), looks := false }, kinds := [], alts := [], laidByText := true, laidKinds := [.data, .pinned], laidTests := true, laidLooks := .later }
def SubsExactUptoCardSaid : Prop := Claim7.holds Tryd.pinned (.plain (OpenSpec.upto subsExactSpec)) subsExactUptoCard

/-- THE SECOND FORM's CARD OF 'kiosklaw21.SubsOrders'. -/
def subsOrdersUptoCard : Claim7 := { stood := { row := subsOrdersUptoRow, standIns := [], harness := (true, "5a290b6daccb4b025161735fefb56d147d0b60a8f1881ea5a872e7b6f04d1a92"), looks := false }, kinds := [], alts := [], laidByText := true, laidKinds := [.data, .pinned], laidTests := true, laidLooks := .later }
def SubsOrdersUptoCardSaid : Prop := Claim7.holds Tryd.pinned (.plain (OpenSpec.upto subsOrdersSpec)) subsOrdersUptoCard
end Rows
end Go.Proofs.YtimjbojoeacaeaaDoor
