/- What the rows of layers 20 to 22 share: from a world in which the library's tables are laid to what the walks know of it. -/

import Derived.Test.YtknnaeejkmlnbaaGreatDoorTpTxt
import Derived.Test.YtknnaeejkmlnbaaGreatDoorGd
import Derived.Test.YtknnaeejkmlnbaaGreatDoorTie
import Derived.Test.YtknnaeejkmlnbaaGreatDoorCards
import Derived.Shelf.Vars
import Derived.Lib.LaidU8T
import Derived.HandedShaped
import Derived.LaidMore
import Derived.Lay
import Derived.SevenTiedAt
import Derived.Stop.Joined
import Derived.MakeChecks
import Derived.ProofKit
import Derived.OpenShut
namespace Go.Proofs.YtknnaeejkmlnbaaGreatDoor
open Go.ChangeShapes Go.WideShapes Go.ChangeAt Go.RowKit Go.Shelf Go.Proofs

theorem own : ownKnob Tryz.prog.godebug = none := by kernel_rfl

theorem maxlen_of {W : World} (h : W.ShapedOpen Tryz.prog) : ∃ m, W.cell? ⟨Tryz.lays146_ren.g 1, 0, none⟩ = some (.int .i64 m) :=
  cell_of_shapedOpen_int (zero := #[.int .i64 0]) (t := 3) h (by decide) (by kernel_rfl) rfl (by kernel_rfl) (by kernel_rfl) Tryz.underlying3

/-- The two tables are laid, and whatever MaxLen holds: what the walks know. -/
theorem env_of {laid : List (String × DataW Unit)} {W : World} (hp : (laid.all fun x => x.2.handleName?.isNone) = true) (hx : laidMetH Tryz.prog laid W)
    (h1 : ("unicode/utf8.first", Rows.laid_unicode_utf8_first) ∈ laid) (h2 : ("unicode/utf8.acceptRanges", Rows.laid_unicode_utf8_acceptRanges) ∈ laid) (hsh : W.ShapedOpen Tryz.prog) : Env W := by
  rw [MakeChecks.laidMetH_plain _ _ _ hp] at hx
  have e1 : Rows.laid_unicode_utf8_first = Lib.firstData := by kernel_rfl
  have e2 : (Rows.laid_unicode_utf8_acceptRanges : DataW Unit) = Lib.acceptData := by kernel_rfl
  rw [e1] at h1
  rw [e2] at h2
  exact ⟨utf8Tabs_of_readsT (U8Types.of196 Tryz.lays196) ⟨by kernel_rfl, by kernel_rfl, by kernel_rfl, by kernel_rfl, by kernel_rfl, by kernel_rfl, by kernel_rfl⟩ (Lib.laidMet.reads hx h1) (Lib.laidMet.reads hx h2), maxlen_of hsh⟩
end Go.Proofs.YtknnaeejkmlnbaaGreatDoor
