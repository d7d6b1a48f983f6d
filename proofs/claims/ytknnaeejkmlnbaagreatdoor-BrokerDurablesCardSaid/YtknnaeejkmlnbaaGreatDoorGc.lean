/- Writing a state's bytes: number, text, bit, message. Writing a session's bytes. Bytes of a string, as a row that may be read; a string of bytes. crc.Sum: a number that the bytes alone make. Writing a broker's bytes: Kept, lay, sum. -/
import Derived.Test.YtknnaeejkmlnbaaGreatDoorGa
import Derived.Handy
import Derived.Deep.DeepCutAuto
import Derived.Test.YtknnaeejkmlnbaaGreatDoorGb
import Derived.Lib.Hide
import Derived.IntWalk
import Derived.Laws.IdiomStrings
namespace Go.Proofs.YtknnaeejkmlnbaaGreatDoor
open Go.RowKit
end Go.Proofs.YtknnaeejkmlnbaaGreatDoor
namespace Go.Proofs.YtknnaeejkmlnbaaGreatDoor
open Go.RowKit
theorem wi_cells {w : World} {b o : Nat} {x : Wish1} (h : w.rangeAt b o (eW.c x)) : w.cell? ⟨b, o, none⟩ = some (.string x.f) ∧ w.cell? ⟨b, o + 1, none⟩ = some (.int .i64 x.q) := ⟨h 0 _ rfl, h 1 _ rfl⟩
end Go.Proofs.YtknnaeejkmlnbaaGreatDoor
namespace Go.Proofs.YtknnaeejkmlnbaaGreatDoor
section
open Go.RowKit
end
section
open Go.RowKit
end
end Go.Proofs.YtknnaeejkmlnbaaGreatDoor
namespace Go.Proofs.YtknnaeejkmlnbaaGreatDoor
open Go.RowKit
/-- The cells of a session. -/
theorem ses_cells {w : World} {b o : Nat} {r : Rs} (h : w.rangeAt b o (eS.c r)) : w.cell? ⟨b, o, none⟩ = some (.string r.s.c) ∧ w.cell? ⟨b, o + 1, none⟩ = some (.bool r.s.cl) ∧ w.cell? ⟨b, o + 2, none⟩ = some (.int .i64 r.s.ln) ∧ w.cell? ⟨b, o + 3, none⟩ = some (.slice r.sa r.s.S.length r.sc) ∧ w.cell? ⟨b, o + 4, none⟩ = some (.int .i64 r.s.o.last) ∧
    w.cell? ⟨b, o + 5, none⟩ = some (.slice r.fa r.s.o.F.length r.fc) ∧ w.cell? ⟨b, o + 6, none⟩ = some (.slice r.qa r.s.o.Q.length r.qc) ∧ w.cell? ⟨b, o + 7, none⟩ = some (.slice r.ia r.s.I.length r.ic) ∧ w.cell? ⟨b, o + 8, none⟩ = some (.bool r.s.wl.is) ∧ w.cell? ⟨b, o + 9, none⟩ = some (.string r.s.wl.t) ∧
    w.cell? ⟨b, o + 10, none⟩ = some (.string r.s.wl.p) ∧ w.cell? ⟨b, o + 11, none⟩ = some (.int .i64 r.s.wl.q) ∧ w.cell? ⟨b, o + 12, none⟩ = some (.bool r.s.wl.r) ∧ w.cell? ⟨b, o + 13, none⟩ = some (.int .i64 r.s.keep) ∧ w.cell? ⟨b, o + 14, none⟩ = some (.int .i64 r.s.idle) :=
  ⟨h 0 _ rfl, h 1 _ rfl, h 2 _ rfl, h 3 _ rfl, h 4 _ rfl, h 5 _ rfl, h 6 _ rfl, h 7 _ rfl, h 8 _ rfl, h 9 _ rfl, h 10 _ rfl, h 11 _ rfl, h 12 _ rfl, h 13 _ rfl, h 14 _ rfl⟩
end Go.Proofs.YtknnaeejkmlnbaaGreatDoor
