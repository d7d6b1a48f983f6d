/- Plain laws: numbers in bytes, the lowest first. -/
import Derived.Laws.BitsAllLaws
import Derived.Laws.Bits64
import Derived.Laws.Bits
namespace Go.Proofs.YtlehkaibbkblkaaGreatDoor

/-- Bytes as a number, the lowest first. -/
def le : List UInt8 → Nat
  | [] => 0
  | b :: r => b.toNat + 256 * le r

end Go.Proofs.YtlehkaibbkblkaaGreatDoor
