/- How much a broker is: wishes, messages. -/


import Derived.Test.YtlehkaibbkblkaaGreatDoorRcMay3
namespace Go.Proofs.YtlehkaibbkblkaaGreatDoor
open Go.RowKit
/-- As far as the reach goes. -/
def RR : Nat := 281474976710656
end Go.Proofs.YtlehkaibbkblkaaGreatDoor
