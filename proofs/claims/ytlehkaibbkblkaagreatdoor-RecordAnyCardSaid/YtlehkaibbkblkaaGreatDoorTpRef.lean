/- Whether a filter matches a name, by the page; topic.Match, Name, Filter. -/

import Derived.Test.YtlehkaibbkblkaaGreatDoorTpMat
namespace Go.Proofs.YtlehkaibbkblkaaGreatDoor
open Go.RowKit Go.Shelf Go.Proofs

end Go.Proofs.YtlehkaibbkblkaaGreatDoor
