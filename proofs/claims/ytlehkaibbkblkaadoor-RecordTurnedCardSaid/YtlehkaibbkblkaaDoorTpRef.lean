/- Whether a filter matches a name, by the page; topic.Match, Name, Filter. -/

import Derived.Test.YtlehkaibbkblkaaDoorTpMat
namespace Go.Proofs.YtlehkaibbkblkaaDoor
open Go.RowKit Go.Shelf Go.Proofs

end Go.Proofs.YtlehkaibbkblkaaDoor
