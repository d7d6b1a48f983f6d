/- Whether a filter matches a name: contracts of topic.Fits, topic.Match, Name, Filter, and of the page's own Filter, Match. -/

import Derived.Test.YtlehkaibbkblkaaDoorTpFil
namespace Go.Proofs.YtlehkaibbkblkaaDoor
open Go.RowKit Go.Shelf Go.Proofs

end Go.Proofs.YtlehkaibbkblkaaDoor
