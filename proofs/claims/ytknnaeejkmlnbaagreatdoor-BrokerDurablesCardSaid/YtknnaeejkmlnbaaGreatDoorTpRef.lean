/- Whether a filter matches a name, by the page; topic.Match, Name, Filter. -/

import Derived.Test.YtknnaeejkmlnbaaGreatDoorTpMat
namespace Go.Proofs.YtknnaeejkmlnbaaGreatDoor
open Go.RowKit Go.Shelf Go.Proofs

end Go.Proofs.YtknnaeejkmlnbaaGreatDoor
