/- NicFull: pieces of its run. -/
import Derived.Test.YtfffehbipcikoaaKxNicCode
namespace Go.Proofs.Ytfffehbipcikoaa.nicFull
open Go.Proofs.Ytfffehbipcikoaa.Kx
set_option maxRecDepth 100000 in
theorem xt : topD (rn Try.prog noOv 10000 (.code m7) (ofL [(0, .xslc 0 true), (3, .ptr (nat_lit 52) (nat_lit 0))]) ⟨ofH b19, 1003⟩) .ret [(2, .bool true)] [] 100000 = true := by kernel_rfl
end Go.Proofs.Ytfffehbipcikoaa.nicFull
