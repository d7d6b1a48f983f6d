/- NicFull: pieces of its run. -/
import Derived.Test.YtfffehbipcikoaaKxNicCode
namespace Go.Proofs.Ytfffehbipcikoaa.nicFull
open Go.Proofs.Ytfffehbipcikoaa.Kx
set_option maxRecDepth 100000 in
theorem c4e : topD (iterR (rn Try.prog noOv 10000) l4 5 (ofL [(0, .xslc 0 true), (3, .ptr (nat_lit 52) (nat_lit 0)), (6, i64 (nat_lit 39))]) ⟨ofH b5, 395⟩) .normal [(0, .xslc 0 true), (3, .ptr (nat_lit 52) (nat_lit 0)), (6, i64 (nat_lit 44))] b6 420 = true := by kernel_rfl
set_option maxRecDepth 100000 in
theorem c4f : topD (iterR (rn Try.prog noOv 10000) l4 5 (ofL [(0, .xslc 0 true), (3, .ptr (nat_lit 52) (nat_lit 0)), (6, i64 (nat_lit 44))]) ⟨ofH b6, 420⟩) .normal [(0, .xslc 0 true), (3, .ptr (nat_lit 52) (nat_lit 0)), (6, i64 (nat_lit 49))] b7 445 = true := by kernel_rfl
set_option maxRecDepth 100000 in
theorem c4g : topD (iterR (rn Try.prog noOv 10000) l4 5 (ofL [(0, .xslc 0 true), (3, .ptr (nat_lit 52) (nat_lit 0)), (6, i64 (nat_lit 49))]) ⟨ofH b7, 445⟩) .normal [(0, .xslc 0 true), (3, .ptr (nat_lit 52) (nat_lit 0)), (6, i64 (nat_lit 54))] b8 470 = true := by kernel_rfl
end Go.Proofs.Ytfffehbipcikoaa.nicFull
