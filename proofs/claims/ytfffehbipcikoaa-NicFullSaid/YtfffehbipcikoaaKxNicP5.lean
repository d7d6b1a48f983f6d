/- NicFull: pieces of its run. -/
import Derived.Test.YtfffehbipcikoaaKxNicCode
namespace Go.Proofs.Ytfffehbipcikoaa.nicFull
open Go.Proofs.Ytfffehbipcikoaa.Kx
set_option maxRecDepth 100000 in
theorem c6c : topD (iterR (rn Try.prog noOv 10000) l6 8 (ofL [(0, .xslc 0 true), (3, .ptr (nat_lit 52) (nat_lit 0)), (12, i64 (nat_lit 16))]) ⟨ofH b13, 715⟩) .normal [(0, .xslc 0 true), (3, .ptr (nat_lit 52) (nat_lit 0)), (12, i64 (nat_lit 24))] b14 763 = true := by kernel_rfl
set_option maxRecDepth 100000 in
theorem c6d : topD (iterR (rn Try.prog noOv 10000) l6 8 (ofL [(0, .xslc 0 true), (3, .ptr (nat_lit 52) (nat_lit 0)), (12, i64 (nat_lit 24))]) ⟨ofH b14, 763⟩) .normal [(0, .xslc 0 true), (3, .ptr (nat_lit 52) (nat_lit 0)), (12, i64 (nat_lit 32))] b15 811 = true := by kernel_rfl
set_option maxRecDepth 100000 in
theorem c6e : topD (iterR (rn Try.prog noOv 10000) l6 8 (ofL [(0, .xslc 0 true), (3, .ptr (nat_lit 52) (nat_lit 0)), (12, i64 (nat_lit 32))]) ⟨ofH b15, 811⟩) .normal [(0, .xslc 0 true), (3, .ptr (nat_lit 52) (nat_lit 0)), (12, i64 (nat_lit 40))] b16 859 = true := by kernel_rfl
end Go.Proofs.Ytfffehbipcikoaa.nicFull
