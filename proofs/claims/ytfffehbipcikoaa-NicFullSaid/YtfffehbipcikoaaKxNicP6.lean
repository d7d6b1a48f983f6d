/- NicFull: pieces of its run. -/
import Derived.Test.YtfffehbipcikoaaKxNicCode
namespace Go.Proofs.Ytfffehbipcikoaa.nicFull
open Go.Proofs.Ytfffehbipcikoaa.Kx
set_option maxRecDepth 100000 in
theorem c6f : topD (iterR (rn Try.prog noOv 10000) l6 8 (ofL [(0, .xslc 0 true), (3, .ptr (nat_lit 52) (nat_lit 0)), (12, i64 (nat_lit 40))]) ⟨ofH b16, 859⟩) .normal [(0, .xslc 0 true), (3, .ptr (nat_lit 52) (nat_lit 0)), (12, i64 (nat_lit 48))] b17 907 = true := by kernel_rfl
set_option maxRecDepth 100000 in
theorem c6g : topD (iterR (rn Try.prog noOv 10000) l6 8 (ofL [(0, .xslc 0 true), (3, .ptr (nat_lit 52) (nat_lit 0)), (12, i64 (nat_lit 48))]) ⟨ofH b17, 907⟩) .normal [(0, .xslc 0 true), (3, .ptr (nat_lit 52) (nat_lit 0)), (12, i64 (nat_lit 56))] b18 955 = true := by kernel_rfl
set_option maxRecDepth 100000 in
theorem c6h : topD (iterR (rn Try.prog noOv 10000) l6 8 (ofL [(0, .xslc 0 true), (3, .ptr (nat_lit 52) (nat_lit 0)), (12, i64 (nat_lit 56))]) ⟨ofH b18, 955⟩) .normal [(0, .xslc 0 true), (3, .ptr (nat_lit 52) (nat_lit 0)), (12, i64 (nat_lit 64))] b19 1003 = true := by kernel_rfl
set_option maxRecDepth 100000 in
theorem x6 : topD (rn Try.prog noOv 10000 (.code (.loop l6)) (ofL [(0, .xslc 0 true), (3, .ptr (nat_lit 52) (nat_lit 0)), (12, i64 (nat_lit 64))]) ⟨ofH b19, 1003⟩) (.exit 6) [(0, .xslc 0 true), (3, .ptr (nat_lit 52) (nat_lit 0))] b19 1003 = true := by kernel_rfl
end Go.Proofs.Ytfffehbipcikoaa.nicFull
