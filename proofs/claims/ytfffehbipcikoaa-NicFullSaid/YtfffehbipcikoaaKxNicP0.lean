/- NicFull: pieces of its run. -/
import Derived.Test.YtfffehbipcikoaaKxNicCode
namespace Go.Proofs.Ytfffehbipcikoaa.nicFull
open Go.Proofs.Ytfffehbipcikoaa.Kx
set_option maxRecDepth 100000 in
theorem ra : topD (runL (rn Try.prog noOv 10000) [sL bd, sL (sR bd), sL (sR (sR bd))] (initT [.xslc 0 true] 0 .e) ⟨.e, 0⟩) .normal [(0, .xslc 0 true), (3, .ptr (nat_lit 52) (nat_lit 0))] b0 117 = true := by kernel_rfl
set_option maxRecDepth 100000 in
theorem h3 : topD (rn Try.prog noOv 10000 (.code (sL (sL m3))) (ofL [(0, .xslc 0 true), (3, .ptr (nat_lit 52) (nat_lit 0))]) ⟨ofH b0, 117⟩) .normal [(0, .xslc 0 true), (3, .ptr (nat_lit 52) (nat_lit 0)), (4, i64 (nat_lit 0))] b0 117 = true := by kernel_rfl
set_option maxRecDepth 100000 in
theorem c3a : topD (iterR (rn Try.prog noOv 10000) l3 19 (ofL [(0, .xslc 0 true), (3, .ptr (nat_lit 52) (nat_lit 0)), (4, i64 (nat_lit 0))]) ⟨ofH b0, 117⟩) .normal [(0, .xslc 0 true), (3, .ptr (nat_lit 52) (nat_lit 0)), (4, i64 (nat_lit 19))] b1 200 = true := by kernel_rfl
set_option maxRecDepth 100000 in
theorem x3 : topD (rn Try.prog noOv 10000 (.code (.loop l3)) (ofL [(0, .xslc 0 true), (3, .ptr (nat_lit 52) (nat_lit 0)), (4, i64 (nat_lit 19))]) ⟨ofH b1, 200⟩) (.exit 0) [(0, .xslc 0 true), (3, .ptr (nat_lit 52) (nat_lit 0))] b1 200 = true := by kernel_rfl
set_option maxRecDepth 100000 in
theorem h4 : topD (rn Try.prog noOv 10000 (.code (sL (sL m4))) (ofL [(0, .xslc 0 true), (3, .ptr (nat_lit 52) (nat_lit 0))]) ⟨ofH b1, 200⟩) .normal [(0, .xslc 0 true), (3, .ptr (nat_lit 52) (nat_lit 0)), (6, i64 (nat_lit 0))] b1 200 = true := by kernel_rfl
set_option maxRecDepth 100000 in
theorem c4a : topD (iterR (rn Try.prog noOv 10000) l4 14 (ofL [(0, .xslc 0 true), (3, .ptr (nat_lit 52) (nat_lit 0)), (6, i64 (nat_lit 0))]) ⟨ofH b1, 200⟩) .normal [(0, .xslc 0 true), (3, .ptr (nat_lit 52) (nat_lit 0)), (6, i64 (nat_lit 14))] b2 270 = true := by kernel_rfl
end Go.Proofs.Ytfffehbipcikoaa.nicFull
