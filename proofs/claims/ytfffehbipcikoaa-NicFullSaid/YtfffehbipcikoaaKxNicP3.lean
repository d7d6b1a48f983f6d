/- NicFull: pieces of its run. -/
import Derived.Test.YtfffehbipcikoaaKxNicCode
namespace Go.Proofs.Ytfffehbipcikoaa.nicFull
open Go.Proofs.Ytfffehbipcikoaa.Kx
set_option maxRecDepth 100000 in
theorem c4h : topD (iterR (rn Try.prog noOv 10000) l4 5 (ofL [(0, .xslc 0 true), (3, .ptr (nat_lit 52) (nat_lit 0)), (6, i64 (nat_lit 54))]) ⟨ofH b8, 470⟩) .normal [(0, .xslc 0 true), (3, .ptr (nat_lit 52) (nat_lit 0)), (6, i64 (nat_lit 59))] b9 495 = true := by kernel_rfl
set_option maxRecDepth 100000 in
theorem c4i : topD (iterR (rn Try.prog noOv 10000) l4 5 (ofL [(0, .xslc 0 true), (3, .ptr (nat_lit 52) (nat_lit 0)), (6, i64 (nat_lit 59))]) ⟨ofH b9, 495⟩) .normal [(0, .xslc 0 true), (3, .ptr (nat_lit 52) (nat_lit 0)), (6, i64 (nat_lit 64))] b10 520 = true := by kernel_rfl
set_option maxRecDepth 100000 in
theorem c4j : topD (iterR (rn Try.prog noOv 10000) l4 3 (ofL [(0, .xslc 0 true), (3, .ptr (nat_lit 52) (nat_lit 0)), (6, i64 (nat_lit 64))]) ⟨ofH b10, 520⟩) .normal [(0, .xslc 0 true), (3, .ptr (nat_lit 52) (nat_lit 0)), (6, i64 (nat_lit 67))] b10 523 = true := by kernel_rfl
set_option maxRecDepth 100000 in
theorem x4 : topD (rn Try.prog noOv 10000 (.code (.loop l4)) (ofL [(0, .xslc 0 true), (3, .ptr (nat_lit 52) (nat_lit 0)), (6, i64 (nat_lit 67))]) ⟨ofH b10, 523⟩) (.exit 2) [(0, .xslc 0 true), (3, .ptr (nat_lit 52) (nat_lit 0))] b10 523 = true := by kernel_rfl
set_option maxRecDepth 100000 in
theorem h5 : topD (rn Try.prog noOv 10000 (.code (sL (sL m5))) (ofL [(0, .xslc 0 true), (3, .ptr (nat_lit 52) (nat_lit 0))]) ⟨ofH b10, 523⟩) .normal [(0, .xslc 0 true), (3, .ptr (nat_lit 52) (nat_lit 0)), (9, i64 (nat_lit 0))] b10 523 = true := by kernel_rfl
end Go.Proofs.Ytfffehbipcikoaa.nicFull
