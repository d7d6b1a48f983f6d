/- NicFull: pieces of its run. -/
import Derived.Test.YtfffehbipcikoaaKxNicCode
namespace Go.Proofs.Ytfffehbipcikoaa.nicFull
open Go.Proofs.Ytfffehbipcikoaa.Kx
set_option maxRecDepth 100000 in
theorem c5a : topD (iterR (rn Try.prog noOv 10000) l5 16 (ofL [(0, .xslc 0 true), (3, .ptr (nat_lit 52) (nat_lit 0)), (9, i64 (nat_lit 0))]) ⟨ofH b10, 523⟩) .normal [(0, .xslc 0 true), (3, .ptr (nat_lit 52) (nat_lit 0)), (9, i64 (nat_lit 16))] b11 619 = true := by kernel_rfl
set_option maxRecDepth 100000 in
theorem x5 : topD (rn Try.prog noOv 10000 (.code (.loop l5)) (ofL [(0, .xslc 0 true), (3, .ptr (nat_lit 52) (nat_lit 0)), (9, i64 (nat_lit 16))]) ⟨ofH b11, 619⟩) (.exit 4) [(0, .xslc 0 true), (3, .ptr (nat_lit 52) (nat_lit 0))] b11 619 = true := by kernel_rfl
set_option maxRecDepth 100000 in
theorem h6 : topD (rn Try.prog noOv 10000 (.code (sL (sL m6))) (ofL [(0, .xslc 0 true), (3, .ptr (nat_lit 52) (nat_lit 0))]) ⟨ofH b11, 619⟩) .normal [(0, .xslc 0 true), (3, .ptr (nat_lit 52) (nat_lit 0)), (12, i64 (nat_lit 0))] b11 619 = true := by kernel_rfl
set_option maxRecDepth 100000 in
theorem c6a : topD (iterR (rn Try.prog noOv 10000) l6 8 (ofL [(0, .xslc 0 true), (3, .ptr (nat_lit 52) (nat_lit 0)), (12, i64 (nat_lit 0))]) ⟨ofH b11, 619⟩) .normal [(0, .xslc 0 true), (3, .ptr (nat_lit 52) (nat_lit 0)), (12, i64 (nat_lit 8))] b12 667 = true := by kernel_rfl
set_option maxRecDepth 100000 in
theorem c6b : topD (iterR (rn Try.prog noOv 10000) l6 8 (ofL [(0, .xslc 0 true), (3, .ptr (nat_lit 52) (nat_lit 0)), (12, i64 (nat_lit 8))]) ⟨ofH b12, 667⟩) .normal [(0, .xslc 0 true), (3, .ptr (nat_lit 52) (nat_lit 0)), (12, i64 (nat_lit 16))] b13 715 = true := by kernel_rfl
end Go.Proofs.Ytfffehbipcikoaa.nicFull
