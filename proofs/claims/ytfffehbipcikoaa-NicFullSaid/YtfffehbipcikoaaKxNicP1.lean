/- NicFull: pieces of its run. -/
import Derived.Test.YtfffehbipcikoaaKxNicCode
import Derived.Test.YtfffehbipcikoaaKxNicSt2
namespace Go.Proofs.Ytfffehbipcikoaa.nicFull
open Go.Proofs.Ytfffehbipcikoaa.Kx
set_option maxRecDepth 100000 in
theorem c4b1 : topD (iterR (rn Try.prog noOv 10000) l4 7 (ofL [(0, .xslc 0 true), (3, .ptr (nat_lit 52) (nat_lit 0)), (6, i64 (nat_lit 14))]) ⟨ofH b2, 270⟩) .normal [(0, .xslc 0 true), (3, .ptr (nat_lit 52) (nat_lit 0)), (6, i64 (nat_lit 21))] bq 305 = true := by kernel_rfl
set_option maxRecDepth 100000 in
theorem c4b2 : topD (iterR (rn Try.prog noOv 10000) l4 7 (ofL [(0, .xslc 0 true), (3, .ptr (nat_lit 52) (nat_lit 0)), (6, i64 (nat_lit 21))]) ⟨ofH bq, 305⟩) .normal [(0, .xslc 0 true), (3, .ptr (nat_lit 52) (nat_lit 0)), (6, i64 (nat_lit 28))] b3 340 = true := by kernel_rfl
set_option maxRecDepth 100000 in
theorem c4c : topD (iterR (rn Try.prog noOv 10000) l4 6 (ofL [(0, .xslc 0 true), (3, .ptr (nat_lit 52) (nat_lit 0)), (6, i64 (nat_lit 28))]) ⟨ofH b3, 340⟩) .normal [(0, .xslc 0 true), (3, .ptr (nat_lit 52) (nat_lit 0)), (6, i64 (nat_lit 34))] b4 370 = true := by kernel_rfl
set_option maxRecDepth 100000 in
theorem c4d : topD (iterR (rn Try.prog noOv 10000) l4 5 (ofL [(0, .xslc 0 true), (3, .ptr (nat_lit 52) (nat_lit 0)), (6, i64 (nat_lit 34))]) ⟨ofH b4, 370⟩) .normal [(0, .xslc 0 true), (3, .ptr (nat_lit 52) (nat_lit 0)), (6, i64 (nat_lit 39))] b5 395 = true := by kernel_rfl
end Go.Proofs.Ytfffehbipcikoaa.nicFull
