/- wakes, of layer 24, run by the evaluator: a closed run. -/
import Derived.Test.YtknnaeejkmlnbaaGreatDoorKxIns2
import Derived.Test.YtknnaeejkmlnbaaGreatDoorRows
import Derived.KernelRfl
import Derived.WalkKit
namespace Go.Proofs.YtknnaeejkmlnbaaGreatDoor
open Go.Proofs.YtknnaeejkmlnbaaGreatDoor.Kx Go.RowKit Go.Lib
noncomputable def rov : Ovs := ovl [(233, ovIndexByte), (232, ovCount), (206, ovCompare)]
theorem rov_ok : OvsOk Tryz.prog rov := by
  refine ovl_ok fun p hp => ?_
  simp only [List.mem_cons, List.mem_nil_iff, or_false] at hp
  rcases hp with rfl | rfl | rfl
  · exact ovIndexByte_ok ⟨_, Tryz.func233, by kernel_rfl, by kernel_rfl, by kernel_rfl, by kernel_rfl⟩
  · exact ovCount_ok ⟨_, Tryz.func232, by kernel_rfl, by kernel_rfl, by kernel_rfl, by kernel_rfl⟩
  · exact ovCompare_ok ⟨_, Tryz.func206, by kernel_rfl, by kernel_rfl, by kernel_rfl, by kernel_rfl⟩
set_option maxRecDepth 100000 in
theorem ev_rwakes : isT (rn Tryz.prog rov 1000000 (.call 9 []) .e ⟨.e, 0⟩) = true := by kernel_rfl
theorem rwakes_any (w : World) : Calls Tryz.prog 9 #[] w fun e w' => e = .returned (.bool true) ∧ Below w.heap.size w w' :=
  run_true (Ov := rov) (args' := []) Tryz.checked.mixed rov_ok ev_rwakes .nil w
end Go.Proofs.YtknnaeejkmlnbaaGreatDoor
