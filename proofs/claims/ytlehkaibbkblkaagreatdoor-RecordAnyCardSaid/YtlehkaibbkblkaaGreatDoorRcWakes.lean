/- wakes, of layer 25, run by the evaluator: a closed run. -/
import Derived.Test.YtlehkaibbkblkaaGreatDoorKxMain
import Derived.Test.YtlehkaibbkblkaaGreatDoorRows
import Derived.KernelRfl
import Derived.WalkKit
namespace Go.Proofs.YtlehkaibbkblkaaGreatDoor
open Go.Proofs.YtlehkaibbkblkaaGreatDoor.Kx Go.RowKit
noncomputable def rov : Ovs := ovl []
theorem rov_ok : OvsOk Tryz.prog rov := by
  refine ovl_ok fun p hp => ?_
  cases hp
set_option maxRecDepth 100000 in
theorem ev_rwakes : isT (rn Tryz.prog rov 1000000 (.call 11 []) .e ⟨.e, 0⟩) = true := by kernel_rfl
theorem rwakes_any (w : World) : Calls Tryz.prog 11 #[] w fun e w' => e = .returned (.bool true) ∧ Below w.heap.size w w' :=
  run_true (Ov := rov) (args' := []) Tryz.checked.mixed rov_ok ev_rwakes .nil w
end Go.Proofs.YtlehkaibbkblkaaGreatDoor
