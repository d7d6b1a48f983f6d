/- NicFull: its code, in parts. -/
import Derived.Test.YtfffehbipcikoaaKxNicSt1
import Derived.Test.YtfffehbipcikoaaKxKit
import Derived.Test.YtfffehbipcikoaaChecked
namespace Go.Proofs.Ytfffehbipcikoaa.nicFull
open Go.Proofs.Ytfffehbipcikoaa.Kx
noncomputable def bd : Code := (Try.f13.body).getD .skip
noncomputable def m3 : Code := sR (sR (sR bd))
noncomputable def m4 : Code := sR m3
noncomputable def m5 : Code := sR m4
noncomputable def m6 : Code := sR m5
noncomputable def m7 : Code := sR m6
noncomputable def l3 : Code := sL (sL (sR (sL m3)))
noncomputable def l4 : Code := sL (sL (sR (sL m4)))
noncomputable def l5 : Code := sL (sL (sR (sL m5)))
noncomputable def l6 : Code := sL (sL (sR (sL m6)))
end Go.Proofs.Ytfffehbipcikoaa.nicFull
