/- Small laws on results and on worlds, over any program. -/
import Derived.Test.YtfffehbipcikoaaRows
import Derived.WalkKit
import Derived.WalkSpells
import Derived.WalkLawsBesides
import Derived.BigQuiet
import Derived.Deep.QuietTactic
import Derived.Lib.Hide
namespace Go.Proofs.Ytfffehbipcikoaa
open Go.RowKit

theorem results_tmp4 {fn : Func} {t u v x : Tmp} (h : fn.results = #[.tmp t, .tmp u, .tmp v, .tmp x]) (tmps : Array Value) (P : Program) (w : World) :
    (results fn tmps).run P w = .ok (.tuple #[tmps.getD t undef, tmps.getD u undef, tmps.getD v undef, tmps.getD x undef]) w := by
  simp [results, h]

theorem ret_eq {R : Ending → World → Prop} {v v' : Value} {w : World} (h : v = v') (hR : R (.returned v') w) : R (.returned v) w := h ▸ hR

end Go.Proofs.Ytfffehbipcikoaa
