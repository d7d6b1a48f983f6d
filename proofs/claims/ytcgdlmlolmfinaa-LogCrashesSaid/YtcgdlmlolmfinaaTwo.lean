/- A region that draws its order: two operations that may come up. Over any program. -/
import Derived.Test.YtcgdlmlolmfinaaOps
namespace Go.Proofs.Ytcgdlmlolmfinaa
section
variable {P : Program} {ops : Array Oper} {Q : Exit → Act → World → Prop} {md : Region.Mode} {S : World → Prop}
theorem two_h {fuel : Nat} {listed : Array Bool} {a : Act} {w : World} (i j : Nat)
    (H : ∃ o : Oper, ops[i]? = some o ∧ ∀ K' : Act → World → Prop, Shut (∀ a w, S w → (S w → wpAnyH P md ops Q S fuel (listed.setIfInBounds i true) a w) → K' a w) → if Region.wanted o (yielded ops a.tmps) = true then Oper.wp P o a w K' Q else K' (a.put o.dst undef) w)
    (H2 : ∃ o : Oper, ops[j]? = some o ∧ ∀ K' : Act → World → Prop, Shut (∀ a w, S w → (S w → wpAnyH P md ops Q S fuel (listed.setIfInBounds j true) a w) → K' a w) → if Region.wanted o (yielded ops a.tmps) = true then Oper.wp P o a w K' Q else K' (a.put o.dst undef) w) :
    AllReadyH P md ops Q S fuel listed a w [i, j] := by
  obtain ⟨o, h1, h2⟩ := H
  obtain ⟨o2, h3, h4⟩ := H2
  exact AllReadyH.cons h1 h2 (AllReadyH.cons h3 h4 AllReadyH.nil)
end
end Go.Proofs.Ytcgdlmlolmfinaa
