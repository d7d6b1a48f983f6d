/- Steps through a region whose order is drawn, the operations given by their numbers. Over any program. (After the library's laws wpAnyH_take, AllReadyH.cons.) -/
import Derived.Test.YtcgdlmlolmfinaaKit
import Derived.Deep.RegionHeld3
namespace Go.Proofs.Ytcgdlmlolmfinaa
section
variable {P : Program} {ops : Array Oper} {Q : Exit → Act → World → Prop} {md : Region.Mode} {S : World → Prop}
theorem take_h {fuel : Nat} {listed : Array Bool} {a : Act} {w : World} (i : Nat)
    (H : ∃ (oi : Oper) (v : Value), ops[i]? = some oi ∧ Region.noSelect ops = true ∧ Region.free md ops listed i = true ∧ (Region.ready md ops listed).contains i = true ∧
      (∀ c a w, Q (.panic c) (a.put oi.dst v) w → Q (.panic c) a w) ∧ YieldsIf P ops S oi v a ∧ S w ∧ wpAnyH P md ops Q S fuel (listed.setIfInBounds i true) (a.put oi.dst v) w) : wpAnyH P md ops Q S (fuel + 1) listed a w := by
  obtain ⟨oi, v, h1, h2, h3, h4, h5, h6, h7, h8⟩ := H
  exact wpAnyH_take h1 h2 h3 h4 h5 h6 h7 h8
theorem call_h {fuel : Nat} {listed : Array Bool} {a : Act} {w : World} (i : Nat)
    (H : ∃ o : Oper, ops[i]? = some o ∧ ∀ K' : Act → World → Prop, Shut (∀ a w, S w → (S w → wpAnyH P md ops Q S fuel (listed.setIfInBounds i true) a w) → K' a w) → if Region.wanted o (yielded ops a.tmps) = true then Oper.wp P o a w K' Q else K' (a.put o.dst undef) w) :
    AllReadyH P md ops Q S fuel listed a w [i] := by
  obtain ⟨o, h1, h2⟩ := H
  exact AllReadyH.cons h1 h2 AllReadyH.nil
end
end Go.Proofs.Ytcgdlmlolmfinaa
