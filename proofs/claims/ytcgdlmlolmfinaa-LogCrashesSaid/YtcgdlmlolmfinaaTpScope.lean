/- A scope in which the run jumps to several labels, one of which it also comes to by falling through. Over any program. (After the library's law for one label, Derived/ScopeJumps.) -/
import Derived.Test.YtcgdlmlolmfinaaScope
namespace Go.Proofs.Ytcgdlmlolmfinaa
section
variable {P : Program} {a : Act} {w : World} {Q : Exit → Act → World → Prop}
theorem wp_skip_seq {c : Code} (h : c.wp P Q a w) : (Code.skip.seq c).wp P Q a w := wp_seq (wp_skip (by simpa [Exit.then] using h))
theorem wp_scope_falls {c rest0 : Code} (l0 : Nat) (J : Nat → Act → World → Prop) (μ : Nat → Act → World → Nat) (hf : findLabel c l0 = some (Code.skip.seq rest0))
    (pass : ∀ l a w, J l a w → ∃ rest, findLabel c l = some (Code.skip.seq rest) ∧ rest.wp P (exitJumps (fun l' a' w' => J l' a' w' ∧ μ l' a' w' < μ l a w) Q) a w)
    (first : (∀ a w, J l0 a w → rest0.wp P (exitJumps J Q) a w) → c.wp P (exitJumps J Q) a w) : (Code.scope c).wp P Q a w := by
  refine wp_scope_labels J μ (first fun a w hJ => ?_) (fun l a w hJ => ?_)
  · obtain ⟨rest, hr, hw⟩ := pass l0 a w hJ
    have h1 := Option.some.inj (hr.symm.trans hf)
    injection h1 with _ h1
    subst h1
    exact wp_mono hw fun e a w h => by
      cases e with
      | goto l => exact h.1
      | _ => exact h
  · obtain ⟨rest, hr, hw⟩ := pass l a w hJ
    exact ⟨_, hr, wp_skip_seq hw⟩
/-- As above; what the label leads to is told where it is wanted. -/
theorem wp_scope_falls2 {c : Code} (l0 : Nat) (J : Nat → Act → World → Prop) (μ : Nat → Act → World → Nat)
    (pass : ∀ l a w, J l a w → ∃ rest, findLabel c l = some (Code.skip.seq rest) ∧ rest.wp P (exitJumps (fun l' a' w' => J l' a' w' ∧ μ l' a' w' < μ l a w) Q) a w)
    (first : (∀ rest0 a w, findLabel c l0 = some (Code.skip.seq rest0) → J l0 a w → rest0.wp P (exitJumps J Q) a w) → c.wp P (exitJumps J Q) a w) : (Code.scope c).wp P Q a w := by
  refine wp_scope_labels J μ (first fun rest0 a w hf hJ => ?_) (fun l a w hJ => ?_)
  · obtain ⟨rest, hr, hw⟩ := pass l0 a w hJ
    have h1 := Option.some.inj (hr.symm.trans hf)
    injection h1 with _ h1
    subst h1
    exact wp_mono hw fun e a w h => by
      cases e with
      | goto l => exact h.1
      | _ => exact h
  · obtain ⟨rest, hr, hw⟩ := pass l a w hJ
    exact ⟨_, hr, wp_skip_seq hw⟩
end
end Go.Proofs.Ytcgdlmlolmfinaa
