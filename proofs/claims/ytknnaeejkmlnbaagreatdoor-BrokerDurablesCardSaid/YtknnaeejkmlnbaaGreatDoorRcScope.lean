/- A scope with several labels, to which the run jumps or falls through, from wherever it is. Over any program. -/
import Derived.Test.YtknnaeejkmlnbaaGreatDoorGb
namespace Go.Proofs.YtknnaeejkmlnbaaGreatDoor
section
variable {P : Program} {a : Act} {w : World} {Q : Exit → Act → World → Prop}
theorem wp_scope_falls3 {c : Code} (l0 : Nat) (J : Nat → Act → World → Prop) (μ : Nat → Act → World → Nat)
    (pass : ∀ l a w, J l a w → (∀ l' rest' a' w', findLabel c l' = some (Code.skip.seq rest') → J l' a' w' → μ l' a' w' < μ l a w → rest'.wp P (exitJumps (fun l'' a'' w'' => J l'' a'' w'' ∧ μ l'' a'' w'' < μ l a w) Q) a' w') →
      ∃ rest, findLabel c l = some (Code.skip.seq rest) ∧ rest.wp P (exitJumps (fun l' a' w' => J l' a' w' ∧ μ l' a' w' < μ l a w) Q) a w)
    (first : (∀ rest0 a w, findLabel c l0 = some (Code.skip.seq rest0) → J l0 a w → rest0.wp P (exitJumps J Q) a w) → c.wp P (exitJumps J Q) a w) : (Code.scope c).wp P Q a w := by
  have key : ∀ n l a w, μ l a w = n → J l a w → ∃ rest, findLabel c l = some (Code.skip.seq rest) ∧ rest.wp P (exitJumps (fun l' a' w' => J l' a' w' ∧ μ l' a' w' < μ l a w) Q) a w := by
    intro n
    induction n using Nat.strongRecOn with
    | _ n ih =>
      intro l a w hn hJ
      refine pass l a w hJ (fun l' rest' a' w' hf hJ' hlt => ?_)
      obtain ⟨r, hr, hw⟩ := ih _ (by omega) l' a' w' rfl hJ'
      have h1 := Option.some.inj (hr.symm.trans hf)
      injection h1 with _ h1
      subst h1
      exact wp_mono hw fun e a w h => by
        cases e with
        | goto l => exact ⟨h.1, by have := h.2; omega⟩
        | _ => exact h
  exact wp_scope_falls2 l0 J μ (fun l a w hJ => key _ l a w rfl hJ) first
end
end Go.Proofs.YtknnaeejkmlnbaaGreatDoor
