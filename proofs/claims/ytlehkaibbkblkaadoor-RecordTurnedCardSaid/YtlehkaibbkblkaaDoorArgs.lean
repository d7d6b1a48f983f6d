/- Arguments opened to cells: slices of structs of one-cell fields, slices of bytes; lists out of 'for every index there is one'. Over any program. -/
import Derived.Test.YtlehkaibbkblkaaDoorGa
import Derived.Test.YtlehkaibbkblkaaDoorRowKit
import Derived.Deep.Slices
import Derived.Deep.Fields
import Derived.Lib.SmallJoins
namespace Go.Proofs.YtlehkaibbkblkaaDoor
open Go.ChangeShapes Go.WideShapes Go.Deep Go.RowKit

theorem list_of_all {α : Type} {P : Nat → α → Prop} (n : Nat) (h : ∀ i, i < n → ∃ x, P i x) : ∃ l : List α, l.length = n ∧ ∀ i x, l[i]? = some x → P i x := by
  induction n with
  | zero => exact ⟨[], rfl, fun i x hx => by simp at hx⟩
  | succ n ih =>
    obtain ⟨l, hl, hp⟩ := ih (fun i hi => h i (by omega))
    obtain ⟨y, hy⟩ := h n (by omega)
    refine ⟨l ++ [y], by simp [hl], fun i x hx => ?_⟩
    by_cases hi : i < n
    · rw [List.getElem?_append_left (by omega)] at hx
      exact hp i x hx
    · have hlt : i < (l ++ [y]).length := (List.getElem?_eq_some_iff.1 hx).1
      have he : i = n := by simp at hlt; omega
      subst he
      rw [List.getElem?_append_right (by omega), hl, Nat.sub_self] at hx
      simp at hx
      exact hx ▸ hy

section
variable {H : Type} {enc : TypeId × Value → H} {P : Program} {w : World} {spare : Nat → Bool} {held : Bool}

end
end Go.Proofs.YtlehkaibbkblkaaDoor
