/- How much a broker is. -/


import Derived.Test.YtlehkaibbkblkaaGreatDoorRcHv
namespace Go.Proofs.YtlehkaibbkblkaaGreatDoor
open Go.RowKit
/-- Nothing of a session is more than n. -/
structure SW (n : Nat) (y : Se) : Prop where
  c : y.c.size ≤ n
  i : y.I.length ≤ n
  s : y.S.length ≤ n ∧ ∀ x ∈ y.S, x.f.size ≤ n
  q : y.o.Q.length ≤ n ∧ ∀ x ∈ y.o.Q, x.t.size ≤ n ∧ x.p.size ≤ n
  f : y.o.F.length ≤ n ∧ ∀ x ∈ y.o.F, x.m.t.size ≤ n ∧ x.m.p.size ≤ n
  w : y.wl.t.size ≤ n ∧ y.wl.p.size ≤ n
theorem SW.mono {n m : Nat} {s : Se} (h : SW n s) (hm : n ≤ m) : SW m s :=
  ⟨by have := h.c; omega, by have := h.i; omega, ⟨by have := h.s.1; omega, fun x hx => by have := h.s.2 x hx; omega⟩, ⟨by have := h.q.1; omega, fun x hx => by have := h.q.2 x hx; omega⟩, ⟨by have := h.f.1; omega, fun x hx => by have := h.f.2 x hx; omega⟩, by have := h.w; omega⟩
/-- Nothing of a broker is more than n. -/
structure BW (n : Nat) (b : Br) : Prop where
  l : b.L.length ≤ n
  s : b.S.length ≤ n ∧ ∀ s ∈ b.S, SW n s
  k : b.K.length ≤ n ∧ ∀ m ∈ b.K, m.t.size ≤ n ∧ m.p.size ≤ n
end Go.Proofs.YtlehkaibbkblkaaGreatDoor
