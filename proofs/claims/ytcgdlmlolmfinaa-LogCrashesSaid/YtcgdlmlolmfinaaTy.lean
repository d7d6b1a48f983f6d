/- Blocks told apart by their types; rows of one's own left alone. Over any program. -/
import Derived.Test.YtcgdlmlolmfinaaRow
namespace Go.Proofs.Ytcgdlmlolmfinaa
open Go.RowKit

def Value.ownL (v : Value) : List Nat := v.ownBlock.toList
theorem mem_ownL {v : Value} {k : Nat} : k ∈ Value.ownL v ↔ v.ownBlock = some k := by simp [Value.ownL, Option.mem_toList]
theorem left_of_grown {w w' : World} {v : Value} (hg : w.grownBy w' v.ownBlock) : Left (Value.ownL v) w w' :=
  ⟨hg.os, hg.tape, hg.output, hg.size, fun k hk hn => hg.block k hk (fun e => hn (mem_ownL.2 e.symm))⟩
def Ty (w : World) (k : Nat) (t : TypeId) : Prop := ∃ cur fl, w.heap[k]? = some (.cells cur t fl)
theorem Ty.ne {w : World} {k j : Nat} {t u : TypeId} (h : Ty w k t) (h' : Ty w j u) (hn : t ≠ u) : k ≠ j := by
  obtain ⟨c, f, h⟩ := h
  obtain ⟨c', f', h'⟩ := h'
  intro e
  subst e
  rw [h] at h'
  injection h' with h'
  injection h' with _ h' _
  exact hn h'
theorem own_ty {w : World} {base size n k : Nat} {e : TypeId} {v : Value} {xs : List Value} (h : w.ownsRow base e size v n xs) (hk : v.ownBlock = some k) : Ty w k e := by
  rcases h.2 with ⟨rfl, _⟩ | ⟨g, cap, cur, rfl, hb, hg, rest⟩
  · cases hk
  · simp only [Value.ownBlock] at hk
    injection hk with hk
    subst hk
    exact ⟨_, _, hg⟩
theorem Whole.ty {w : World} {g : Nat} {t : TypeId} {cs : List Value} (h : Whole w g t cs) : Ty w g t := ⟨_, _, h⟩
theorem own_leftB {w w' : World} {base size n : Nat} {e : TypeId} {v : Value} {xs : List Value} {S : List Nat} (h : w.ownsRow base e size v n xs) (hl : Left S w w') (hS : ∀ k ∈ S, v.ownBlock ≠ some k) : w'.ownsRow base e size v n xs := by
  refine ⟨h.1, ?_⟩
  rcases h.2 with hn | ⟨g, cap, cur, rfl, hb, hgg, rest⟩
  · exact .inl hn
  · exact .inr ⟨g, cap, cur, rfl, hb, (hl.block g (h.lt g rfl).2 (fun hm => hS g hm rfl)).trans hgg, rest⟩
theorem cell_left' {w w' : World} {p : Addr} {v : Value} {S : List Nat} (h : w.cell? p = some v) (hl : Left S w w') (hp : p.block ∉ S) : w'.cell? p = some v :=
  (World.cell?_of_block (w := w) (hl.block p.block (World.block_lt_of_cell? w _ h) hp)).trans h
theorem Row.ty {w : World} {base size n k : Nat} {e : TypeId} {v : Value} {xs : List Value} (h : Row w base e size v n xs) (hk : v.ownBlock = some k) : Ty w k e := by
  rcases h.2 with ⟨rfl, _⟩ | ⟨g, off, cap, cur, rfl, hb, hg, rest⟩
  · cases hk
  · simp only [Value.ownBlock] at hk
    injection hk with hk
    subst hk
    exact ⟨_, _, hg⟩
theorem Row.rd {w : World} {base size n : Nat} {e : TypeId} {v : Value} {xs : List Value} (h : Row w base e size v n xs) : Rd w w.heap.size size v n xs := by
  refine ⟨h.1, ?_⟩
  rcases h.2 with ⟨rfl, rfl⟩ | ⟨g, off, cap, cur, rfl, hb, hg, h1, h2, _, hc⟩
  · exact ⟨none, 0, rfl, by omega, by unfold maxLen; omega, fun _ => rfl, fun hn => absurd hn (by omega)⟩
  · refine ⟨_, cap, rfl, h1, h2, (fun e => by cases e), fun _ => ⟨g, off, rfl, (Array.getElem?_eq_some_iff.1 hg).1, fun j u hu => ?_⟩⟩
    have := hc j u hu
    simp [World.cell?, hg, this]
end Go.Proofs.Ytcgdlmlolmfinaa
