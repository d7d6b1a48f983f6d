/- Small laws on results and on worlds, over any program: blocks that are known whole, what a call leaves alone. -/
import Derived.Test.YtcgdlmlolmfinaaRows
import Derived.WalkKit
import Derived.WalkSpells
import Derived.WalkLawsBesides
import Derived.BigQuiet
import Derived.Deep.QuietTactic
import Derived.Lib.Hide
import Derived.Deep.LoopGhost
import Derived.Laws.CopyOwn
namespace Go.Proofs.Ytcgdlmlolmfinaa
open Go.RowKit

theorem results_tmp4 {fn : Func} {t u v x : Tmp} (h : fn.results = #[.tmp t, .tmp u, .tmp v, .tmp x]) (tmps : Array Value) (P : Program) (w : World) :
    (results fn tmps).run P w = .ok (.tuple #[tmps.getD t undef, tmps.getD u undef, tmps.getD v undef, tmps.getD x undef]) w := by
  simp [results, h]

theorem ret_eq {R : Ending → World → Prop} {v v' : Value} {w : World} (h : v = v') (hR : R (.returned v') w) : R (.returned v) w := h ▸ hR

/-- Block g holds just the cells cs, of element type t; none is frozen. -/
def Whole (w : World) (g : Nat) (t : TypeId) (cs : List Value) : Prop := w.heap[g]? = some (.cells cs.toArray t (0, 0))

section
variable {w w' : World} {g : Nat} {t : TypeId} {cs : List Value}
theorem Whole.lt (h : Whole w g t cs) : g < w.heap.size := by
  rcases Nat.lt_or_ge g w.heap.size with hl | hl
  · exact hl
  · exact absurd h (by unfold Whole; rw [Array.getElem?_eq_none hl]; exact fun e => by cases e)
theorem Whole.cell (h : Whole w g t cs) (i : Nat) : w.cell? ⟨g, i, none⟩ = cs[i]? := by
  unfold Whole at h
  simp [World.cell?, h]
theorem Whole.free (h : Whole w g t cs) (i : Nat) : w.frozen? ⟨g, i, none⟩ = false := by
  unfold Whole at h
  simp [World.frozen?, h]
theorem Whole.put (h : Whole w g t cs) (i : Nat) (u : Value) : Whole (w.setCell ⟨g, i, none⟩ u) g t (cs.set i u) := by
  unfold Whole at h ⊢
  simp [World.setCell, Array.getElem?_modify, h]
theorem Whole.other (h : Whole w g t cs) {p : Addr} (hp : g ≠ p.block) (u : Value) : Whole (w.setCell p u) g t cs := (Below.heap_setCell w p u g hp).trans h
theorem Whole.alloc (h : Whole w g t cs) (o : Obj) : Whole (w.alloc o) g t cs := (Below.heap_alloc w o g h.lt).trans h
theorem Whole.new (w : World) (t : TypeId) (cs : List Value) : Whole (w.alloc (.cells cs.toArray t)) w.heap.size t cs := heap_alloc_new w _
theorem Whole.drew (h : Whole w g t cs) : Whole w.drew g t cs := h
theorem Whole.drewN (h : Whole w g t cs) (n : Nat) : Whole (w.drewN n) g t cs := h
theorem Whole.ne {g' : Nat} {t' : TypeId} {cs' : List Value} (h : Whole w g t cs) (h' : Whole w g' t' cs') (hn : t ≠ t') : g ≠ g' := by
  intro e
  subst e
  have := h.symm.trans h'
  injection this with this
  injection this with _ this
  exact hn this
end

/-- What a call that writes the blocks S alone leaves: every other block that was there, the streams. -/
structure Left (S : List Nat) (w w' : World) : Prop where
  os : w'.os = w.os
  tape : w'.tape = w.tape
  output : w'.output = w.output
  size : w.heap.size ≤ w'.heap.size
  block : ∀ k, k < w.heap.size → k ∉ S → w'.heap[k]? = w.heap[k]?

section
variable {S T : List Nat} {w w' w'' : World} {g : Nat} {t : TypeId} {cs : List Value}
theorem Left.refl (S : List Nat) (w : World) : Left S w w := ⟨rfl, rfl, rfl, Nat.le_refl _, fun _ _ _ => rfl⟩
theorem Left.of_below (h : Below w.heap.size w w') (S : List Nat) : Left S w w' := ⟨h.os, h.tape, h.output, h.size, fun k hk _ => h.block k hk⟩
theorem Left.below (h : Left [] w w') : Below w.heap.size w w' := ⟨h.os, h.tape, h.output, h.size, fun k hk => h.block k hk (by simp)⟩
theorem Left.belowB {B : Nat} (h : Left S w w') (hB : B ≤ w.heap.size) (hS : ∀ k ∈ S, B ≤ k) : Below B w w' :=
  ⟨h.os, h.tape, h.output, h.size, fun k hk => h.block k (by omega) (fun hm => by have := hS k hm; omega)⟩
theorem Left.trans (h : Left S w w') (h' : Left T w' w'') (hT : ∀ k ∈ T, k ∈ S ∨ w.heap.size ≤ k) : Left S w w'' :=
  ⟨h'.os.trans h.os, h'.tape.trans h.tape, h'.output.trans h.output, Nat.le_trans h.size h'.size, fun k hk hn =>
    (h'.block k (Nat.lt_of_lt_of_le hk h.size) (fun hm => by rcases hT k hm with h1 | h1; exact hn h1; omega)).trans (h.block k hk hn)⟩
theorem Left.mono (h : Left S w w') (hS : ∀ k ∈ S, k ∈ T) : Left T w w' := ⟨h.os, h.tape, h.output, h.size, fun k hk hn => h.block k hk (fun hm => hn (hS k hm))⟩
theorem Left.alloc (h : Left S w w') (o : Obj) : Left S w (w'.alloc o) :=
  h.trans (T := []) ⟨rfl, rfl, rfl, by simp, fun k hk _ => Below.heap_alloc _ _ _ hk⟩ (by simp)
theorem Left.setCell (h : Left S w w') {p : Addr} (hp : p.block ∈ S ∨ w.heap.size ≤ p.block) (u : Value) : Left S w (w'.setCell p u) :=
  h.trans (T := [p.block]) ⟨rfl, rfl, rfl, by simp [World.setCell], fun k _ hn => Below.heap_setCell _ _ _ _ (fun e => hn (by simp [e]))⟩ (by simpa using hp)
theorem Left.drew (h : Left S w w') : Left S w w'.drew := ⟨h.os, h.tape, h.output, h.size, h.block⟩
theorem Left.drewN (h : Left S w w') (n : Nat) : Left S w (w'.drewN n) := h.trans (T := []) ⟨rfl, rfl, rfl, Nat.le_refl _, fun _ _ _ => rfl⟩ (by simp)
theorem Left.of_drew (h : Left S w.drew w') : Left S w w' := ⟨h.os, h.tape, h.output, h.size, h.block⟩
theorem Whole.left (h : Whole w g t cs) (hl : Left S w w') (hn : g ∉ S) : Whole w' g t cs := (hl.block g h.lt hn).trans h
theorem Whole.below (h : Whole w g t cs) {B : Nat} (hb : Below B w w') (hg : g < B) : Whole w' g t cs := (hb.block g hg).trans h
theorem Whole.belowH (h : Whole w g t cs) (hb : Below w.heap.size w w') : Whole w' g t cs := h.below hb h.lt
end

/-- Bytes as cells. -/
def u8s (B : List UInt8) : List Value := B.map fun b => .int .u8 b.toNat
@[simp] theorem u8s_length (B : List UInt8) : (u8s B).length = B.length := by simp [u8s]
theorem u8s_at (B : List UInt8) (i : Nat) (h : i < B.length) : (u8s B)[i]? = some (.int .u8 (B[i].toNat : Int)) := by simp [u8s, h]
theorem u8s_getD (B : List UInt8) (i : Nat) (h : i < B.length) : (u8s B)[i]? = some (.int .u8 ((B.getD i 0).toNat : Int)) := by simp [u8s, h]
theorem u8s_set (B : List UInt8) (i : Nat) (b : UInt8) : (u8s B).set i (.int .u8 (b.toNat : Int)) = u8s (B.set i b) := by simp [u8s, List.map_set]

end Go.Proofs.Ytcgdlmlolmfinaa
