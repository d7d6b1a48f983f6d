/- Small laws on results and on worlds, over any program: blocks that are known whole, what a call leaves alone. Slices that read as lists of cells; append onto a slice of the call's own from whatever is read. Over any program. Slices of our own that begin inside their block: read, cut at the front, appended onto. Over any program. Blocks told apart by their types; rows of one's own left alone. Over any program. Rows of things of any kind: how a list of them lies in memory. Plain law: an outbox: messages on their way, messages that wait; filling it. Wishes: how a list of them lies in memory. Plain: a broker that lasts, and its bytes. Steps through a region whose order is drawn, the operations given by their numbers. Over any program. (After the library's laws wpAnyH_take, AllReadyH.cons.) Single operations of a region that draws its order: an append; two that may come up. Over any program. Rows of bytes of one's own; what leaves all but rows of bytes. How a broker lies in memory. Names and filters as lists of bytes: levels, what a filter is, what it matches. Plain Lean; no program in sight. Structs held against each other. -/
import Derived.Test.YtknnaeejkmlnbaaGreatDoorRows
import Derived.WalkKit
import Derived.WalkSpells
import Derived.WalkLawsBesides
import Derived.BigQuiet
import Derived.Deep.QuietTactic
import Derived.Lib.Hide
import Derived.Deep.LoopGhost
import Derived.Laws.CopyOwn
import Derived.Maps.AppendAt
import Derived.OwnWalk
import Derived.Deep.OwnRows
import Derived.Deep.AppendSrc
import Derived.Deep.Upon
import Derived.Deep.MidRow
import Derived.Deep.RegionHeld3
import Derived.ProofKit
import Derived.Handy
import Derived.Deep.DeepCutAuto
import Derived.Lib.AppendStr
namespace Go.Proofs.YtknnaeejkmlnbaaGreatDoor
open Go.RowKit

/-- Block g holds just the cells cs, of element type t; none is frozen. -/
def Whole (w : World) (g : Nat) (t : TypeId) (cs : List Value) : Prop := w.heap[g]? = some (.cells cs.toArray t (0, 0))

section
variable {w w' : World} {g : Nat} {t : TypeId} {cs : List Value}
theorem Whole.lt (h : Whole w g t cs) : g < w.heap.size := by
  rcases Nat.lt_or_ge g w.heap.size with hl | hl
  · exact hl
  · exact absurd h (by unfold Whole; rw [Array.getElem?_eq_none hl]; exact fun e => by cases e)
theorem Whole.cell (h : Whole w g t cs) (i : Nat) : w.cell? ⟨g, i, none⟩ = cs[i]? := by
  unfold Whole at h
  simp [World.cell?, h]
theorem Whole.free (h : Whole w g t cs) (i : Nat) : w.frozen? ⟨g, i, none⟩ = false := by
  unfold Whole at h
  simp [World.frozen?, h]
theorem Whole.put (h : Whole w g t cs) (i : Nat) (u : Value) : Whole (w.setCell ⟨g, i, none⟩ u) g t (cs.set i u) := by
  unfold Whole at h ⊢
  simp [World.setCell, Array.getElem?_modify, h]
theorem Whole.other (h : Whole w g t cs) {p : Addr} (hp : g ≠ p.block) (u : Value) : Whole (w.setCell p u) g t cs := (Below.heap_setCell w p u g hp).trans h
theorem Whole.alloc (h : Whole w g t cs) (o : Obj) : Whole (w.alloc o) g t cs := (Below.heap_alloc w o g h.lt).trans h
theorem Whole.new (w : World) (t : TypeId) (cs : List Value) : Whole (w.alloc (.cells cs.toArray t)) w.heap.size t cs := heap_alloc_new w _
theorem Whole.drew (h : Whole w g t cs) : Whole w.drew g t cs := h
theorem Whole.drewN (h : Whole w g t cs) (n : Nat) : Whole (w.drewN n) g t cs := h
theorem Whole.ne {g' : Nat} {t' : TypeId} {cs' : List Value} (h : Whole w g t cs) (h' : Whole w g' t' cs') (hn : t ≠ t') : g ≠ g' := by
  intro e
  subst e
  have := h.symm.trans h'
  injection this with this
  injection this with _ this
  exact hn this
end

/-- What a call that writes the blocks S alone leaves: every other block that was there, the streams. -/
structure Left (S : List Nat) (w w' : World) : Prop where
  os : w'.os = w.os
  tape : w'.tape = w.tape
  output : w'.output = w.output
  size : w.heap.size ≤ w'.heap.size
  block : ∀ k, k < w.heap.size → k ∉ S → w'.heap[k]? = w.heap[k]?

section
variable {S T : List Nat} {w w' w'' : World} {g : Nat} {t : TypeId} {cs : List Value}
theorem Left.refl (S : List Nat) (w : World) : Left S w w := ⟨rfl, rfl, rfl, Nat.le_refl _, fun _ _ _ => rfl⟩
theorem Left.of_below (h : Below w.heap.size w w') (S : List Nat) : Left S w w' := ⟨h.os, h.tape, h.output, h.size, fun k hk _ => h.block k hk⟩
theorem Left.below (h : Left [] w w') : Below w.heap.size w w' := ⟨h.os, h.tape, h.output, h.size, fun k hk => h.block k hk (by simp)⟩
theorem Left.belowB {B : Nat} (h : Left S w w') (hB : B ≤ w.heap.size) (hS : ∀ k ∈ S, B ≤ k) : Below B w w' :=
  ⟨h.os, h.tape, h.output, h.size, fun k hk => h.block k (by omega) (fun hm => by have := hS k hm; omega)⟩
theorem Left.trans (h : Left S w w') (h' : Left T w' w'') (hT : ∀ k ∈ T, k ∈ S ∨ w.heap.size ≤ k) : Left S w w'' :=
  ⟨h'.os.trans h.os, h'.tape.trans h.tape, h'.output.trans h.output, Nat.le_trans h.size h'.size, fun k hk hn =>
    (h'.block k (Nat.lt_of_lt_of_le hk h.size) (fun hm => by rcases hT k hm with h1 | h1; exact hn h1; omega)).trans (h.block k hk hn)⟩
theorem Left.mono (h : Left S w w') (hS : ∀ k ∈ S, k ∈ T) : Left T w w' := ⟨h.os, h.tape, h.output, h.size, fun k hk hn => h.block k hk (fun hm => hn (hS k hm))⟩
theorem Left.alloc (h : Left S w w') (o : Obj) : Left S w (w'.alloc o) :=
  h.trans (T := []) ⟨rfl, rfl, rfl, by simp, fun k hk _ => Below.heap_alloc _ _ _ hk⟩ (by simp)
theorem Left.setCell (h : Left S w w') {p : Addr} (hp : p.block ∈ S ∨ w.heap.size ≤ p.block) (u : Value) : Left S w (w'.setCell p u) :=
  h.trans (T := [p.block]) ⟨rfl, rfl, rfl, by simp [World.setCell], fun k _ hn => Below.heap_setCell _ _ _ _ (fun e => hn (by simp [e]))⟩ (by simpa using hp)
theorem Left.drew (h : Left S w w') : Left S w w'.drew := ⟨h.os, h.tape, h.output, h.size, h.block⟩
theorem Left.drewN (h : Left S w w') (n : Nat) : Left S w (w'.drewN n) := h.trans (T := []) ⟨rfl, rfl, rfl, Nat.le_refl _, fun _ _ _ => rfl⟩ (by simp)
theorem Whole.left (h : Whole w g t cs) (hl : Left S w w') (hn : g ∉ S) : Whole w' g t cs := (hl.block g h.lt hn).trans h
theorem Whole.below (h : Whole w g t cs) {B : Nat} (hb : Below B w w') (hg : g < B) : Whole w' g t cs := (hb.block g hg).trans h
theorem Whole.belowH (h : Whole w g t cs) (hb : Below w.heap.size w w') : Whole w' g t cs := h.below hb h.lt
end

/-- Bytes as cells. -/
def u8s (B : List UInt8) : List Value := B.map fun b => .int .u8 b.toNat
@[simp] theorem u8s_length (B : List UInt8) : (u8s B).length = B.length := by simp [u8s]
end Go.Proofs.YtknnaeejkmlnbaaGreatDoor
namespace Go.Proofs.YtknnaeejkmlnbaaGreatDoor
open Go.RowKit

theorem add_flat (b o k : Nat) : (⟨b, o, none⟩ : Addr).add k = ⟨b, o + k, none⟩ := by
  unfold Addr.add
  split
  · simp_all
  · rfl

/-- The slice value v, of n elements of so many cells each, reads as the cells xs, in a block below Bd (nil and empty let in). -/
def Rd (w : World) (Bd size : Nat) (v : Value) (n : Nat) (xs : List Value) : Prop :=
  xs.length = n * size ∧ ∃ ao cap, v = .slice ao n cap ∧ n ≤ cap ∧ cap ≤ maxLen ∧ (ao = none → cap = 0) ∧
    (0 < n → ∃ b o, ao = some ⟨b, o, none⟩ ∧ b < Bd ∧ ∀ j u, xs[j]? = some u → w.cell? ⟨b, o + j, none⟩ = some u)

section
variable {w w' : World} {Bd B' size n : Nat} {v : Value} {xs : List Value}
theorem Rd.keep (h : Rd w Bd size v n xs) (hk : ∀ p : Addr, p.block < Bd → w'.cell? p = w.cell? p) : Rd w' Bd size v n xs := by
  obtain ⟨h1, ao, cap, h2, h3, h4, h5, h6⟩ := h
  exact ⟨h1, ao, cap, h2, h3, h4, h5, fun hn => by
    obtain ⟨b, o, e, hb, hc⟩ := h6 hn
    exact ⟨b, o, e, hb, fun j u hu => (hk _ hb).trans (hc j u hu)⟩⟩
theorem Rd.more (h : Rd w Bd size v n xs) (hB : Bd ≤ B') : Rd w B' size v n xs := by
  obtain ⟨h1, ao, cap, h2, h3, h4, h5, h6⟩ := h
  exact ⟨h1, ao, cap, h2, h3, h4, h5, fun hn => by
    obtain ⟨b, o, e, hb, hc⟩ := h6 hn
    exact ⟨b, o, e, by omega, hc⟩⟩
theorem Rd.below (h : Rd w Bd size v n xs) (hb : Below Bd w w') : Rd w' Bd size v n xs := h.keep fun _ hp => hb.cell hp
theorem Rd.belowH (h : Rd w Bd size v n xs) (hb : Below w.heap.size w w') (hB : Bd ≤ w.heap.size) : Rd w' Bd size v n xs := h.below (hb.mono hB)
theorem Rd.nil_ (w : World) (Bd size : Nat) : Rd w Bd size (.slice none 0 0) 0 [] := ⟨by simp, none, 0, rfl, by omega, by unfold maxLen; omega, fun _ => rfl, fun h => absurd h (by omega)⟩
theorem Rd.form (h : Rd w Bd size v n xs) : ∃ ao cap, v = .slice ao n cap ∧ n ≤ cap ∧ cap ≤ maxLen := by
  obtain ⟨h1, ao, cap, h2, h3, h4, h5, h6⟩ := h
  exact ⟨ao, cap, h2, h3, h4⟩
theorem Rd.of_own {base : Nat} {e : TypeId} (h : w.ownsRow base e size v n xs) : Rd w w.heap.size size v n xs := by
  refine ⟨h.1, ?_⟩
  rcases h.2 with ⟨rfl, rfl⟩ | ⟨g, cap, cur, rfl, _, hg, hn, hc, hs, ht⟩
  · exact ⟨none, 0, rfl, by omega, by unfold maxLen; omega, fun _ => rfl, fun h => absurd h (by omega)⟩
  · refine ⟨_, cap, rfl, hn, hc, (fun e => by cases e), fun _ => ⟨g, 0, rfl, ?_, fun j u hu => ?_⟩⟩
    · exact (h.lt g rfl).2
    · have := h.cells (g := g) rfl j u hu
      rwa [add_flat] at this
theorem Rd.of_whole {g : Nat} {t : TypeId} (h : Whole w g t xs) (hn : xs.length ≤ maxLen) : Rd w w.heap.size 1 (.slice (some ⟨g, 0, none⟩) xs.length xs.length) xs.length xs :=
  ⟨by omega, _, _, rfl, Nat.le_refl _, hn, (fun e => by cases e), fun _ => ⟨g, 0, rfl, h.lt, fun j u hu => by rw [Nat.zero_add, h.cell]; exact hu⟩⟩
/-- One cell of it. -/
theorem Rd.at_ {ao : Option Addr} {cap k : Nat} (h : Rd w Bd size (.slice ao n cap) n xs) (hk : k < n * size) : ∃ b o u, ao = some ⟨b, o, none⟩ ∧ b < Bd ∧ xs[k]? = some u ∧ w.cell? ⟨b, o + k, none⟩ = some u := by
  obtain ⟨h1, ao', cap', h2, h3, h4, h5, h6⟩ := h
  injection h2 with e1 e2 e3
  subst e1
  obtain ⟨b, o, e, hb, hc⟩ := h6 (by rcases Nat.eq_zero_or_pos n with h0 | h0; subst h0; omega; exact h0)
  have hl : k < xs.length := by omega
  exact ⟨b, o, xs[k], e, hb, List.getElem?_eq_getElem hl, hc k _ (List.getElem?_eq_getElem hl)⟩
end

section
variable {P : Program} (w : World)
theorem run_app_none (base : Nat) (t ty e : TypeId) (i : TypeInfo) (size : Nat) (ht : P.underlying t = some (.slice e)) (hi : P.info? e = some i)
    (v : Value) (n : Nat) (xs : List Value) (hown : w.ownsRow base e size v n xs) : (Builtin.append_ #[t, t] ty #[v, .slice none 0 0]).run P w = .ok v w :=
  run_append_owned_none (P := P) (w := w) base t ty e i size ht hi v n xs hown

theorem run_app (base : Nat) (t ty e : TypeId) (z : Value) (size bytes : Nat) (ht : P.underlying t = some (.slice e)) (hi : (P.info? e).map (fun i => (i.zero, i.size, i.bytes)) = some (some z, size, bytes))
    (hzs : z.cells.size = size) (hsz : 0 < size)
    (v : Value) (n : Nat) (xs : List Value) (hown : w.ownsRow base e size v n xs)
    (Bd : Nat) (x : Value) (m : Nat) (news : List Value) (hr : Rd w Bd size x m news) (h1 : ∀ u ∈ news, u.oneCell' = true)
    (h63 : n + m ≤ maxLen) (hbytes : (n + m) * bytes ≤ 140737488355328) (hbase : base ≤ w.heap.size) :
    ∃ v' w', (Builtin.append_ #[t, t] ty #[v, x]).run P w = .ok v' w' ∧ w'.ownsRow base e size v' (n + m) (xs ++ news) ∧ w.grownBy w' v.ownBlock ∧
      (v'.ownBlock = v.ownBlock ∨ v'.ownBlock = some w.heap.size) := by
  obtain ⟨i, hi, hz, hs, hby⟩ := info_parts hi
  obtain ⟨hl, ao, cap, rfl, h3, h4, h5, h6⟩ := hr
  rcases ao with _ | ad
  · have hc := h5 rfl
    subst hc
    have hm : m = 0 := by omega
    subst hm
    have hn : news = [] := List.eq_nil_of_length_eq_zero (by omega)
    subst hn
    exact ⟨v, w, run_app_none w base t ty e i size ht hi v n xs hown, by simpa using hown, World.grownBy.refl w _, .inl rfl⟩
  · have hcells : ∀ j u, news[j]? = some u → w.cell? (ad.add j) = some u := by
      intro j u hu
      rcases Nat.eq_zero_or_pos m with h0 | h0
      · subst h0
        have hn : news = [] := List.eq_nil_of_length_eq_zero (by omega)
        subst hn
        simp at hu
      · obtain ⟨b, o, e', _, hc⟩ := h6 h0
        injection e' with e'
        subst e'
        rw [add_flat]
        exact hc j u hu
    obtain ⟨v', w', hrun, h2, h3', _, h5'⟩ := run_append_own_at (P := P) w base t ty e i z size bytes ht hi hz hs hby hzs hsz v n xs hown ad m cap news hl hcells h1 h63 hbytes hbase
    exact ⟨v', w', hrun, h2, h3', h5'⟩

theorem wpList_app {ops : Array Oper} {rest : List Oper} {o : Oper} {a : Act} {Q : Exit → Act → World → Prop} (hgd : o.guard = none) (s x : Operand) (t : TypeId)
    (ho : o.op = .call { callee := .builtin .append, args := #[s, x], argTypes := #[t, t] })
    (base : Nat) (e : TypeId) (z : Value) (size bytes : Nat) (ht : P.underlying t = some (.slice e)) (hi : (P.info? e).map (fun i => (i.zero, i.size, i.bytes)) = some (some z, size, bytes))
    (hzs : z.cells.size = size) (hsz : 0 < size)
    (v : Value) (n : Nat) (xs : List Value) (hs : a.eval s = v) (hown : w.ownsRow base e size v n xs)
    (Bd : Nat) (xv : Value) (m : Nat) (news : List Value) (hx : a.eval x = xv) (hr : Rd w Bd size xv m news) (h1 : ∀ u ∈ news, u.oneCell' = true)
    (h63 : n + m ≤ maxLen) (hbytes : (n + m) * bytes ≤ 140737488355328) (hbase : base ≤ w.heap.size)
    (h : ∀ v' w', w'.ownsRow base e size v' (n + m) (xs ++ news) → w.grownBy w' v.ownBlock → (v'.ownBlock = v.ownBlock ∨ v'.ownBlock = some w.heap.size) → wpList P ops Q rest (a.put o.dst v') w') : wpList P ops Q (o :: rest) a w := by
  refine wpList_plain hgd fun K hK => ?_
  obtain ⟨v', w', hrun, h2, h3, h4⟩ := run_app (P := P) w base t o.type e z size bytes ht hi hzs hsz v n xs hown Bd xv m news hr h1 h63 hbytes hbase
  unfold Oper.wp execOp
  simp only [ho, resolve, invoke, builtin, Sem.run_bind, Sem.run_pure, Result.andThen_ok, List.map_toArray, List.map_cons, List.map_nil, hs, hx, hrun]
  exact hK _ _ (h v' w' h2 h3 h4)
end

theorem own_left {w w' : World} {base : Nat} {e : TypeId} {size n : Nat} {v : Value} {xs : List Value} {S : List Nat} (h : w.ownsRow base e size v n xs) (hl : Left S w w') (hS : ∀ k ∈ S, k < base) : w'.ownsRow base e size v n xs := by
  refine ⟨h.1, ?_⟩
  rcases h.2 with hn | ⟨g, cap, cur, rfl, hb, hgg, rest⟩
  · exact .inl hn
  · exact .inr ⟨g, cap, cur, rfl, hb, (hl.block g (h.lt g rfl).2 (fun hm => by have := hS g hm; omega)).trans hgg, rest⟩
theorem own_below {w w' : World} {base : Nat} {e : TypeId} {size n : Nat} {v : Value} {xs : List Value} (h : w.ownsRow base e size v n xs) (hb : Below w.heap.size w w') : w'.ownsRow base e size v n xs :=
  own_left h (Left.of_below hb []) (by simp)
theorem own_base {w : World} {base base' : Nat} {e : TypeId} {size n : Nat} {v : Value} {xs : List Value} (h : w.ownsRow base e size v n xs) (hb : base' ≤ base) : w.ownsRow base' e size v n xs := by
  refine ⟨h.1, ?_⟩
  rcases h.2 with hn | ⟨g, cap, cur, hv, hg, rest⟩
  · exact .inl hn
  · exact .inr ⟨g, cap, cur, hv, by omega, rest⟩
end Go.Proofs.YtknnaeejkmlnbaaGreatDoor
namespace Go.Proofs.YtknnaeejkmlnbaaGreatDoor
open Go.RowKit

/-- The slice value v, of n elements of so many cells, is a row of our own in a block of number base at least; it reads as xs. -/
def Row (w : World) (base : Nat) (e : TypeId) (size : Nat) (v : Value) (n : Nat) (xs : List Value) : Prop :=
  xs.length = n * size ∧
  ((v = .slice none 0 0 ∧ n = 0) ∨
   ∃ g off cap cur, v = .slice (some ⟨g, off, none⟩) n cap ∧ base ≤ g ∧ w.heap[g]? = some (.cells cur e (0, 0)) ∧ n ≤ cap ∧ cap ≤ maxLen ∧ off + cap * size ≤ cur.size ∧ ∀ j u, xs[j]? = some u → cur[off + j]? = some u)

section
variable {w w' : World} {base size n : Nat} {e : TypeId} {v : Value} {xs : List Value}
theorem Row.nil_ (w : World) (base : Nat) (e : TypeId) (size : Nat) : Row w base e size (.slice none 0 0) 0 [] := ⟨by simp, .inl ⟨rfl, rfl⟩⟩
theorem Row.form (h : Row w base e size v n xs) : ∃ ao cap, v = .slice ao n cap ∧ n ≤ cap ∧ cap ≤ maxLen := by
  rcases h.2 with ⟨rfl, rfl⟩ | ⟨g, off, cap, cur, rfl, _, _, h1, h2, _⟩
  · exact ⟨none, 0, rfl, by omega, by omega⟩
  · exact ⟨_, cap, rfl, h1, h2⟩
theorem Row.at_ (h : Row w base e size v n xs) (hn : 0 < n) : ∃ g off cap, v = .slice (some ⟨g, off, none⟩) n cap ∧ base ≤ g ∧ g < w.heap.size ∧ n ≤ cap ∧ cap ≤ maxLen ∧ ∀ j u, xs[j]? = some u → w.cell? ⟨g, off + j, none⟩ = some u := by
  rcases h.2 with ⟨_, h0⟩ | ⟨g, off, cap, cur, rfl, hb, hg, h1, h2, _, hc⟩
  · omega
  · refine ⟨g, off, cap, rfl, hb, (Array.getElem?_eq_some_iff.1 hg).1, h1, h2, fun j u hu => ?_⟩
    have := hc j u hu
    simp [World.cell?, hg, this]
theorem Row.left {S : List Nat} (h : Row w base e size v n xs) (hl : Left S w w') (hS : ∀ k ∈ S, v.ownBlock ≠ some k) : Row w' base e size v n xs := by
  refine ⟨h.1, ?_⟩
  rcases h.2 with hn | ⟨g, off, cap, cur, rfl, hb, hg, rest⟩
  · exact .inl hn
  · exact .inr ⟨g, off, cap, cur, rfl, hb, (hl.block g (Array.getElem?_eq_some_iff.1 hg).1 (fun hm => hS g hm rfl)).trans hg, rest⟩
theorem Row.lt (h : Row w base e size v n xs) {k : Nat} (hk : v.ownBlock = some k) : base ≤ k ∧ k < w.heap.size := by
  rcases h.2 with ⟨rfl, _⟩ | ⟨g, off, cap, cur, rfl, hb, hg, rest⟩
  · cases hk
  · simp only [Value.ownBlock] at hk
    injection hk with hk
    subst hk
    exact ⟨hb, (Array.getElem?_eq_some_iff.1 hg).1⟩
theorem Row.of_own (h : w.ownsRow base e size v n xs) : Row w base e size v n xs := by
  refine ⟨h.1, ?_⟩
  rcases h.2 with hn | ⟨g, cap, cur, rfl, hb, hg, h1, h2, h3, h4⟩
  · exact .inl hn
  · refine .inr ⟨g, 0, cap, cur, rfl, hb, hg, h1, h2, by omega, fun j u hu => ?_⟩
    rw [Nat.zero_add, ← Array.getElem?_toList]
    rw [← h4] at hu
    rw [List.getElem?_take] at hu
    split at hu
    · exact hu
    · cases hu
/-- Cut at the front: the first element is gone. -/
theorem Row.tail {x : List Value} {g off cap : Nat} (h : Row w base e size (.slice (some ⟨g, off, none⟩) (n + 1) cap) (n + 1) (x ++ xs)) (hx : x.length = size) (hcap : 1 < cap) : Row w base e size (.slice (some ⟨g, off + size, none⟩) n (cap - 1)) n xs := by
  have hl := h.1
  rw [List.length_append, hx, Nat.add_mul, Nat.one_mul] at hl
  refine ⟨by omega, ?_⟩
  rcases h.2 with ⟨hh, _⟩ | ⟨g', off', cap', cur, hv, hb, hg, h1, h2, h3, hc⟩
  · cases hh
  · injection hv with hv1 _ hv3
    injection hv1 with hv1
    injection hv1 with e1 e2
    subst e1 e2 hv3
    obtain ⟨c, rfl⟩ : ∃ c, cap = c + 1 := ⟨cap - 1, by omega⟩
    rw [Nat.add_mul, Nat.one_mul] at h3
    refine .inr ⟨g, off + size, c, cur, rfl, hb, hg, by omega, by omega, by omega, fun j u hu => ?_⟩
    have := hc (size + j) u (by rw [List.getElem?_append_right (by omega), hx, Nat.add_sub_cancel_left]; exact hu)
    rwa [Nat.add_assoc]
end

section
variable {P : Program} (w : World)
end
end Go.Proofs.YtknnaeejkmlnbaaGreatDoor
namespace Go.Proofs.YtknnaeejkmlnbaaGreatDoor
open Go.RowKit

def Value.ownL (v : Value) : List Nat := v.ownBlock.toList
theorem mem_ownL {v : Value} {k : Nat} : k ∈ Value.ownL v ↔ v.ownBlock = some k := by simp [Value.ownL, Option.mem_toList]
theorem left_of_grown {w w' : World} {v : Value} (hg : w.grownBy w' v.ownBlock) : Left (Value.ownL v) w w' :=
  ⟨hg.os, hg.tape, hg.output, hg.size, fun k hk hn => hg.block k hk (fun e => hn (mem_ownL.2 e.symm))⟩
def Ty (w : World) (k : Nat) (t : TypeId) : Prop := ∃ cur fl, w.heap[k]? = some (.cells cur t fl)
theorem Ty.ne {w : World} {k j : Nat} {t u : TypeId} (h : Ty w k t) (h' : Ty w j u) (hn : t ≠ u) : k ≠ j := by
  obtain ⟨c, f, h⟩ := h
  obtain ⟨c', f', h'⟩ := h'
  intro e
  subst e
  rw [h] at h'
  injection h' with h'
  injection h' with _ h' _
  exact hn h'
theorem own_ty {w : World} {base size n k : Nat} {e : TypeId} {v : Value} {xs : List Value} (h : w.ownsRow base e size v n xs) (hk : v.ownBlock = some k) : Ty w k e := by
  rcases h.2 with ⟨rfl, _⟩ | ⟨g, cap, cur, rfl, hb, hg, rest⟩
  · cases hk
  · simp only [Value.ownBlock] at hk
    injection hk with hk
    subst hk
    exact ⟨_, _, hg⟩
theorem Whole.ty {w : World} {g : Nat} {t : TypeId} {cs : List Value} (h : Whole w g t cs) : Ty w g t := ⟨_, _, h⟩
theorem own_leftB {w w' : World} {base size n : Nat} {e : TypeId} {v : Value} {xs : List Value} {S : List Nat} (h : w.ownsRow base e size v n xs) (hl : Left S w w') (hS : ∀ k ∈ S, v.ownBlock ≠ some k) : w'.ownsRow base e size v n xs := by
  refine ⟨h.1, ?_⟩
  rcases h.2 with hn | ⟨g, cap, cur, rfl, hb, hgg, rest⟩
  · exact .inl hn
  · exact .inr ⟨g, cap, cur, rfl, hb, (hl.block g (h.lt g rfl).2 (fun hm => hS g hm rfl)).trans hgg, rest⟩
theorem Row.ty {w : World} {base size n k : Nat} {e : TypeId} {v : Value} {xs : List Value} (h : Row w base e size v n xs) (hk : v.ownBlock = some k) : Ty w k e := by
  rcases h.2 with ⟨rfl, _⟩ | ⟨g, off, cap, cur, rfl, hb, hg, rest⟩
  · cases hk
  · simp only [Value.ownBlock] at hk
    injection hk with hk
    subst hk
    exact ⟨_, _, hg⟩
theorem Row.rd {w : World} {base size n : Nat} {e : TypeId} {v : Value} {xs : List Value} (h : Row w base e size v n xs) : Rd w w.heap.size size v n xs := by
  refine ⟨h.1, ?_⟩
  rcases h.2 with ⟨rfl, rfl⟩ | ⟨g, off, cap, cur, rfl, hb, hg, h1, h2, _, hc⟩
  · exact ⟨none, 0, rfl, by omega, by unfold maxLen; omega, fun _ => rfl, fun hn => absurd hn (by omega)⟩
  · refine ⟨_, cap, rfl, h1, h2, (fun e => by cases e), fun _ => ⟨g, off, rfl, (Array.getElem?_eq_some_iff.1 hg).1, fun j u hu => ?_⟩⟩
    have := hc j u hu
    simp [World.cell?, hg, this]
end Go.Proofs.YtknnaeejkmlnbaaGreatDoor
namespace Go.Proofs.YtknnaeejkmlnbaaGreatDoor
open Go.RowKit
/-- How one lies in cells: always in so many, one value each. -/
structure Enc (α : Type) where
  c : α → List Value
  sz : Nat
  len : ∀ x, (c x).length = sz
  one : ∀ x, ∀ u ∈ c x, u.oneCell' = true
def Enc.cells {α : Type} (E : Enc α) (L : List α) : List Value := L.flatMap E.c
section
variable {α : Type} (E : Enc α)
@[simp] theorem Enc.cells_nil : E.cells [] = [] := rfl
theorem Enc.cells_cons (x : α) (L : List α) : E.cells (x :: L) = E.c x ++ E.cells L := rfl
theorem Enc.cells_app (A B : List α) : E.cells (A ++ B) = E.cells A ++ E.cells B := by simp [Enc.cells]
theorem Enc.cells_one (x : α) : E.cells [x] = E.c x := by simp [Enc.cells]
theorem Enc.cells_length (L : List α) : (E.cells L).length = L.length * E.sz := by
  induction L with
  | nil => simp
  | cons x r ih => rw [E.cells_cons, List.length_append, ih, E.len, List.length_cons, Nat.succ_mul]; omega
theorem Enc.cells_at (L : List α) : ∀ (i : Nat) (x : α) (j : Nat), L[i]? = some x → j < E.sz → (E.cells L)[i * E.sz + j]? = (E.c x)[j]? := by
  induction L with
  | nil => intro i x j h; simp at h
  | cons y r ih =>
    intro i x j h hj
    cases i with
    | zero =>
      simp at h
      subst h
      rw [E.cells_cons, Nat.zero_mul, Nat.zero_add, List.getElem?_append_left (by rw [E.len]; exact hj)]
    | succ i =>
      rw [E.cells_cons, List.getElem?_append_right (by rw [E.len, Nat.succ_mul]; omega), E.len, show (i + 1) * E.sz + j - E.sz = i * E.sz + j by rw [Nat.succ_mul]; omega]
      exact ih i x j (by simpa using h) hj
theorem Enc.cells_oneCell (L : List α) : ∀ u ∈ E.cells L, u.oneCell' = true := by
  intro u hu
  obtain ⟨x, _, hu⟩ := List.mem_flatMap.1 hu
  exact E.one x u hu
theorem Enc.cells_set (L : List α) (i : Nat) (x : α) (hi : i < L.length) : E.cells (L.set i x) = E.cells (L.take i) ++ (E.c x ++ E.cells (L.drop (i + 1))) := by
  rw [List.set_eq_take_append_cons_drop, if_pos hi, E.cells_app, E.cells_cons]
variable {E}
theorem Enc.rd_cell {w : World} {Bd i : Nat} {ao : Option Addr} {n cap : Nat} {L : List α} {x : α} (h : Rd w Bd E.sz (.slice ao n cap) n (E.cells L)) (hn : n = L.length) (hx : L[i]? = some x) :
    ∃ b o, ao = some ⟨b, o, none⟩ ∧ b < Bd ∧ w.rangeAt b (o + i * E.sz) (E.c x) := by
  have hi := (List.getElem?_eq_some_iff.1 hx).1
  obtain ⟨_, ao', cap', e, _, _, _, h6⟩ := h
  injection e with e
  subst e
  obtain ⟨b, o, e, hlt, hc⟩ := h6 (by omega)
  refine ⟨b, o, e, hlt, fun j u hu => ?_⟩
  have hj : j < E.sz := by have := (List.getElem?_eq_some_iff.1 hu).1; rw [E.len] at this; exact this
  have := hc (i * E.sz + j) u (by rw [E.cells_at L i x j hx hj, hu])
  rw [Nat.add_assoc]
  exact this
end
section
variable {w : World} {B n cap g size : Nat} {e : TypeId} {v : Value} {xs : List Value}
theorem Enc.own_form (h : w.ownsRow B e size v n xs) (hn : 0 < n) : ∃ g cap, v = .slice (some ⟨g, 0, none⟩) n cap ∧ B ≤ g ∧ g < w.heap.size ∧ n ≤ cap ∧ cap ≤ maxLen := by
  obtain ⟨hl, h2⟩ := h
  rcases h2 with ⟨rfl, rfl⟩ | ⟨g, cap, cur, rfl, hb, hg, hnc, hcm, hcs, ht⟩
  · omega
  · exact ⟨g, cap, rfl, hb, (Array.getElem?_eq_some_iff.1 hg).1, hnc, hcm⟩
theorem Enc.own_cut {m : Nat} (h : w.ownsRow B e size (.slice (some ⟨g, 0, none⟩) n cap) n xs) (hm : m ≤ n) : w.ownsRow B e size (.slice (some ⟨g, 0, none⟩) m cap) m (xs.take (m * size)) := by
  rcases h.2 with ⟨h', _⟩ | ⟨g', cap', cur, h', hb, hg, hnc, hcm, hcs, htake⟩
  · simp at h'
  · simp only [Value.slice.injEq, Option.some.injEq, Addr.mk.injEq, and_true, true_and] at h'
    obtain ⟨rfl, rfl⟩ := h'
    have hle : m * size ≤ n * size := Nat.mul_le_mul_right _ hm
    refine ⟨by rw [List.length_take, h.1]; omega, .inr ⟨g, cap, cur, rfl, hb, hg, by omega, hcm, hcs, ?_⟩⟩
    rw [← htake, List.take_take, Nat.min_eq_left hle]
/-- Cells laid over a list. -/
def Enc.layL (xs : List Value) : Nat → List Value → List Value
  | _, [] => xs
  | o, v :: r => Enc.layL (xs.set o v) (o + 1) r
theorem Enc.layL_app : ∀ (V A C D : List Value), D.length = V.length → Enc.layL (A ++ D ++ C) A.length V = A ++ V ++ C
  | [], A, C, D, h => by
    have : D = [] := List.eq_nil_of_length_eq_zero (by simpa using h)
    subst this
    rfl
  | v :: r, A, C, D, h => by
    match D, h with
    | d :: D, h =>
      have e1 : (A ++ (d :: D) ++ C).set A.length v = (A ++ [v]) ++ D ++ C := by
        rw [List.append_assoc, List.set_append_right _ _ (Nat.le_refl _)]
        simp
      have e2 : A.length + 1 = (A ++ [v]).length := by simp
      rw [Enc.layL, e1, e2, Enc.layL_app r (A ++ [v]) C D (by simpa using h)]
      simp
theorem Enc.own_setCells : ∀ (vs : List Value) (o : Nat) (xs : List Value) (w : World), w.ownsRow B e size (.slice (some ⟨g, 0, none⟩) n cap) n xs →
    (w.setCells g o vs).ownsRow B e size (.slice (some ⟨g, 0, none⟩) n cap) n (Enc.layL xs o vs) ∧ w.grownBy (w.setCells g o vs) (some g)
  | [], _, _, w, h => ⟨h, World.grownBy.refl w _⟩
  | u :: r, o, xs, w, h => by
    obtain ⟨h1, h2⟩ := h.stored o u
    obtain ⟨h3, h4⟩ := Enc.own_setCells r (o + 1) (xs.set o u) _ h1
    exact ⟨h3, h2.trans h4⟩
theorem Whole.setCells {t : TypeId} : ∀ (vs : List Value) (o : Nat) (cur : List Value) (w : World), Whole w g t cur → Whole (w.setCells g o vs) g t (Enc.layL cur o vs) ∧ Left [g] w (w.setCells g o vs)
  | [], _, _, w, h => ⟨h, Left.refl _ _⟩
  | u :: r, o, xs, w, h => by
    obtain ⟨h3, h4⟩ := Whole.setCells r (o + 1) (xs.set o u) _ (h.put o u)
    exact ⟨h3, (Left.setCell (S := [g]) (p := ⟨g, o, none⟩) (Left.refl [g] w) (Or.inl (List.mem_singleton.2 rfl)) u).trans h4 (fun x hx => .inl hx)⟩
theorem Whole.setAll {t : TypeId} {vs cur : List Value} {w : World} (h : Whole w g t cur) (hl : cur.length = vs.length) : Whole (w.setCells g 0 vs) g t vs ∧ Left [g] w (w.setCells g 0 vs) := by
  obtain ⟨h1, h2⟩ := Whole.setCells vs 0 cur w h
  have := Enc.layL_app vs [] [] cur hl
  simp only [List.nil_append, List.append_nil, List.length_nil] at this
  rw [this] at h1
  exact ⟨h1, h2⟩
theorem Whole.there {t : TypeId} {cs : List Value} {w : World} (h : Whole w g t cs) : w.there g 0 cs.length := fun j hj => ⟨by rw [Nat.zero_add, h.cell, List.getElem?_eq_getElem hj]; rfl, h.free _⟩
theorem Whole.range {t : TypeId} {cs : List Value} {w : World} (h : Whole w g t cs) : w.rangeAt g 0 cs := fun j v hv => by rw [Nat.zero_add, h.cell]; exact hv
theorem Whole.three {t : TypeId} {a b c : Value} {w : World} (h : Whole w g t [a, b, c]) : w.cell? ⟨g, 0, none⟩ = some a ∧ w.cell? ⟨g, 1, none⟩ = some b ∧ w.cell? ⟨g, 2, none⟩ = some c ∧ w.frozen? ⟨g, 0, none⟩ = false ∧ w.frozen? ⟨g, 1, none⟩ = false ∧ w.frozen? ⟨g, 2, none⟩ = false :=
  ⟨by rw [h.cell]; rfl, by rw [h.cell]; rfl, by rw [h.cell]; rfl, h.free 0, h.free 1, h.free 2⟩
theorem results_row_tmp {P : Program} {fn : Func} {p u : Tmp} {ty : TypeId} (h : fn.results = #[.cell p ty, .tmp u]) (tmps : Array Value) (w : World) (g : Nat) (t : TypeId) (cs : Array Value) (fr : Nat × Nat) (d : TypeDesc)
    (hp : tmps.getD p undef = .pointer (some ⟨g, 0, none⟩)) (hg : w.heap[g]? = some (.cells cs t fr))
    (hu : P.underlying ty = some d) (hd : (match d with | .struct _ | .array _ _ => true | _ => false) = true) (hi : (P.info? ty).map (·.size) = some cs.size) :
    (results fn tmps).run P w = .ok (.tuple #[.agg cs, tmps.getD u undef]) w := by
  have hp' : tmps[p]?.getD undef = .pointer (some ⟨g, 0, none⟩) := by simpa using hp
  simp [results, h, hp', asAddr, Sem.run_bind, run_loadVar_row w g t ty cs fr d hg hu hd hi]
theorem b_tr {w w1 w2 : World} (h : Below w.heap.size w w1) (h2 : Below w1.heap.size w1 w2) : Below w.heap.size w w2 := h.trans (h2.mono h.size)
theorem b_cell {w w' : World} {p : Addr} {v : Value} (hb : Below w.heap.size w w') (h : w.cell? p = some v) : w'.cell? p = some v := (hb.cell (World.block_lt_of_cell? w _ h)).trans h
end
end Go.Proofs.YtknnaeejkmlnbaaGreatDoor
namespace Go.Proofs.YtknnaeejkmlnbaaGreatDoor
/-- A message: its topic, its payload, its quality, whether it is kept. -/
structure Msg where
  t : ByteArray
  p : ByteArray
  q : Int
  r : Bool
deriving DecidableEq
structure Fl where
  id : Int
  m : Msg
  rc : Bool
deriving DecidableEq
/-- A packet of a message, or the word that one may be let go. -/
structure Pk where
  kind : Int
  t : ByteArray
  p : ByteArray
  q : Int
  r : Bool
  id : Int
  dup : Bool
deriving DecidableEq
structure OB where
  last : Int
  F : List Fl
  Q : List Msg
def msgC (m : Msg) : List Value := [.string m.t, .string m.p, .int .i64 m.q, .bool m.r]
def flC (f : Fl) : List Value := [.int .i64 f.id, .string f.m.t, .string f.m.p, .int .i64 f.m.q, .bool f.m.r, .bool f.rc]
def eM : Enc Msg := ⟨msgC, 4, fun _ => rfl, fun x u hu => by
  simp only [msgC, List.mem_cons, List.mem_nil_iff, or_false] at hu
  rcases hu with rfl | rfl | rfl | rfl <;> rfl⟩
def eF : Enc Fl := ⟨flC, 6, fun _ => rfl, fun x u hu => by
  simp only [flC, List.mem_cons, List.mem_nil_iff, or_false] at hu
  rcases hu with rfl | rfl | rfl | rfl | rfl | rfl <;> rfl⟩
def msgV (m : Msg) : Value := .agg #[.string m.t, .string m.p, .int .i64 m.q, .bool m.r]
/-- A message that may be sent. -/
def okM (m : Msg) : Bool := decide (1 ≤ m.t.size) && decide (m.t.size ≤ 64) && decide (m.p.size ≤ 128) && (decide (m.q = 1) || decide (m.q = 2))
def rel (id : Int) : Pk := ⟨6, ⟨#[]⟩, ⟨#[]⟩, 0, false, id, false⟩
def okF (f : Fl) : Bool := decide (1 ≤ f.id) && decide (f.id ≤ 65535) && okM f.m && (!f.rc || decide (f.m.q = 2))
def ids (F : List Fl) : List Int := F.map (·.id)
def okO (o : OB) : Prop := 0 ≤ o.last ∧ o.last ≤ 65535 ∧ o.F.length ≤ 4 ∧ o.Q.length ≤ 8 ∧ (∀ f ∈ o.F, okF f = true) ∧ (ids o.F).Nodup ∧ ∀ m ∈ o.Q, okM m = true
/-- The next identifier. -/
def nx (l : Int) : Int := l % 65535 + 1
end Go.Proofs.YtknnaeejkmlnbaaGreatDoor
namespace Go.Proofs.YtknnaeejkmlnbaaGreatDoor
open Go.RowKit
/-- A wish: its filter, its quality. -/
structure Wish1 where
  f : ByteArray
  q : Int
def wC (x : Wish1) : List Value := [.string x.f, .int .i64 x.q]
def wCells (L : List Wish1) : List Value := L.flatMap wC
theorem wCells_at (L : List Wish1) : ∀ (i : Nat) (x : Wish1), L[i]? = some x → (wCells L)[i * 2]? = some (.string x.f) ∧ (wCells L)[i * 2 + 1]? = some (.int .i64 x.q) := by
  induction L with
  | nil => intro i x h; simp at h
  | cons y r ih =>
    intro i x h
    cases i with
    | zero =>
      simp at h
      subst h
      exact ⟨rfl, rfl⟩
    | succ i =>
      have := ih i x (by simpa using h)
      have e : wCells (y :: r) = .string y.f :: .int .i64 y.q :: wCells r := rfl
      rw [e, show (i + 1) * 2 = i * 2 + 2 by omega]
      exact this
theorem wish_cell {w : World} {Bd i : Nat} {ao : Option Addr} {n cap : Nat} {L : List Wish1} {x : Wish1} (h : Rd w Bd 2 (.slice ao n cap) n (wCells L)) (hn : n = L.length) (hx : L[i]? = some x) :
    ∃ b o, ao = some ⟨b, o, none⟩ ∧ b < Bd ∧ w.cell? ⟨b, o + i * 2, none⟩ = some (.string x.f) ∧ w.cell? ⟨b, o + i * 2 + 1, none⟩ = some (.int .i64 x.q) := by
  have hi := (List.getElem?_eq_some_iff.1 hx).1
  obtain ⟨x1, x2⟩ := wCells_at L i x hx
  obtain ⟨_, ao', cap', e, _, _, _, h6⟩ := h
  injection e with e
  subst e
  obtain ⟨bb, bo, e, hlt, hc⟩ := h6 (by omega)
  exact ⟨bb, bo, e, hlt, hc _ _ x1, hc _ _ x2⟩

end Go.Proofs.YtknnaeejkmlnbaaGreatDoor
namespace Go.Proofs.YtknnaeejkmlnbaaGreatDoor
/-- A will. -/
structure Wl where
  is : Bool
  t : ByteArray
  p : ByteArray
  q : Int
  r : Bool
deriving DecidableEq
/-- A session. -/
structure Se where
  c : ByteArray
  cl : Bool
  ln : Int
  S : List Wish1
  o : OB
  I : List Int
  wl : Wl
  keep : Int
  idle : Int
/-- A broker. -/
structure Br where
  L : List Int
  S : List Se
  K : List Msg
/-- A number's lowest byte; three bytes of it. -/
def b8 (z : Int) : UInt8 := UInt8.ofNat (z % 256).toNat
def n3 (n : Int) : List UInt8 := [b8 (n / 65536), b8 (n / 256), b8 n]
def t3 (s : ByteArray) : List UInt8 := n3 s.size ++ s.data.toList
def bit (b : Bool) : Int := if b then 1 else 0
def m3 (m : Msg) : List UInt8 := t3 m.t ++ (t3 m.p ++ (n3 m.q ++ n3 (bit m.r)))
def w3 (x : Wish1) : List UInt8 := t3 x.f ++ n3 x.q
def f3 (f : Fl) : List UInt8 := n3 f.id ++ (m3 f.m ++ n3 (bit f.rc))
def s3 (s : Se) : List UInt8 := t3 s.c ++ n3 s.S.length ++ s.S.flatMap w3 ++ n3 s.o.last ++ n3 s.o.F.length ++ s.o.F.flatMap f3 ++ n3 s.o.Q.length ++ s.o.Q.flatMap m3 ++ n3 s.I.length ++ s.I.flatMap n3
def k3 (K : List Msg) : List UInt8 := n3 K.length ++ K.flatMap m3
end Go.Proofs.YtknnaeejkmlnbaaGreatDoor
namespace Go.Proofs.YtknnaeejkmlnbaaGreatDoor
theorem aPt : (∀ (T : Array Value) D d v, Act.put ⟨T, D⟩ (some d) v = ⟨T.setIfInBounds d v, D⟩) ∧ (∀ (l : List Value) i v, l.toArray.setIfInBounds i v = (l.set i v).toArray) ∧ (∀ (x y : Value) l, (x :: l).set 0 y = y :: l) ∧ ∀ (x y : Value) l n, (x :: l).set (n + 1) y = x :: l.set n y := ⟨fun _ _ _ _ => rfl, fun _ _ _ => List.setIfInBounds_toArray .., fun _ _ _ => rfl, fun _ _ _ _ => rfl⟩
section
variable {P : Program} {ops : Array Oper} {Q : Exit → Act → World → Prop} {md : Region.Mode} {S : World → Prop}
theorem call_h {fuel : Nat} {listed : Array Bool} {a : Act} {w : World} (i : Nat)
    (H : ∃ o : Oper, ops[i]? = some o ∧ ∀ K' : Act → World → Prop, Shut (∀ a w, S w → (S w → wpAnyH P md ops Q S fuel (listed.setIfInBounds i true) a w) → K' a w) → if Region.wanted o (yielded ops a.tmps) = true then Oper.wp P o a w K' Q else K' (a.put o.dst undef) w) :
    AllReadyH P md ops Q S fuel listed a w [i] := by
  obtain ⟨o, h1, h2⟩ := H
  exact AllReadyH.cons h1 h2 AllReadyH.nil
/-- One step, the side conditions found by the walk's own tactics. -/
theorem tk {fuel : Nat} {listed : Array Bool} {a : Act} {w : World} {oi : Oper} {v : Value} (i : Nat)
    (h7 : S w) (h8 : wpAnyH P md ops Q S fuel (listed.setIfInBounds i true) (a.put oi.dst v) w)
    (h1 : ops[i]? = some oi := by ((simp only [List.getElem?_toArray, List.getElem?_cons_succ, List.getElem?_cons_zero]); exact rfl))
    (h2 : Region.noSelect ops = true := by kernel_rfl) (h3 : Region.free md ops listed i = true := by kernel_rfl) (h4 : (Region.ready md ops listed).contains i = true := by kernel_rfl)
    (h5 : ∀ c a w, Q (.panic c) (a.put oi.dst v) w → Q (.panic c) a w := by exact fun _ _ _ h => h)
    (h6 : YieldsIf P ops S oi v a := by (first | (refine Or.inr ⟨by rfl, ?_⟩; exact rfl) | (refine Or.inl ⟨by rfl, ?_⟩; intro w hSw; (try dsimp only at hSw); (try go_split_ands); go_simp; (first | done | with_reducible rfl)))) :
    wpAnyH P md ops Q S (fuel + 1) listed a w :=
  wpAnyH_take h1 h2 h3 h4 h5 h6 h7 h8
end
end Go.Proofs.YtknnaeejkmlnbaaGreatDoor
namespace Go.Proofs.YtknnaeejkmlnbaaGreatDoor
section
variable {P : Program} {ops : Array Oper} {Q : Exit → Act → World → Prop} {md : Region.Mode} {S : World → Prop}
end
end Go.Proofs.YtknnaeejkmlnbaaGreatDoor
namespace Go.Proofs.YtknnaeejkmlnbaaGreatDoor
open Go.RowKit
/-- What a call that writes rows of bytes of its own (from block B on) leaves. -/
structure LU (B : Nat) (w w' : World) : Prop where
  os : w'.os = w.os
  tape : w'.tape = w.tape
  output : w'.output = w.output
  size : w.heap.size ≤ w'.heap.size
  block : ∀ k, k < w.heap.size → (k < B ∨ ¬ Ty w k 5) → w'.heap[k]? = w.heap[k]?
/-- A row of bytes of one's own. -/
def OwnU (w : World) (B : Nat) (v : Value) (xs : List UInt8) : Prop := w.ownsRow B 5 1 v xs.length (u8s xs)
section
variable {B B' k : Nat} {w w' w1 w2 : World} {t : TypeId} {cs : List Value} {v v' : Value} {xs ys : List UInt8} {c : Value} {p : Addr}
theorem LU.refl (B : Nat) (w : World) : LU B w w := ⟨rfl, rfl, rfl, Nat.le_refl _, fun _ _ _ => rfl⟩
theorem ty_eq (h : w'.heap[k]? = w.heap[k]?) (ht : Ty w' k t) : Ty w k t := by
  obtain ⟨c, f, e⟩ := ht
  exact ⟨c, f, by rw [← h]; exact e⟩
theorem LU.trans (h : LU B w w1) (h2 : LU B w1 w2) : LU B w w2 :=
  ⟨h2.os.trans h.os, h2.tape.trans h.tape, h2.output.trans h.output, Nat.le_trans h.size h2.size, fun k hk hc =>
    (h2.block k (Nat.lt_of_lt_of_le hk h.size) (hc.imp id fun hn ht => hn (ty_eq (h.block k hk hc) ht))).trans (h.block k hk hc)⟩
theorem LU.of_below (h : Below w.heap.size w w') : LU B w w' := ⟨h.os, h.tape, h.output, h.size, fun k hk _ => h.block k hk⟩
theorem LU.below (h : LU B w w') (hB : B' ≤ B) (hz : B' ≤ w.heap.size) : Below B' w w' := ⟨h.os, h.tape, h.output, h.size, fun k hk => h.block k (by omega) (.inl (by omega))⟩
theorem LU.alloc (h : LU B w w') (o : Obj) : LU B w (w'.alloc o) := h.trans (LU.of_below ((Below.refl _ _).alloc (Nat.le_refl _) o))
theorem LU.drew (h : LU B w w') : LU B w w'.drew := ⟨h.os, h.tape, h.output, h.size, h.block⟩
theorem LU.whole {g : Nat} (h : LU B w w') (hw : Whole w g t cs) (ht : t ≠ 5) : Whole w' g t cs := (h.block g hw.lt (.inr fun h2 => (hw.ty.ne h2 ht) rfl)).trans hw
theorem LU.cell (h : LU B w w') (hc : w.cell? p = some c) (hp : p.block < B ∨ ¬ Ty w p.block 5) : w'.cell? p = some c :=
  (World.cell?_of_block (w := w) (h.block p.block (World.block_lt_of_cell? w _ hc) hp)).trans hc
theorem LU.rd {Bd size n : Nat} {us : List Value} (h : LU B w w') (hr : Rd w Bd size v n us) (hB : Bd ≤ B) (hz : Bd ≤ w.heap.size) : Rd w' Bd size v n us := hr.below (h.below hB hz)
theorem OwnU.nil (w : World) (B : Nat) : OwnU w B (.slice none 0 0) [] := World.ownsRow_nil _ _ _ _
theorem OwnU.rd (h : OwnU w B v xs) : Rd w w.heap.size 1 v xs.length (u8s xs) := Rd.of_own h
theorem OwnU.keep (h : OwnU w B v xs) (hb : Below w.heap.size w w') : OwnU w' B v xs := own_below h hb
theorem OwnU.base (h : OwnU w B v xs) (hB : B' ≤ B) : OwnU w B' v xs := own_base h hB
theorem OwnU.to (h : w.ownsRow B 5 1 v k cs) (hk : k = xs.length) (hc : cs = u8s xs) : OwnU w B v xs := by subst hk hc; exact h
end
section
variable {P : Program} {w : World} {ops : Array Oper} {rest : List Oper} {o : Oper} {a : Act} {Q : Exit → Act → World → Prop}
end
end Go.Proofs.YtknnaeejkmlnbaaGreatDoor
namespace Go.Proofs.YtknnaeejkmlnbaaGreatDoor
open Go.RowKit
def eI : Enc Int := ⟨fun n => [.int .i64 n], 1, fun _ => rfl, fun x u hu => by
  simp only [List.mem_cons, List.mem_nil_iff, or_false] at hu
  rcases hu with rfl
  rfl⟩
def eW : Enc Wish1 := ⟨fun x => [.string x.f, .int .i64 x.q], 2, fun _ => rfl, fun x u hu => by
  simp only [List.mem_cons, List.mem_nil_iff, or_false] at hu
  rcases hu with rfl | rfl <;> rfl⟩
/-- A session, with where its lists lie. -/
structure Rs where
  s : Se
  sa : Option Addr
  sc : Nat
  fa : Option Addr
  fc : Nat
  qa : Option Addr
  qc : Nat
  ia : Option Addr
  ic : Nat
def seC (r : Rs) : List Value := [.string r.s.c, .bool r.s.cl, .int .i64 r.s.ln, .slice r.sa r.s.S.length r.sc, .int .i64 r.s.o.last, .slice r.fa r.s.o.F.length r.fc, .slice r.qa r.s.o.Q.length r.qc, .slice r.ia r.s.I.length r.ic,
  .bool r.s.wl.is, .string r.s.wl.t, .string r.s.wl.p, .int .i64 r.s.wl.q, .bool r.s.wl.r, .int .i64 r.s.keep, .int .i64 r.s.idle]
def seV (r : Rs) : Value := .agg #[.string r.s.c, .bool r.s.cl, .int .i64 r.s.ln, .slice r.sa r.s.S.length r.sc, .int .i64 r.s.o.last, .slice r.fa r.s.o.F.length r.fc, .slice r.qa r.s.o.Q.length r.qc, .slice r.ia r.s.I.length r.ic,
  .bool r.s.wl.is, .string r.s.wl.t, .string r.s.wl.p, .int .i64 r.s.wl.q, .bool r.s.wl.r, .int .i64 r.s.keep, .int .i64 r.s.idle]
def eS : Enc Rs := ⟨seC, 15, fun _ => rfl, fun x u hu => by
  simp only [seC, List.mem_cons, List.mem_nil_iff, or_false] at hu
  rcases hu with rfl | rfl | rfl | rfl | rfl | rfl | rfl | rfl | rfl | rfl | rfl | rfl | rfl | rfl | rfl <;> rfl⟩
/-- A session's lists may be read. -/
structure SRd (w : World) (Bd : Nat) (r : Rs) : Prop where
  s : Rd w Bd 2 (.slice r.sa r.s.S.length r.sc) r.s.S.length (eW.cells r.s.S)
  f : Rd w Bd 6 (.slice r.fa r.s.o.F.length r.fc) r.s.o.F.length (eF.cells r.s.o.F)
  q : Rd w Bd 4 (.slice r.qa r.s.o.Q.length r.qc) r.s.o.Q.length (eM.cells r.s.o.Q)
  i : Rd w Bd 1 (.slice r.ia r.s.I.length r.ic) r.s.I.length (eI.cells r.s.I)
/-- A broker that may be read. -/
structure BRd (w : World) (Bd : Nat) (lv sv kv : Value) (R : List Rs) (b : Br) : Prop where
  e : R.map (·.s) = b.S
  l : Rd w Bd 1 lv b.L.length (eI.cells b.L)
  s : Rd w Bd 15 sv R.length (eS.cells R)
  r : ∀ x ∈ R, SRd w Bd x
  k : Rd w Bd 4 kv b.K.length (eM.cells b.K)
section
variable {w w' : World} {Bd B' : Nat} {r : Rs} {lv sv kv : Value} {R : List Rs} {b : Br}
theorem SRd.below (h : SRd w Bd r) (hb : Below Bd w w') : SRd w' Bd r := ⟨h.s.below hb, h.f.below hb, h.q.below hb, h.i.below hb⟩
theorem SRd.more (h : SRd w Bd r) (hB : Bd ≤ B') : SRd w B' r := ⟨h.s.more hB, h.f.more hB, h.q.more hB, h.i.more hB⟩
theorem BRd.below (h : BRd w Bd lv sv kv R b) (hb : Below Bd w w') : BRd w' Bd lv sv kv R b := ⟨h.e, h.l.below hb, h.s.below hb, fun x hx => (h.r x hx).below hb, h.k.below hb⟩
theorem BRd.more (h : BRd w Bd lv sv kv R b) (hB : Bd ≤ B') : BRd w B' lv sv kv R b := ⟨h.e, h.l.more hB, h.s.more hB, fun x hx => (h.r x hx).more hB, h.k.more hB⟩
theorem BRd.len (h : BRd w Bd lv sv kv R b) : R.length = b.S.length := by rw [← h.e, List.length_map]
end
theorem frm_any {a : Act} {T : (Nat → Value) → Act} (h : a = T (fun n => a.tmps.getD n undef)) : ∃ u, a = T u := ⟨_, h⟩
section
variable {α : Type} {f : α → List UInt8} {L : List α} {x : α} {k : Nat}
end
end Go.Proofs.YtknnaeejkmlnbaaGreatDoor
namespace Go.Proofs.YtknnaeejkmlnbaaGreatDoor

/-- The levels of a text: parted at '/'. -/
def lvs : List UInt8 → List (List UInt8)
  | [] => [[]]
  | c :: r => if c = 47 then [] :: lvs r else (c :: (lvs r).headD []) :: (lvs r).tail

theorem lvs_ne (l : List UInt8) : lvs l ≠ [] := by
  cases l with
  | nil => simp [lvs]
  | cons c r => unfold lvs; split <;> simp

theorem lvs_cons (l : List UInt8) : lvs l = (lvs l).headD [] :: (lvs l).tail := by
  cases h : lvs l with
  | nil => exact absurd h (lvs_ne l)
  | cons x xs => rfl

theorem lvs_pos (l : List UInt8) : 0 < (lvs l).length := List.length_pos_iff.2 (lvs_ne l)

theorem lvs_length (l : List UInt8) : (lvs l).length ≤ l.length + 1 := by
  induction l with
  | nil => simp [lvs]
  | cons c r ih =>
    have := lvs_pos r
    unfold lvs
    split
    · simp; omega
    · simp; omega

/-- What is still to come, behind what was begun. -/
def onto (cur : List UInt8) (L : List (List UInt8)) : List (List UInt8) := (cur ++ L.headD []) :: L.tail

theorem onto_sep (cur : List UInt8) (r : List UInt8) : onto cur (lvs (47 :: r)) = cur :: onto [] (lvs r) := by
  have h : lvs (47 :: r) = [] :: lvs r := by simp [lvs]
  rw [onto, h]
  show (cur ++ []) :: lvs r = cur :: (([] ++ (lvs r).headD []) :: (lvs r).tail)
  rw [List.append_nil, List.nil_append, ← lvs_cons]
theorem onto_byte (cur : List UInt8) (c : UInt8) (r : List UInt8) (h : c ≠ 47) : onto cur (lvs (c :: r)) = onto (cur ++ [c]) (lvs r) := by
  simp [onto, lvs, h]
theorem onto_nil (L : List UInt8) : onto [] (lvs L) = lvs L := (lvs_cons L).symm
theorem onto_end (cur : List UInt8) : onto cur (lvs []) = [cur] := by simp [onto, lvs]

/-- One of '+', '#'? -/
def hasB (l : List UInt8) : Bool := l.any fun c => c == 43 || c == 35

/-- A level may be: at the end, or not. -/
def levelOk (x : List UInt8) (last : Bool) : Bool := !hasB x || x == [43] || (x == [35] && last)
def levelsOk : List (List UInt8) → Bool
  | [] => true
  | x :: xs => levelOk x xs.isEmpty && levelsOk xs

def txt (valid : Bool) (s : List UInt8) : Bool := decide (1 ≤ s.length) && decide (s.length ≤ 64) && valid && !s.contains 0
end Go.Proofs.YtknnaeejkmlnbaaGreatDoor
namespace Go.Proofs.YtknnaeejkmlnbaaGreatDoor
open Go.RowKit
open Classical in
/-- True, if it is so. -/
noncomputable def yes (p : Prop) : Bool := decide p
theorem yes_true {p : Prop} (h : p) : yes p = true := by unfold yes; exact @decide_eq_true p (Classical.propDecidable p) h
theorem yes_false {p : Prop} (h : ¬ p) : yes p = false := by unfold yes; exact @decide_eq_false p (Classical.propDecidable p) h
theorem yes_iff {p : Prop} : yes p = true ↔ p := by unfold yes; exact @decide_eq_true_iff p (Classical.propDecidable p)
theorem yes_not {p : Prop} : yes p = false ↔ ¬ p := ⟨(fun h hp => by rw [yes_true hp] at h; cases h), yes_false⟩
theorem ba_ext {a b : ByteArray} (h : a.toList = b.toList) : a = b := by
  rw [ByteArray.toList_eq, ByteArray.toList_eq] at h
  exact ByteArray.ext (Array.ext' h)
theorem eq_will (w : World) (x y : Wl) : (binOp .eql 44 (.agg #[.bool x.is, .string x.t, .string x.p, .int .i64 x.q, .bool x.r]) (.agg #[.bool y.is, .string y.t, .string y.p, .int .i64 y.q, .bool y.r])).run Tryz.prog w = .ok (.bool (yes (x = y))) w := by
  by_cases e1 : x.is = y.is
  · by_cases e2 : x.t.toList = y.t.toList
    · by_cases e3 : x.p.toList = y.p.toList
      · by_cases e4 : x.q = y.q
        · by_cases e5 : x.r = y.r
          · rw [yes_true (p := x = y) (by
              clear w
              obtain ⟨_, _, _, _, _⟩ := x; obtain ⟨_, _, _, _, _⟩ := y
              simp only at e1 e2 e3 e4 e5
              rw [e1, ba_ext e2, ba_ext e3, e4, e5])]
            go_simp
          · rw [yes_false (p := x = y) (fun e => e5 (by rw [e]))]
            go_simp
        · rw [yes_false (p := x = y) (fun e => e4 (by rw [e]))]
          go_simp
      · rw [yes_false (p := x = y) (fun e => e3 (by rw [e]))]
        go_simp
    · rw [yes_false (p := x = y) (fun e => e2 (by rw [e]))]
      go_simp
  · rw [yes_false (p := x = y) (fun e => e1 (by rw [e]))]
    go_simp
theorem ne_wish (w : World) (x y : Wish1) : (binOp .neq 106 (.agg #[.string x.f, .int .i64 x.q]) (.agg #[.string y.f, .int .i64 y.q])).run Tryz.prog w = .ok (.bool (!yes (x = y))) w := by
  by_cases e1 : x.f.toList = y.f.toList
  · by_cases e2 : x.q = y.q
    · rw [yes_true (p := x = y) (by
        clear w
        obtain ⟨_, _⟩ := x; obtain ⟨_, _⟩ := y
        simp only at e1 e2
        rw [ba_ext e1, e2])]
      go_simp
    · rw [yes_false (p := x = y) (fun e => e2 (by rw [e]))]
      go_simp
  · rw [yes_false (p := x = y) (fun e => e1 (by rw [e]))]
    go_simp
theorem ne_mes (w : World) (x y : Msg) : (binOp .neq 83 (.agg #[.string x.t, .string x.p, .int .i64 x.q, .bool x.r]) (.agg #[.string y.t, .string y.p, .int .i64 y.q, .bool y.r])).run Tryz.prog w = .ok (.bool (!yes (x = y))) w := by
  by_cases e1 : x.t.toList = y.t.toList
  · by_cases e2 : x.p.toList = y.p.toList
    · by_cases e3 : x.q = y.q
      · by_cases e4 : x.r = y.r
        · rw [yes_true (p := x = y) (by
            clear w
            obtain ⟨_, _, _, _⟩ := x; obtain ⟨_, _, _, _⟩ := y
            simp only at e1 e2 e3 e4
            rw [ba_ext e1, ba_ext e2, e3, e4])]
          go_simp
        · rw [yes_false (p := x = y) (fun e => e4 (by rw [e]))]
          go_simp
      · rw [yes_false (p := x = y) (fun e => e3 (by rw [e]))]
        go_simp
    · rw [yes_false (p := x = y) (fun e => e2 (by rw [e]))]
      go_simp
  · rw [yes_false (p := x = y) (fun e => e1 (by rw [e]))]
    go_simp
theorem ne_fli (w : World) (x y : Fl) : (binOp .neq 108 (.agg #[.int .i64 x.id, .string x.m.t, .string x.m.p, .int .i64 x.m.q, .bool x.m.r, .bool x.rc]) (.agg #[.int .i64 y.id, .string y.m.t, .string y.m.p, .int .i64 y.m.q, .bool y.m.r, .bool y.rc])).run Tryz.prog w = .ok (.bool (!yes (x = y))) w := by
  by_cases e1 : x.id = y.id
  · by_cases e2 : x.m.t.toList = y.m.t.toList
    · by_cases e3 : x.m.p.toList = y.m.p.toList
      · by_cases e4 : x.m.q = y.m.q
        · by_cases e5 : x.m.r = y.m.r
          · by_cases e6 : x.rc = y.rc
            · rw [yes_true (p := x = y) (by
                clear w
                obtain ⟨_, ⟨_, _, _, _⟩, _⟩ := x; obtain ⟨_, ⟨_, _, _, _⟩, _⟩ := y
                simp only at e1 e2 e3 e4 e5 e6
                rw [e1, ba_ext e2, ba_ext e3, e4, e5, e6])]
              go_simp
            · rw [yes_false (p := x = y) (fun e => e6 (by rw [e]))]
              go_simp
          · rw [yes_false (p := x = y) (fun e => e5 (by rw [e]))]
            go_simp
        · rw [yes_false (p := x = y) (fun e => e4 (by rw [e]))]
          go_simp
      · rw [yes_false (p := x = y) (fun e => e3 (by rw [e]))]
        go_simp
    · rw [yes_false (p := x = y) (fun e => e2 (by rw [e]))]
      go_simp
  · rw [yes_false (p := x = y) (fun e => e1 (by rw [e]))]
    go_simp
end Go.Proofs.YtknnaeejkmlnbaaGreatDoor
