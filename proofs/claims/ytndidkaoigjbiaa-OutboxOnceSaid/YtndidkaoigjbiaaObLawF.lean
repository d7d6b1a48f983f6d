/- OutboxOnce: what lies where, between the acts. -/


import Derived.Test.YtndidkaoigjbiaaObHv
import Derived.Test.YtndidkaoigjbiaaObRO
namespace Go.Proofs.Ytndidkaoigjbiaa
open Go.RowKit
/-- The argument's block, the outbox's block, what waits. -/
structure LF (w : World) (O : Nat) (sv : List Value) (wr : World) (o : OB) (wait : List Pk) (wv : Value) : Prop where
  arg : Whole wr w.heap.size 28 sv
  ob : ∃ fv qv, Whole wr O 25 [.int .i64 o.last, fv, qv] ∧ wr.ownsRow w.heap.size 61 6 fv o.F.length (eF.cells o.F) ∧ wr.ownsRow w.heap.size 34 4 qv o.Q.length (eM.cells o.Q)
  wt : Row wr w.heap.size 50 24 wv wait.length (eP.cells wait)
  bel : Below w.heap.size w wr
  hO : w.heap.size < O ∧ O < wr.heap.size
/-- What was seen, and received. -/
structure LA (O : Nat) (wr : World) (seen : List Int) (recd : List Bool) : Prop where
  sn : Whole wr (O + 1) 30 (seen.map (.int .i64 ·))
  rc : Whole wr (O + 2) 31 (recd.map (.bool ·))
section
variable {w wr wx : World} {O : Nat} {sv : List Value} {o : OB} {wait : List Pk} {wv : Value} {seen : List Int} {recd : List Bool}
theorem LF.below (h : LF w O sv wr o wait wv) (hb : Below wr.heap.size wr wx) : LF w O sv wx o wait wv := by
  obtain ⟨fv, qv, h1, h2, h3⟩ := h.ob
  exact ⟨h.arg.belowH hb, ⟨fv, qv, h1.belowH hb, own_below h2 hb, own_below h3 hb⟩, h.wt.left (Left.of_below hb []) (by simp), b_tr' h.bel hb, h.hO.1, Nat.lt_of_lt_of_le h.hO.2 hb.size⟩
where b_tr' {w w1 w2 : World} (h : Below w.heap.size w w1) (h2 : Below w1.heap.size w1 w2) : Below w.heap.size w w2 := b_tr h h2
theorem LA.below (h : LA O wr seen recd) (hb : Below wr.heap.size wr wx) : LA O wx seen recd := ⟨h.sn.belowH hb, h.rc.belowH hb⟩
theorem LF.or_ (h : LF w O sv wr o wait wv) : ∃ fv qv, Whole wr O 25 [.int .i64 o.last, fv, qv] ∧ OR wr (.agg #[.int .i64 o.last, fv, qv]) o := by
  obtain ⟨fv, qv, h1, h2, h3⟩ := h.ob
  exact ⟨fv, qv, h1, fv, qv, rfl, Rd.of_own h2, Rd.of_own h3⟩
/-- A store into a block of one's own that holds an outbox, another one. -/
theorem LF.xbox (h : LF w O sv wr o wait wv) {xb : Nat} {cs : List Value} (hx : Whole wr xb 25 cs) (hne : xb ≠ O) (hB : w.heap.size ≤ xb) (hl : Left [xb] wr wx) : LF w O sv wx o wait wv := by
  obtain ⟨fv, qv, h1, h2, h3⟩ := h.ob
  have hz := hl.size
  refine ⟨h.arg.left hl (by simp; exact fun e => h.arg.ty.ne hx.ty (by decide) e), ⟨fv, qv, h1.left hl (by simpa using fun e => hne e.symm), own_leftB h2 hl (fun k hk e => ?_), own_leftB h3 hl (fun k hk e => ?_)⟩, h.wt.left hl (fun k hk e => ?_), h.bel.trans (hl.belowB h.bel.size (by simpa using hB)), h.hO.1, by have := h.hO.2; omega⟩
  · simp only [List.mem_singleton] at hk; subst hk
    exact (own_ty h2 e).ne hx.ty (by decide) rfl
  · simp only [List.mem_singleton] at hk; subst hk
    exact (own_ty h3 e).ne hx.ty (by decide) rfl
  · simp only [List.mem_singleton] at hk; subst hk
    exact (h.wt.ty e).ne hx.ty (by decide) rfl
theorem LA.xbox (h : LA O wr seen recd) {xb : Nat} {cs : List Value} (hx : Whole wr xb 25 cs) (hl : Left [xb] wr wx) : LA O wx seen recd :=
  ⟨h.sn.left hl (by simp; exact fun e => h.sn.ty.ne hx.ty (by decide) e), h.rc.left hl (by simp; exact fun e => h.rc.ty.ne hx.ty (by decide) e)⟩
/-- Another outbox is laid into the block. -/
theorem LF.setO (h : LF w O sv wr o wait wv) {o' : OB} {fv qv : Value} (hl : Left [O] wr wx) (h1 : Whole wx O 25 [.int .i64 o'.last, fv, qv]) (h2 : wr.ownsRow w.heap.size 61 6 fv o'.F.length (eF.cells o'.F)) (h3 : wr.ownsRow w.heap.size 34 4 qv o'.Q.length (eM.cells o'.Q)) : LF w O sv wx o' wait wv := by
  obtain ⟨fv0, qv0, hO, _, _⟩ := h.ob
  have hz := hl.size
  refine ⟨h.arg.left hl (by simp; exact fun e => h.arg.ty.ne hO.ty (by decide) e), ⟨fv, qv, h1, own_leftB h2 hl (fun k hk e => ?_), own_leftB h3 hl (fun k hk e => ?_)⟩, h.wt.left hl (fun k hk e => ?_), h.bel.trans (hl.belowB h.bel.size (by have := h.hO.1; simp; omega)), h.hO.1, by have := h.hO.2; omega⟩
  · simp only [List.mem_singleton] at hk; subst hk
    exact (own_ty h2 e).ne hO.ty (by decide) rfl
  · simp only [List.mem_singleton] at hk; subst hk
    exact (own_ty h3 e).ne hO.ty (by decide) rfl
  · simp only [List.mem_singleton] at hk; subst hk
    exact (h.wt.ty e).ne hO.ty (by decide) rfl
/-- Something changes in a block of another type than all of these. -/
theorem LF.arr (h : LF w O sv wr o wait wv) {k t : Nat} (ht : Ty wr k t) (hB : w.heap.size ≤ k) (hn : t ≠ 28 ∧ t ≠ 25 ∧ t ≠ 61 ∧ t ≠ 34 ∧ t ≠ 50) (hl : Left [k] wr wx) : LF w O sv wx o wait wv := by
  obtain ⟨fv, qv, h1, h2, h3⟩ := h.ob
  have hz := hl.size
  refine ⟨h.arg.left hl (by simp; exact fun e => ht.ne h.arg.ty hn.1 e.symm), ⟨fv, qv, h1.left hl (by simp; exact fun e => ht.ne h1.ty hn.2.1 e.symm), own_leftB h2 hl (fun j hj e => ?_), own_leftB h3 hl (fun j hj e => ?_)⟩, h.wt.left hl (fun j hj e => ?_), h.bel.trans (hl.belowB h.bel.size (by simpa using hB)), h.hO.1, by have := h.hO.2; omega⟩
  · simp only [List.mem_singleton] at hj; subst hj
    exact ht.ne (own_ty h2 e) hn.2.2.1 rfl
  · simp only [List.mem_singleton] at hj; subst hj
    exact ht.ne (own_ty h3 e) hn.2.2.2.1 rfl
  · simp only [List.mem_singleton] at hj; subst hj
    exact ht.ne (h.wt.ty e) hn.2.2.2.2 rfl
/-- What waits is another thing: it grew, or was cut. -/
theorem LF.app (h : LF w O sv wr o wait wv) {wait' : List Pk} {wv' : Value} (hl : Left (Value.ownL wv) wr wx) (hr : Row wx w.heap.size 50 24 wv' wait'.length (eP.cells wait')) : LF w O sv wx o wait' wv' := by
  obtain ⟨fv, qv, h1, h2, h3⟩ := h.ob
  have hz := hl.size
  have ht := fun {k : Nat} (hk : k ∈ Value.ownL wv) => h.wt.ty (mem_ownL.1 hk)
  exact ⟨h.arg.left hl (fun hm => (ht hm).ne h.arg.ty (by decide) rfl), ⟨fv, qv, h1.left hl (fun hm => (ht hm).ne h1.ty (by decide) rfl), own_leftB h2 hl (fun k hk e => (ht hk).ne (own_ty h2 e) (by decide) rfl), own_leftB h3 hl (fun k hk e => (ht hk).ne (own_ty h3 e) (by decide) rfl)⟩, hr,
    h.bel.trans (hl.belowB h.bel.size (fun k hk => (h.wt.lt (mem_ownL.1 hk)).1)), h.hO.1, by have := h.hO.2; omega⟩
theorem LA.app (h : LA O wr seen recd) {o' : OB} {w0 : World} {sv' : List Value} {wait' : List Pk} (hf : LF w0 O sv' wr o' wait' wv) (hl : Left (Value.ownL wv) wr wx) : LA O wx seen recd :=
  ⟨h.sn.left hl (fun hm => (hf.wt.ty (mem_ownL.1 hm)).ne h.sn.ty (by decide) rfl), h.rc.left hl (fun hm => (hf.wt.ty (mem_ownL.1 hm)).ne h.rc.ty (by decide) rfl)⟩
theorem LF.wait_ (h : LF w O sv wr o wait wv) {wait' : List Pk} {wv' : Value} (hr : Row wr w.heap.size 50 24 wv' wait'.length (eP.cells wait')) : LF w O sv wr o wait' wv' := ⟨h.arg, h.ob, hr, h.bel, h.hO⟩
theorem LA.setO (h : LA O wr seen recd) {cs : List Value} (hx : Whole wr O 25 cs) (hl : Left [O] wr wx) : LA O wx seen recd := h.xbox hx hl
/-- One identifier is noted. -/
theorem LA.see (h : LA O wr seen recd) (n : Nat) (i : Int) : LA O (wr.setCell ⟨O + 1, n, none⟩ (.int .i64 i)) (seen.set n i) recd := by
  have h1 := h.sn.put n (.int .i64 i)
  rw [← List.map_set (f := (Value.int .i64 ·))] at h1
  exact ⟨h1, h.rc.other (by simp) _⟩
theorem LA.rec_ (h : LA O wr seen recd) (n : Nat) (b : Bool) : LA O (wr.setCell ⟨O + 2, n, none⟩ (.bool b)) seen (recd.set n b) := by
  have h1 := h.rc.put n (.bool b)
  rw [← List.map_set (f := (Value.bool ·))] at h1
  exact ⟨h.sn.other (by simp) _, h1⟩
theorem pk24 {w : World} {b o : Nat} {k : Pk} (h : w.rangeAt b o (eP.c k)) : w.cell? ⟨b, o, none⟩ = some (.int .i64 k.kind) ∧ w.cell? ⟨b, o + 1, none⟩ = some (.string ⟨#[]⟩) ∧ w.cell? ⟨b, o + 2, none⟩ = some (.bool false) ∧ w.cell? ⟨b, o + 3, none⟩ = some (.int .i64 0) ∧ w.cell? ⟨b, o + 4, none⟩ = some (.bool false) ∧ w.cell? ⟨b, o + 5, none⟩ = some (.string ⟨#[]⟩) ∧ w.cell? ⟨b, o + 6, none⟩ = some (.string ⟨#[]⟩) ∧ w.cell? ⟨b, o + 7, none⟩ = some (.int .i64 0) ∧ w.cell? ⟨b, o + 8, none⟩ = some (.bool false) ∧ w.cell? ⟨b, o + 9, none⟩ = some (.string ⟨#[]⟩) ∧ w.cell? ⟨b, o + 10, none⟩ = some (.bool false) ∧ w.cell? ⟨b, o + 11, none⟩ = some (.string ⟨#[]⟩) ∧ w.cell? ⟨b, o + 12, none⟩ = some (.bool false) ∧ w.cell? ⟨b, o + 13, none⟩ = some (.bool false) ∧ w.cell? ⟨b, o + 14, none⟩ = some (.int .i64 0) ∧ w.cell? ⟨b, o + 15, none⟩ = some (.slice none 0 0) ∧ w.cell? ⟨b, o + 16, none⟩ = some (.bool k.dup) ∧ w.cell? ⟨b, o + 17, none⟩ = some (.int .i64 k.q) ∧ w.cell? ⟨b, o + 18, none⟩ = some (.bool k.r) ∧ w.cell? ⟨b, o + 19, none⟩ = some (.string k.t) ∧ w.cell? ⟨b, o + 20, none⟩ = some (.int .i64 k.id) ∧ w.cell? ⟨b, o + 21, none⟩ = some (.string k.p) ∧ w.cell? ⟨b, o + 22, none⟩ = some (.slice none 0 0) ∧ w.cell? ⟨b, o + 23, none⟩ = some (.slice none 0 0) :=
  ⟨h 0 _ rfl, h 1 _ rfl, h 2 _ rfl, h 3 _ rfl, h 4 _ rfl, h 5 _ rfl, h 6 _ rfl, h 7 _ rfl, h 8 _ rfl, h 9 _ rfl, h 10 _ rfl, h 11 _ rfl, h 12 _ rfl, h 13 _ rfl, h 14 _ rfl, h 15 _ rfl, h 16 _ rfl, h 17 _ rfl, h 18 _ rfl, h 19 _ rfl, h 20 _ rfl, h 21 _ rfl, h 22 _ rfl, h 23 _ rfl⟩
end
end Go.Proofs.Ytndidkaoigjbiaa
