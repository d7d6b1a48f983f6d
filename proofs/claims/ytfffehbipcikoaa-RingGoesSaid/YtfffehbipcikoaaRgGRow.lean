/- The rows that RingGoes keeps, through its steps. -/

import Derived.Test.YtfffehbipcikoaaRgRest
namespace Go.Proofs.Ytfffehbipcikoaa
open Go.RowKit

structure GRow (w0 w : World) (s : Spot) (base : Nat) (wv hv ov : Value) (wl hl : List Fl) (ol : List (Fl × Nat)) : Prop where
  rows : Wants w base wv wl
  heads : Heads w base hv hl
  outs : Outs w base ov ol
  ne : ∀ k, hv.ownBlock = some k → ov.ownBlock ≠ some k
  n1 : NoR w s wv
  n2 : NoR w s hv
  n3 : NoR w s ov
  low : ∀ k ∈ s.all, w0.heap.size ≤ k ∧ k < base
  lowm : s.m < base
  bl : Below w0.heap.size w0 w
  bw : base ≤ w.heap.size

section
variable {w0 w w' : World} {s : Spot} {base q : Nat} {wv hv ov v' : Value} {wl hl : List Fl} {ol : List (Fl × Nat)} {want : List Fl} {out : List (Fl × Nat)} {free : Nat}
theorem GRow.b0 (h : GRow w0 w s base wv hv ov wl hl ol) : w0.heap.size ≤ base ∧ s.bw < base := by
  have h1 := h.low s.D (by simp [Spot.all])
  have h2 := h.low s.bw (by simp [Spot.all])
  omega
/-- A call of the ring: only its own blocks are written. -/
theorem GRow.ring (h : GRow w0 w s base wv hv ov wl hl ol) {S : List Nat} (hl' : Left S w w') (hS : ∀ k ∈ S, k ∈ s.all) (hno : ∀ k, k < w.heap.size → NoRow w s.bw k → NoRow w' s.bw k) : GRow w0 w' s base wv hv ov wl hl ol := by
  have hlow : ∀ k ∈ S, k < base := fun k hk => (h.low k (hS k hk)).2
  refine ⟨h.rows.left hl' (fun k hk => .inl (hlow k hk)), h.heads.left hl' (fun k hk => .inl (hlow k hk)), h.outs.left hl' (fun k hk => .inl (hlow k hk)), h.ne, ?_, ?_, ?_, h.low, h.lowm, h.bl.trans (hl'.belowB h.bl.size (fun k hk => (h.low k (hS k hk)).1)), Nat.le_trans h.bw hl'.size⟩
  · intro k hk
    obtain ⟨ws, h1, _⟩ := h.rows
    exact hno k (h1.lt hk).2 (h.n1 k hk)
  · intro k hk; exact hno k (Row.lt h.heads hk).2 (h.n2 k hk)
  · intro k hk; exact hno k (Row.lt h.outs hk).2 (h.n3 k hk)
theorem GRow.alloc (h : GRow w0 w s base wv hv ov wl hl ol) (hb : s.bw < w.heap.size) (hl' : Left [] w w') : GRow w0 w' s base wv hv ov wl hl ol :=
  h.ring hl' (by simp) (fun k _ hk => hk.left hl' (by simp) hb)

/-- What a write into one of the rows leaves of the ring. -/
theorem GRow.side (h : GRow w0 w s base wv hv ov wl hl ol) {v : Value} (hlt : ∀ k, v.ownBlock = some k → base ≤ k) (hn : NoR w s v) : ∀ k ∈ Value.ownL v, k ∉ s.all ∧ k ≠ s.m ∧ NoRow w s.bw k := by
  intro k hk
  have hk' := mem_ownL.1 hk
  have hb := hlt k hk'
  exact ⟨fun hm => by have := (h.low k hm).2; omega, fun e => by have := h.lowm; omega, hn k hk'⟩
theorem GRow.noR_new (h : GRow w0 w s base wv hv ov wl hl ol) {v : Value} (hlt : ∀ k, v.ownBlock = some k → base ≤ k) (hn : NoR w s v) (hl' : Left (Value.ownL v) w w') (hf : ∀ k, w.heap.size ≤ k → NoRow w s.bw k) (hat : v'.ownBlock = v.ownBlock ∨ v'.ownBlock = some w.heap.size) : NoR w' s v' := by
  have hb := h.b0.2
  have hbw := h.bw
  have hnot : s.bw ∉ Value.ownL v := fun hm => by have := hlt _ (mem_ownL.1 hm); omega
  intro k hk
  rcases hat with e | e
  · rw [e] at hk
    exact (hn k hk).left hl' hnot (by omega)
  · rw [e] at hk
    injection hk with hk
    subst hk
    exact (hf _ (Nat.le_refl _)).left hl' hnot (by omega)
theorem GRow.noR_old (h : GRow w0 w s base wv hv ov wl hl ol) {v u : Value} (hlt : ∀ k, v.ownBlock = some k → base ≤ k) (hn : NoR w s u) (hl' : Left (Value.ownL v) w w') : NoR w' s u := by
  have hb := h.b0.2
  have hbw := h.bw
  exact fun k hk => (hn k hk).left hl' (fun hm => by have := hlt _ (mem_ownL.1 hm); omega) (by omega)
theorem GRow.below (h : GRow w0 w s base wv hv ov wl hl ol) {v : Value} (hlt : ∀ k, v.ownBlock = some k → base ≤ k) (hl' : Left (Value.ownL v) w w') : Below w0.heap.size w0 w' :=
  h.bl.trans (hl'.belowB h.bl.size (fun k hk => by have := hlt k (mem_ownL.1 hk); have := h.b0.1; omega))
theorem GRow.lt1 (h : GRow w0 w s base wv hv ov wl hl ol) : ∀ k, wv.ownBlock = some k → base ≤ k := fun k hk => by obtain ⟨ws, h1, _⟩ := h.rows; exact (h1.lt hk).1
theorem GRow.lt2 (h : GRow w0 w s base wv hv ov wl hl ol) : ∀ k, hv.ownBlock = some k → base ≤ k := fun k hk => (Row.lt h.heads hk).1
theorem GRow.lt3 (h : GRow w0 w s base wv hv ov wl hl ol) : ∀ k, ov.ownBlock = some k → base ≤ k := fun k hk => (Row.lt h.outs hk).1

theorem GRow.app_want (h : GRow w0 w s base wv hv ov wl hl ol) (hf : ∀ k, w.heap.size ≤ k → NoRow w s.bw k) {x : Value} {f : Fl} (hx : w.ownsRow base 89 3 x f.L.length (bufCells f.L)) {ws : List Value} (hws : Row w base 75 1 wv wl.length ws) (hin : ∀ (j : Nat) (f : Fl) (x : Value), wl[j]? = some f → ws[j]? = some x → w.ownsRow base 89 3 x f.L.length (bufCells f.L))
    (hr : Row w' base 75 1 v' (wl.length + 1) (ws ++ [x])) (hg : w.grownBy w' wv.ownBlock) (hat : v'.ownBlock = wv.ownBlock ∨ v'.ownBlock = some w.heap.size) : GRow w0 w' s base v' hv ov (wl ++ [f]) hl ol := by
  have hl' := left_of_grown hg
  exact ⟨h.rows.app hx hws hin hr hl', h.heads.left hl' (fun k hk => .inr (h.rows.heads_ne (mem_ownL.1 hk) h.heads)), h.outs.left hl' (fun k hk => .inr (h.rows.heads_ne (mem_ownL.1 hk) h.outs)), h.ne, h.noR_new h.lt1 h.n1 hl' hf hat, h.noR_old h.lt1 h.n2 hl', h.noR_old h.lt1 h.n3 hl', h.low, h.lowm, h.below h.lt1 hl', Nat.le_trans h.bw hl'.size⟩
theorem GRow.app_head (h : GRow w0 w s base wv hv ov wl hl ol) (hf : ∀ k, w.heap.size ≤ k → NoRow w s.bw k) {f : Fl} (hr : Row w' base 3 1 v' (hl.length + 1) (headCells hl ++ [.int .i64 (f.h : Nat)])) (hg : w.grownBy w' hv.ownBlock) (hat : v'.ownBlock = hv.ownBlock ∨ v'.ownBlock = some w.heap.size) : GRow w0 w' s base wv v' ov wl (hl ++ [f]) ol := by
  have hl' := left_of_grown hg
  refine ⟨h.rows.left hl' (fun k hk => .inr (Row.ty h.heads (mem_ownL.1 hk))), ?_, h.outs.left hl' (fun k hk => .inr (h.ne k (mem_ownL.1 hk))), ?_, h.noR_old h.lt2 h.n1 hl', h.noR_new h.lt2 h.n2 hl' hf hat, h.noR_old h.lt2 h.n3 hl', h.low, h.lowm, h.below h.lt2 hl', Nat.le_trans h.bw hl'.size⟩
  · unfold Heads headCells
    rw [List.map_append, List.length_append]
    exact hr
  · intro k hk
    rcases hat with e | e
    · rw [e] at hk; exact h.ne k hk
    · rw [e] at hk
      injection hk with hk
      intro e2
      have := (Row.lt h.outs e2).2
      omega
theorem GRow.app_out (h : GRow w0 w s base wv hv ov wl hl ol) (hf : ∀ k, w.heap.size ≤ k → NoRow w s.bw k) {p : Fl × Nat} (hr : Row w' base 3 1 v' (2 * ol.length + 2) (outCells ol ++ [.int .i64 (p.1.L.length : Nat), .int .i64 (p.1.h : Nat)])) (hg : w.grownBy w' ov.ownBlock) (hat : v'.ownBlock = ov.ownBlock ∨ v'.ownBlock = some w.heap.size) : GRow w0 w' s base wv hv v' wl hl (ol ++ [p]) := by
  have hl' := left_of_grown hg
  have hne' : ∀ k, ov.ownBlock = some k → hv.ownBlock ≠ some k := fun k hk e => h.ne k e hk
  refine ⟨h.rows.left hl' (fun k hk => .inr (Row.ty h.outs (mem_ownL.1 hk))), h.heads.left hl' (fun k hk => .inr (hne' k (mem_ownL.1 hk))), ?_, ?_, h.noR_old h.lt3 h.n1 hl', h.noR_old h.lt3 h.n2 hl', h.noR_new h.lt3 h.n3 hl' hf hat, h.low, h.lowm, h.below h.lt3 hl', Nat.le_trans h.bw hl'.size⟩
  · unfold Outs outCells
    rw [List.flatMap_append, List.length_append, Nat.mul_add]
    exact hr
  · intro k hk
    rcases hat with e | e
    · rw [e]; exact h.ne k hk
    · rw [e]
      intro e2
      injection e2 with e2
      have := (Row.lt h.heads hk).2
      omega
/-- The rows cut at the front. -/
theorem GRow.cut_want {wl' : List Fl} (h : GRow w0 w s base wv hv ov wl hl ol) (hr : Wants w base v' wl') (hv' : v'.ownBlock = wv.ownBlock) : GRow w0 w s base v' hv ov wl' hl ol :=
  ⟨hr, h.heads, h.outs, h.ne, fun k hk => h.n1 k (hv' ▸ hk), h.n2, h.n3, h.low, h.lowm, h.bl, h.bw⟩
theorem GRow.cut_head {hl' : List Fl} (h : GRow w0 w s base wv hv ov wl hl ol) (hr : Heads w base v' hl') (hv' : v'.ownBlock = hv.ownBlock) : GRow w0 w s base wv v' ov wl hl' ol :=
  ⟨h.rows, hr, h.outs, fun k hk => h.ne k (hv' ▸ hk), h.n1, fun k hk => h.n2 k (hv' ▸ hk), h.n3, h.low, h.lowm, h.bl, h.bw⟩
theorem GRow.cut_out {ol' : List (Fl × Nat)} (h : GRow w0 w s base wv hv ov wl hl ol) (hr : Outs w base v' ol') (hv' : v'.ownBlock = ov.ownBlock) : GRow w0 w s base wv hv v' wl hl ol' :=
  ⟨h.rows, h.heads, hr, fun k hk => by rw [hv']; exact h.ne k hk, h.n1, h.n2, fun k hk => h.n3 k (hv' ▸ hk), h.low, h.lowm, h.bl, h.bw⟩
end
end Go.Proofs.Ytfffehbipcikoaa
