/- Rows of things of any kind: how a list of them lies in memory. -/

import Derived.Test.YtndidkaoigjbiaaTy
import Derived.Deep.MidRow
namespace Go.Proofs.Ytndidkaoigjbiaa
open Go.RowKit
/-- How one lies in cells: always in so many, one value each. -/
structure Enc (α : Type) where
  c : α → List Value
  sz : Nat
  len : ∀ x, (c x).length = sz
  one : ∀ x, ∀ u ∈ c x, u.oneCell' = true
def Enc.cells {α : Type} (E : Enc α) (L : List α) : List Value := L.flatMap E.c
section
variable {α : Type} (E : Enc α)
@[simp] theorem Enc.cells_nil : E.cells [] = [] := rfl
theorem Enc.cells_cons (x : α) (L : List α) : E.cells (x :: L) = E.c x ++ E.cells L := rfl
theorem Enc.cells_app (A B : List α) : E.cells (A ++ B) = E.cells A ++ E.cells B := by simp [Enc.cells]
theorem Enc.cells_one (x : α) : E.cells [x] = E.c x := by simp [Enc.cells]
theorem Enc.cells_length (L : List α) : (E.cells L).length = L.length * E.sz := by
  induction L with
  | nil => simp
  | cons x r ih => rw [E.cells_cons, List.length_append, ih, E.len, List.length_cons, Nat.succ_mul]; omega
theorem Enc.cells_at (L : List α) : ∀ (i : Nat) (x : α) (j : Nat), L[i]? = some x → j < E.sz → (E.cells L)[i * E.sz + j]? = (E.c x)[j]? := by
  induction L with
  | nil => intro i x j h; simp at h
  | cons y r ih =>
    intro i x j h hj
    cases i with
    | zero =>
      simp at h
      subst h
      rw [E.cells_cons, Nat.zero_mul, Nat.zero_add, List.getElem?_append_left (by rw [E.len]; exact hj)]
    | succ i =>
      rw [E.cells_cons, List.getElem?_append_right (by rw [E.len, Nat.succ_mul]; omega), E.len, show (i + 1) * E.sz + j - E.sz = i * E.sz + j by rw [Nat.succ_mul]; omega]
      exact ih i x j (by simpa using h) hj
theorem Enc.cells_oneCell (L : List α) : ∀ u ∈ E.cells L, u.oneCell' = true := by
  intro u hu
  obtain ⟨x, _, hu⟩ := List.mem_flatMap.1 hu
  exact E.one x u hu
theorem Enc.cells_set (L : List α) (i : Nat) (x : α) (hi : i < L.length) : E.cells (L.set i x) = E.cells (L.take i) ++ (E.c x ++ E.cells (L.drop (i + 1))) := by
  rw [List.set_eq_take_append_cons_drop, if_pos hi, E.cells_app, E.cells_cons]
variable {E}
theorem Enc.rd_cell {w : World} {Bd i : Nat} {ao : Option Addr} {n cap : Nat} {L : List α} {x : α} (h : Rd w Bd E.sz (.slice ao n cap) n (E.cells L)) (hn : n = L.length) (hx : L[i]? = some x) :
    ∃ b o, ao = some ⟨b, o, none⟩ ∧ b < Bd ∧ w.rangeAt b (o + i * E.sz) (E.c x) := by
  have hi := (List.getElem?_eq_some_iff.1 hx).1
  obtain ⟨_, ao', cap', e, _, _, _, h6⟩ := h
  injection e with e
  subst e
  obtain ⟨b, o, e, hlt, hc⟩ := h6 (by omega)
  refine ⟨b, o, e, hlt, fun j u hu => ?_⟩
  have hj : j < E.sz := by have := (List.getElem?_eq_some_iff.1 hu).1; rw [E.len] at this; exact this
  have := hc (i * E.sz + j) u (by rw [E.cells_at L i x j hx hj, hu])
  rw [Nat.add_assoc]
  exact this
end
section
variable {w : World} {B n cap g size : Nat} {e : TypeId} {v : Value} {xs : List Value}
theorem Enc.own_form (h : w.ownsRow B e size v n xs) (hn : 0 < n) : ∃ g cap, v = .slice (some ⟨g, 0, none⟩) n cap ∧ B ≤ g ∧ g < w.heap.size ∧ n ≤ cap ∧ cap ≤ maxLen := by
  obtain ⟨hl, h2⟩ := h
  rcases h2 with ⟨rfl, rfl⟩ | ⟨g, cap, cur, rfl, hb, hg, hnc, hcm, hcs, ht⟩
  · omega
  · exact ⟨g, cap, rfl, hb, (Array.getElem?_eq_some_iff.1 hg).1, hnc, hcm⟩
theorem Enc.own_cut {m : Nat} (h : w.ownsRow B e size (.slice (some ⟨g, 0, none⟩) n cap) n xs) (hm : m ≤ n) : w.ownsRow B e size (.slice (some ⟨g, 0, none⟩) m cap) m (xs.take (m * size)) := by
  rcases h.2 with ⟨h', _⟩ | ⟨g', cap', cur, h', hb, hg, hnc, hcm, hcs, htake⟩
  · simp at h'
  · simp only [Value.slice.injEq, Option.some.injEq, Addr.mk.injEq, and_true, true_and] at h'
    obtain ⟨rfl, rfl⟩ := h'
    have hle : m * size ≤ n * size := Nat.mul_le_mul_right _ hm
    refine ⟨by rw [List.length_take, h.1]; omega, .inr ⟨g, cap, cur, rfl, hb, hg, by omega, hcm, hcs, ?_⟩⟩
    rw [← htake, List.take_take, Nat.min_eq_left hle]
/-- Cells laid over a list. -/
def Enc.layL (xs : List Value) : Nat → List Value → List Value
  | _, [] => xs
  | o, v :: r => Enc.layL (xs.set o v) (o + 1) r
theorem Enc.layL_app : ∀ (V A C D : List Value), D.length = V.length → Enc.layL (A ++ D ++ C) A.length V = A ++ V ++ C
  | [], A, C, D, h => by
    have : D = [] := List.eq_nil_of_length_eq_zero (by simpa using h)
    subst this
    rfl
  | v :: r, A, C, D, h => by
    match D, h with
    | d :: D, h =>
      have e1 : (A ++ (d :: D) ++ C).set A.length v = (A ++ [v]) ++ D ++ C := by
        rw [List.append_assoc, List.set_append_right _ _ (Nat.le_refl _)]
        simp
      have e2 : A.length + 1 = (A ++ [v]).length := by simp
      rw [Enc.layL, e1, e2, Enc.layL_app r (A ++ [v]) C D (by simpa using h)]
      simp
theorem Enc.own_setCells : ∀ (vs : List Value) (o : Nat) (xs : List Value) (w : World), w.ownsRow B e size (.slice (some ⟨g, 0, none⟩) n cap) n xs →
    (w.setCells g o vs).ownsRow B e size (.slice (some ⟨g, 0, none⟩) n cap) n (Enc.layL xs o vs) ∧ w.grownBy (w.setCells g o vs) (some g)
  | [], _, _, w, h => ⟨h, World.grownBy.refl w _⟩
  | u :: r, o, xs, w, h => by
    obtain ⟨h1, h2⟩ := h.stored o u
    obtain ⟨h3, h4⟩ := Enc.own_setCells r (o + 1) (xs.set o u) _ h1
    exact ⟨h3, h2.trans h4⟩
theorem Whole.setCells {t : TypeId} : ∀ (vs : List Value) (o : Nat) (cur : List Value) (w : World), Whole w g t cur → Whole (w.setCells g o vs) g t (Enc.layL cur o vs) ∧ Left [g] w (w.setCells g o vs)
  | [], _, _, w, h => ⟨h, Left.refl _ _⟩
  | u :: r, o, xs, w, h => by
    obtain ⟨h3, h4⟩ := Whole.setCells r (o + 1) (xs.set o u) _ (h.put o u)
    exact ⟨h3, (Left.setCell (S := [g]) (p := ⟨g, o, none⟩) (Left.refl [g] w) (Or.inl (List.mem_singleton.2 rfl)) u).trans h4 (fun x hx => .inl hx)⟩
theorem Whole.setAll {t : TypeId} {vs cur : List Value} {w : World} (h : Whole w g t cur) (hl : cur.length = vs.length) : Whole (w.setCells g 0 vs) g t vs ∧ Left [g] w (w.setCells g 0 vs) := by
  obtain ⟨h1, h2⟩ := Whole.setCells vs 0 cur w h
  have := Enc.layL_app vs [] [] cur hl
  simp only [List.nil_append, List.append_nil, List.length_nil] at this
  rw [this] at h1
  exact ⟨h1, h2⟩
theorem Whole.there {t : TypeId} {cs : List Value} {w : World} (h : Whole w g t cs) : w.there g 0 cs.length := fun j hj => ⟨by rw [Nat.zero_add, h.cell, List.getElem?_eq_getElem hj]; rfl, h.free _⟩
theorem Whole.range {t : TypeId} {cs : List Value} {w : World} (h : Whole w g t cs) : w.rangeAt g 0 cs := fun j v hv => by rw [Nat.zero_add, h.cell]; exact hv
theorem range_below {B b o : Nat} {cs : List Value} {w w' : World} (h : w.rangeAt b o cs) (hb : Below B w w') (hB : b < B) : w'.rangeAt b o cs := fun j v hv => (hb.cell (p := ⟨b, _, none⟩) hB).trans (h j v hv)
theorem Whole.three {t : TypeId} {a b c : Value} {w : World} (h : Whole w g t [a, b, c]) : w.cell? ⟨g, 0, none⟩ = some a ∧ w.cell? ⟨g, 1, none⟩ = some b ∧ w.cell? ⟨g, 2, none⟩ = some c ∧ w.frozen? ⟨g, 0, none⟩ = false ∧ w.frozen? ⟨g, 1, none⟩ = false ∧ w.frozen? ⟨g, 2, none⟩ = false :=
  ⟨by rw [h.cell]; rfl, by rw [h.cell]; rfl, by rw [h.cell]; rfl, h.free 0, h.free 1, h.free 2⟩
theorem results_row_tmp {P : Program} {fn : Func} {p u : Tmp} {ty : TypeId} (h : fn.results = #[.cell p ty, .tmp u]) (tmps : Array Value) (w : World) (g : Nat) (t : TypeId) (cs : Array Value) (fr : Nat × Nat) (d : TypeDesc)
    (hp : tmps.getD p undef = .pointer (some ⟨g, 0, none⟩)) (hg : w.heap[g]? = some (.cells cs t fr))
    (hu : P.underlying ty = some d) (hd : (match d with | .struct _ | .array _ _ => true | _ => false) = true) (hi : (P.info? ty).map (·.size) = some cs.size) :
    (results fn tmps).run P w = .ok (.tuple #[.agg cs, tmps.getD u undef]) w := by
  have hp' : tmps[p]?.getD undef = .pointer (some ⟨g, 0, none⟩) := by simpa using hp
  simp [results, h, hp', asAddr, Sem.run_bind, run_loadVar_row w g t ty cs fr d hg hu hd hi]
theorem results_row_tmp2 {P : Program} {fn : Func} {p u x : Tmp} {ty : TypeId} (h : fn.results = #[.cell p ty, .tmp u, .tmp x]) (tmps : Array Value) (w : World) (g : Nat) (t : TypeId) (cs : Array Value) (fr : Nat × Nat) (d : TypeDesc)
    (hp : tmps.getD p undef = .pointer (some ⟨g, 0, none⟩)) (hg : w.heap[g]? = some (.cells cs t fr))
    (hu : P.underlying ty = some d) (hd : (match d with | .struct _ | .array _ _ => true | _ => false) = true) (hi : (P.info? ty).map (·.size) = some cs.size) :
    (results fn tmps).run P w = .ok (.tuple #[.agg cs, tmps.getD u undef, tmps.getD x undef]) w := by
  have hp' : tmps[p]?.getD undef = .pointer (some ⟨g, 0, none⟩) := by simpa using hp
  simp [results, h, hp', asAddr, Sem.run_bind, run_loadVar_row w g t ty cs fr d hg hu hd hi]
theorem b_tr {w w1 w2 : World} (h : Below w.heap.size w w1) (h2 : Below w1.heap.size w1 w2) : Below w.heap.size w w2 := h.trans (h2.mono h.size)
theorem b_to {B : Nat} {w w1 w2 : World} (h : Below B w w1) (h2 : Below w1.heap.size w1 w2) (hB : B ≤ w.heap.size) : Below B w w2 := h.trans (h2.mono (Nat.le_trans hB h.size))
theorem b_cell {w w' : World} {p : Addr} {v : Value} (hb : Below w.heap.size w w') (h : w.cell? p = some v) : w'.cell? p = some v := (hb.cell (World.block_lt_of_cell? w _ h)).trans h
end
end Go.Proofs.Ytndidkaoigjbiaa
