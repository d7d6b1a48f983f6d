/- The scripts of layer 21: how an argument lies in memory; heavy, num, Within. -/

import Derived.Test.YtimjbojoeacaeaaDoorSbRef
import Derived.Test.YtimjbojoeacaeaaDoorReach
namespace Go.Proofs.YtimjbojoeacaeaaDoor
open Go.ChangeShapes Go.WideShapes Go.Deep Go.RowKit Go.Shelf Go.Proofs

theorem cellsW : Tryd.prog.cellsOf 43 = 2 := by kernel_rfl
theorem cellsA : Tryd.prog.cellsOf 45 = 4 := by kernel_rfl
theorem cellsI : Tryd.prog.cellsOf 3 = 1 := by kernel_rfl
theorem cellsT : Tryd.prog.cellsOf 9 = 1 := by kernel_rfl
set_option maxRecDepth 100000 in
theorem range_i64 {n : Int} (h : (Lit.int .i64 n).wf = true) : -9223372036854775808 ≤ n ∧ n ≤ 9223372036854775807 := by
  simpa [Lit.wf, IntKind.min, IntKind.max, IntKind.signed, IntKind.bits] using h

section
variable {H : Type} {enc : TypeId × Value → H} {w : World} {spare : Nat → Bool} {held : Bool}
set_option maxRecDepth 100000 in
theorem parse_wish {fuel : Nat} {cs : List Value} {x : DataW H × List MemPlace} (h : DataW.trod enc Tryd.prog w 0 spare held fuel 43 cs = some x) (hr : Rch Tryd.prog 43 x.1) :
    ∃ (f : ByteArray) (q : Int), cs = [.string f, .int .i64 q] ∧ f.size ≤ reachBytes ∧ -9223372036854775808 ≤ q ∧ q ≤ 9223372036854775807 := by
  obtain ⟨hl, hf⟩ := open_field Tryd.underlying43 h hr
  rw [cellsW] at hl
  obtain ⟨a, b, rfl⟩ : ∃ a b, cs = [a, b] := by
    match cs, hl with
    | [a, b], _ => exact ⟨a, b, rfl⟩
  obtain ⟨n0, y0, h0, r0⟩ := hf 0 _ rfl
  obtain ⟨n1, y1, h1, r1⟩ := hf 1 _ rfl
  have h0 : DataW.trod enc Tryd.prog w 0 spare held n0 9 (([a, b].drop 0).take (Tryd.prog.cellsOf 9)) = some y0 := h0
  have h1 : DataW.trod enc Tryd.prog w 0 spare held n1 3 (([a, b].drop 1).take (Tryd.prog.cellsOf 3)) = some y1 := h1
  rw [cellsT] at h0
  rw [cellsI] at h1
  obtain ⟨s, e0, hs⟩ := open_str Tryd.underlying9 h0 r0
  obtain ⟨q, e1, _, w1⟩ := DataW.trod_int Tryd.underlying3 h1
  simp at e0 e1
  subst e0 e1
  exact ⟨s, q, rfl, hs, range_i64 w1⟩
set_option maxRecDepth 100000 in
theorem parse_act {fuel : Nat} {cs : List Value} {x : DataW H × List MemPlace} (h : DataW.trod enc Tryd.prog w 0 spare held fuel 45 cs = some x) (hr : Rch Tryd.prog 45 x.1) :
    ∃ (d : Int) (f : ByteArray) (q : Int) (t : ByteArray), cs = [.int .i64 d, .string f, .int .i64 q, .string t] ∧ f.size ≤ reachBytes ∧ t.size ≤ reachBytes ∧ (-9223372036854775808 ≤ d ∧ d ≤ 9223372036854775807) ∧ -9223372036854775808 ≤ q ∧ q ≤ 9223372036854775807 := by
  obtain ⟨hl, hf⟩ := open_field Tryd.underlying45 h hr
  rw [cellsA] at hl
  obtain ⟨a, b, c, d, rfl⟩ : ∃ a b c d, cs = [a, b, c, d] := by
    match cs, hl with
    | [a, b, c, d], _ => exact ⟨a, b, c, d, rfl⟩
  obtain ⟨n0, y0, h0, r0⟩ := hf 0 _ rfl
  obtain ⟨n1, y1, h1, r1⟩ := hf 1 _ rfl
  obtain ⟨n2, y2, h2, r2⟩ := hf 2 _ rfl
  have h0 : DataW.trod enc Tryd.prog w 0 spare held n0 3 (([a, b, c, d].drop 0).take (Tryd.prog.cellsOf 3)) = some y0 := h0
  have h1 : DataW.trod enc Tryd.prog w 0 spare held n1 43 (([a, b, c, d].drop 1).take (Tryd.prog.cellsOf 43)) = some y1 := h1
  have h2 : DataW.trod enc Tryd.prog w 0 spare held n2 9 (([a, b, c, d].drop 3).take (Tryd.prog.cellsOf 9)) = some y2 := h2
  rw [cellsI] at h0
  rw [cellsW] at h1
  rw [cellsT] at h2
  obtain ⟨z, e0, _, w0⟩ := DataW.trod_int Tryd.underlying3 h0
  obtain ⟨f, q, e1, hfs, hq⟩ := parse_wish h1 r1
  obtain ⟨s, e2, hs⟩ := open_str Tryd.underlying9 h2 r2
  simp at e0 e1 e2
  obtain ⟨rfl, rfl⟩ := e1
  subst e0 e2
  exact ⟨z, f, q, s, rfl, hfs, hs, range_i64 w0, hq⟩
end

/-- An act: what to do, a wish, a text. -/
structure SAct where
  d : Int
  f : ByteArray
  q : Int
  t : ByteArray
def ActsAt (w : World) (Bd : Nat) (lv : Value) (A : List SAct) : Prop :=
  ∃ ao cap, lv = .slice ao A.length cap ∧ A.length ≤ cap ∧ cap ≤ 9223372036854775807 ∧
    ∀ i a, A[i]? = some a → ∃ b o, ao = some ⟨b, o, none⟩ ∧ b < Bd ∧ (w.cell? ⟨b, o + i * 4, none⟩ = some (.int .i64 a.d) ∧ w.cell? ⟨b, o + i * 4 + 1, none⟩ = some (.string a.f) ∧ w.cell? ⟨b, o + i * 4 + 2, none⟩ = some (.int .i64 a.q) ∧ w.cell? ⟨b, o + i * 4 + 3, none⟩ = some (.string a.t)) ∧
      a.f.size ≤ reachBytes ∧ a.t.size ≤ reachBytes ∧ (-9223372036854775808 ≤ a.d ∧ a.d ≤ 9223372036854775807) ∧ -9223372036854775808 ≤ a.q ∧ a.q ≤ 9223372036854775807
def ReachW (L : List Wish1) : Prop := ∀ (i : Nat) (x : Wish1), L[i]? = some x → x.f.size ≤ reachBytes ∧ -9223372036854775808 ≤ x.q ∧ x.q ≤ 9223372036854775807

theorem wCells_get (L : List Wish1) (k : Nat) (u : Value) (h : (wCells L)[k]? = some u) : ∃ x, L[k / 2]? = some x ∧ ((k % 2 = 0 ∧ u = .string x.f) ∨ (k % 2 = 1 ∧ u = .int .i64 x.q)) := by
  have hk : k < (wCells L).length := (List.getElem?_eq_some_iff.1 h).1
  rw [wCells_length] at hk
  have hlt : k / 2 < L.length := by omega
  obtain ⟨x1, x2⟩ := wCells_at L (k / 2) _ (List.getElem?_eq_getElem hlt)
  refine ⟨_, List.getElem?_eq_getElem hlt, ?_⟩
  rcases Nat.mod_two_eq_zero_or_one k with e | e
  · have : k = k / 2 * 2 := by omega
    rw [this] at h
    rw [h] at x1
    injection x1 with x1
    exact .inl ⟨e, x1⟩
  · have : k = k / 2 * 2 + 1 := by omega
    rw [this] at h
    rw [h] at x2
    injection x2 with x2
    exact .inr ⟨e, x2⟩

set_option maxRecDepth 100000 in
/-- An argument of type Script, opened. -/
theorem open_script {H : Type} {enc : TypeId × Value → H} {W : World} {base : Nat} {v : Value} {d : DataW H} {p : List MemPlace} (hv : Value.okWide Tryd.prog W .any base 39 v)
    (h0 : DataW.Trod enc Tryd.prog W 0 (fun _ => true) true 39 v d p) (hr : Rch Tryd.prog 39 d) :
    ∃ (sv lv : Value) (L : List Wish1) (A : List SAct), v = .agg #[sv, lv] ∧ Rd W W.heap.size 2 sv L.length (wCells L) ∧ ReachW L ∧ ActsAt W W.heap.size lv A ∧ L.length * 24 ≤ reachBytes := by
  obtain ⟨v0, v1, y0, y1, n, rfl, rfl, _, t0, t1⟩ := Joins.open_agg2 Tryd.underlying39 (by kernel_rfl) (by kernel_rfl) hv h0
  have r0 := rch_field (j := 0) Tryd.underlying39 hr rfl rfl
  have r1 := rch_field (j := 1) Tryd.underlying39 hr rfl rfl
  have hL : ∃ L : List Wish1, Rd W W.heap.size 2 v0 L.length (wCells L) ∧ ReachW L ∧ L.length * 24 ≤ reachBytes := by
    rcases open_elems Tryd.underlying36 (by rw [cellsW]; omega) t0 r0 with h | ⟨a, len, cap, hcs, hl, hm, hle, hrow⟩
    · injection h with h
      subst h
      exact ⟨[], Rd.nil_ _ _ _, fun i x hx => by simp at hx, by simp⟩
    · injection hcs with hcs
      subst hcs
      rw [cellsW] at hrow
      have hex : ∀ i, i < len → ∃ q : Wish1, a.spot = none ∧ a.block < W.heap.size ∧ W.cell? ⟨a.block, a.off + i * 2, none⟩ = some (.string q.f) ∧ W.cell? ⟨a.block, a.off + (i * 2 + 1), none⟩ = some (.int .i64 q.q) ∧ q.f.size ≤ reachBytes ∧ -9223372036854775808 ≤ q.q ∧ q.q ≤ 9223372036854775807 := by
        intro i hi
        obtain ⟨hs, vs, m, y, hvl, hcell, htr, hry⟩ := hrow i hi
        obtain ⟨f, q, rfl, hf, hq⟩ := parse_wish htr hry
        have c0 := hcell 0 (by omega)
        have c1 := hcell 1 (by omega)
        have hlt := World.block_lt_of_cell? W _ c0
        exact ⟨⟨f, q⟩, hs, hlt, c0, c1, hf, hq⟩
      obtain ⟨L, hal, hL⟩ := list_of_all len hex
      have hby : Tryd.prog.bytesOf 43 = 24 := by kernel_rfl
      rw [hby] at hle
      refine ⟨L, ⟨wCells_length L, some a, cap, by rw [hal], by omega, hm, (fun e => by cases e), fun hn => ?_⟩, fun i x hx => (hL i x hx).2.2.2.2, by rw [hal]; exact hle⟩
      obtain ⟨hs, hlt, _⟩ := hL 0 _ (List.getElem?_eq_getElem hn)
      obtain ⟨b, o, s⟩ := a
      simp only at hs
      subst hs
      refine ⟨b, o, rfl, hlt, fun k u hu => ?_⟩
      obtain ⟨x, hx, h⟩ := wCells_get L k u hu
      obtain ⟨_, _, c0, c1, _⟩ := hL _ x hx
      rcases h with ⟨e, rfl⟩ | ⟨e, rfl⟩
      · rw [← c0]; congr 2; simp; omega
      · rw [← c1]; congr 2; simp; omega
  have hA : ∃ A : List SAct, ActsAt W W.heap.size v1 A := by
    rcases open_elems Tryd.underlying37 (by rw [cellsA]; omega) t1 r1 with h | ⟨a, len, cap, hcs, hl, hm, hle, hrow⟩
    · injection h with h
      subst h
      exact ⟨[], none, 0, rfl, by simp, by omega, fun i x hx => by simp at hx⟩
    · injection hcs with hcs
      subst hcs
      rw [cellsA] at hrow
      have hex : ∀ i, i < len → ∃ q : SAct, a.spot = none ∧ a.block < W.heap.size ∧ (W.cell? ⟨a.block, a.off + i * 4, none⟩ = some (.int .i64 q.d) ∧ W.cell? ⟨a.block, a.off + i * 4 + 1, none⟩ = some (.string q.f) ∧ W.cell? ⟨a.block, a.off + i * 4 + 2, none⟩ = some (.int .i64 q.q) ∧ W.cell? ⟨a.block, a.off + i * 4 + 3, none⟩ = some (.string q.t)) ∧
          q.f.size ≤ reachBytes ∧ q.t.size ≤ reachBytes ∧ (-9223372036854775808 ≤ q.d ∧ q.d ≤ 9223372036854775807) ∧ -9223372036854775808 ≤ q.q ∧ q.q ≤ 9223372036854775807 := by
        intro i hi
        obtain ⟨hs, vs, m, y, hvl, hcell, htr, hry⟩ := hrow i hi
        obtain ⟨z, f, q, t, rfl, hf, ht, hz, hq⟩ := parse_act htr hry
        have c0 := hcell 0 (by omega)
        have c1 := hcell 1 (by omega)
        have c2 := hcell 2 (by omega)
        have c3 := hcell 3 (by omega)
        have hlt := World.block_lt_of_cell? W _ c0
        exact ⟨⟨z, f, q, t⟩, hs, hlt, ⟨c0, c1, c2, c3⟩, hf, ht, hz, hq⟩
      obtain ⟨A, hal, hA⟩ := list_of_all len hex
      refine ⟨A, some a, cap, by rw [hal], by omega, by unfold maxLen at hm; omega, fun i q hq => ?_⟩
      obtain ⟨hs, h1, h2, h3⟩ := hA i q hq
      obtain ⟨b, o, s⟩ := a
      simp only at hs
      subst hs
      exact ⟨b, o, rfl, h1, h2, h3⟩
  obtain ⟨L, hL1, hL2, hL3⟩ := hL
  obtain ⟨A, hA1⟩ := hA
  exact ⟨v0, v1, L, A, rfl, hL1, hL2, hA1, hL3⟩

theorem num_any (n : Int) (w : World) : Calls Tryd.prog 23 #[.int .i64 n] w fun e w' => e = .returned (.int .i64 n) ∧ w = w' := by
  go_enter Tryd.func23, Tryd.ntmps23
  go_wp2
  go_ret
  exact ⟨rfl, rfl⟩
end Go.Proofs.YtimjbojoeacaeaaDoor
