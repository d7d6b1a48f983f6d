/- The scripts of layer 22: how an argument lies in memory; heavy, num, Within. -/

import Derived.Test.YtimjbojoeacaeaaDoorKpMatch
import Derived.Test.YtimjbojoeacaeaaDoorReach
namespace Go.Proofs.YtimjbojoeacaeaaDoor
open Go.ChangeShapes Go.WideShapes Go.Deep Go.RowKit Go.Shelf Go.Proofs

theorem cellsW : Tryd.prog.cellsOf 55 = 4 := by kernel_rfl
theorem cellsA : Tryd.prog.cellsOf 57 = 6 := by kernel_rfl
theorem cellsI : Tryd.prog.cellsOf 3 = 1 := by kernel_rfl
theorem cellsB : Tryd.prog.cellsOf 4 = 1 := by kernel_rfl
theorem cellsT : Tryd.prog.cellsOf 9 = 1 := by kernel_rfl
set_option maxRecDepth 100000 in
theorem range_i64 {n : Int} (h : (Lit.int .i64 n).wf = true) : -9223372036854775808 ≤ n ∧ n ≤ 9223372036854775807 := by
  simpa [Lit.wf, IntKind.min, IntKind.max, IntKind.signed, IntKind.bits] using h

section
variable {H : Type} {enc : TypeId × Value → H} {w : World} {spare : Nat → Bool} {held : Bool}
set_option maxRecDepth 100000 in
theorem parse_wish {fuel : Nat} {cs : List Value} {x : DataW H × List MemPlace} (h : DataW.trod enc Tryd.prog w 0 spare held fuel 55 cs = some x) (hr : Rch Tryd.prog 55 x.1) :
    ∃ (f p : ByteArray) (q : Int) (r : Bool), cs = [.string f, .string p, .int .i64 q, .bool r] ∧ f.size ≤ reachBytes ∧ p.size ≤ reachBytes ∧ -9223372036854775808 ≤ q ∧ q ≤ 9223372036854775807 := by
  obtain ⟨hl, hf⟩ := open_field Tryd.underlying55 h hr
  rw [cellsW] at hl
  obtain ⟨a, b, c, d, rfl⟩ : ∃ a b c d, cs = [a, b, c, d] := by
    match cs, hl with
    | [a, b, c, d], _ => exact ⟨a, b, c, d, rfl⟩
  obtain ⟨n0, y0, h0, r0⟩ := hf 0 _ rfl
  obtain ⟨n1, y1, h1, r1⟩ := hf 1 _ rfl
  obtain ⟨n2, y2, h2, r2⟩ := hf 2 _ rfl
  obtain ⟨n3, y3, h3, r3⟩ := hf 3 _ rfl
  have h0 : DataW.trod enc Tryd.prog w 0 spare held n0 9 (([a, b, c, d].drop 0).take (Tryd.prog.cellsOf 9)) = some y0 := h0
  have h1 : DataW.trod enc Tryd.prog w 0 spare held n1 9 (([a, b, c, d].drop 1).take (Tryd.prog.cellsOf 9)) = some y1 := h1
  have h2 : DataW.trod enc Tryd.prog w 0 spare held n2 3 (([a, b, c, d].drop 2).take (Tryd.prog.cellsOf 3)) = some y2 := h2
  have h3 : DataW.trod enc Tryd.prog w 0 spare held n3 4 (([a, b, c, d].drop 3).take (Tryd.prog.cellsOf 4)) = some y3 := h3
  rw [cellsT] at h0 h1
  rw [cellsI] at h2
  rw [cellsB] at h3
  obtain ⟨s, e0, hs⟩ := open_str Tryd.underlying9 h0 r0
  obtain ⟨s1, e1, hs1⟩ := open_str Tryd.underlying9 h1 r1
  obtain ⟨q, e2, _, w1⟩ := DataW.trod_int Tryd.underlying3 h2
  obtain ⟨r, e3, _⟩ := DataW.trod_bool Tryd.underlying4 h3
  simp at e0 e1 e2 e3
  subst e0 e1 e2 e3
  exact ⟨s, s1, q, r, rfl, hs, hs1, range_i64 w1⟩
set_option maxRecDepth 100000 in
theorem parse_act {fuel : Nat} {cs : List Value} {x : DataW H × List MemPlace} (h : DataW.trod enc Tryd.prog w 0 spare held fuel 57 cs = some x) (hr : Rch Tryd.prog 57 x.1) :
    ∃ (z : Int) (f p : ByteArray) (q : Int) (r : Bool) (t : ByteArray), cs = [.int .i64 z, .string f, .string p, .int .i64 q, .bool r, .string t] ∧ f.size ≤ reachBytes ∧ p.size ≤ reachBytes ∧ t.size ≤ reachBytes ∧ (-9223372036854775808 ≤ z ∧ z ≤ 9223372036854775807) ∧ -9223372036854775808 ≤ q ∧ q ≤ 9223372036854775807 := by
  obtain ⟨hl, hf⟩ := open_field Tryd.underlying57 h hr
  rw [cellsA] at hl
  obtain ⟨a, b, c, d, e, g, rfl⟩ : ∃ a b c d e g, cs = [a, b, c, d, e, g] := by
    match cs, hl with
    | [a, b, c, d, e, g], _ => exact ⟨a, b, c, d, e, g, rfl⟩
  obtain ⟨n0, y0, h0, r0⟩ := hf 0 _ rfl
  obtain ⟨n1, y1, h1, r1⟩ := hf 1 _ rfl
  obtain ⟨n2, y2, h2, r2⟩ := hf 2 _ rfl
  have h0 : DataW.trod enc Tryd.prog w 0 spare held n0 3 (([a, b, c, d, e, g].drop 0).take (Tryd.prog.cellsOf 3)) = some y0 := h0
  have h1 : DataW.trod enc Tryd.prog w 0 spare held n1 55 (([a, b, c, d, e, g].drop 1).take (Tryd.prog.cellsOf 55)) = some y1 := h1
  have h2 : DataW.trod enc Tryd.prog w 0 spare held n2 9 (([a, b, c, d, e, g].drop 5).take (Tryd.prog.cellsOf 9)) = some y2 := h2
  rw [cellsI] at h0
  rw [cellsW] at h1
  rw [cellsT] at h2
  obtain ⟨z, e0, _, w0⟩ := DataW.trod_int Tryd.underlying3 h0
  obtain ⟨f, p, q, r, e1, hfs, hps, hq⟩ := parse_wish h1 r1
  obtain ⟨s, e2, hs⟩ := open_str Tryd.underlying9 h2 r2
  simp at e0 e1 e2
  obtain ⟨rfl, rfl, rfl, rfl⟩ := e1
  subst e0 e2
  exact ⟨z, f, p, q, r, s, rfl, hfs, hps, hs, range_i64 w0, hq⟩
end

/-- An act: what to do, a message, a filter. -/
structure SAct where
  d : Int
  m : Msg1
  t : ByteArray
def ActsAt (w : World) (Bd : Nat) (lv : Value) (A : List SAct) : Prop :=
  ∃ ao cap, lv = .slice ao A.length cap ∧ A.length ≤ cap ∧ cap ≤ 9223372036854775807 ∧
    ∀ i a, A[i]? = some a → ∃ b o, ao = some ⟨b, o, none⟩ ∧ b < Bd ∧ (w.cell? ⟨b, o + i * 6, none⟩ = some (.int .i64 a.d) ∧ w.cell? ⟨b, o + i * 6 + 1, none⟩ = some (.string a.m.f) ∧ w.cell? ⟨b, o + i * 6 + 2, none⟩ = some (.string a.m.p) ∧ w.cell? ⟨b, o + i * 6 + 3, none⟩ = some (.int .i64 a.m.q) ∧ w.cell? ⟨b, o + i * 6 + 4, none⟩ = some (.bool a.m.r) ∧ w.cell? ⟨b, o + i * 6 + 5, none⟩ = some (.string a.t)) ∧
      a.m.f.size ≤ reachBytes ∧ a.m.p.size ≤ reachBytes ∧ a.t.size ≤ reachBytes ∧ (-9223372036854775808 ≤ a.d ∧ a.d ≤ 9223372036854775807) ∧ -9223372036854775808 ≤ a.m.q ∧ a.m.q ≤ 9223372036854775807
theorem ActsAt.below {w w' : World} {Bd : Nat} {lv : Value} {A : List SAct} (h : ActsAt w Bd lv A) (hb : Below Bd w w') : ActsAt w' Bd lv A := by
  obtain ⟨ao, cap, h1, h2, h3, h4⟩ := h
  refine ⟨ao, cap, h1, h2, h3, fun i a ha => ?_⟩
  obtain ⟨b, o, e, hl, ⟨c0, c1, c2, c3, c4, c5⟩, hr⟩ := h4 i a ha
  exact ⟨b, o, e, hl, ⟨(hb.cell (p := ⟨b, _, none⟩) hl).trans c0, (hb.cell (p := ⟨b, _, none⟩) hl).trans c1, (hb.cell (p := ⟨b, _, none⟩) hl).trans c2, (hb.cell (p := ⟨b, _, none⟩) hl).trans c3, (hb.cell (p := ⟨b, _, none⟩) hl).trans c4, (hb.cell (p := ⟨b, _, none⟩) hl).trans c5⟩, hr⟩
theorem ActsAt.more {w : World} {Bd B' : Nat} {lv : Value} {A : List SAct} (h : ActsAt w Bd lv A) (hB : Bd ≤ B') : ActsAt w B' lv A := by
  obtain ⟨ao, cap, h1, h2, h3, h4⟩ := h
  refine ⟨ao, cap, h1, h2, h3, fun i a ha => ?_⟩
  obtain ⟨b, o, e, hl, hr⟩ := h4 i a ha
  exact ⟨b, o, e, by omega, hr⟩
def ReachW (L : List Msg1) : Prop := ∀ (i : Nat) (x : Msg1), L[i]? = some x → x.f.size ≤ reachBytes ∧ x.p.size ≤ reachBytes ∧ -9223372036854775808 ≤ x.q ∧ x.q ≤ 9223372036854775807

theorem wCells_get (L : List Msg1) (k : Nat) (u : Value) (h : (wCells L)[k]? = some u) : ∃ x, L[k / 4]? = some x ∧ ((k % 4 = 0 ∧ u = .string x.f) ∨ (k % 4 = 1 ∧ u = .string x.p) ∨ (k % 4 = 2 ∧ u = .int .i64 x.q) ∨ (k % 4 = 3 ∧ u = .bool x.r)) := by
  have hk : k < (wCells L).length := (List.getElem?_eq_some_iff.1 h).1
  rw [wCells_length] at hk
  have hlt : k / 4 < L.length := by omega
  obtain ⟨x1, x2, x3, x4⟩ := wCells_at L (k / 4) _ (List.getElem?_eq_getElem hlt)
  refine ⟨_, List.getElem?_eq_getElem hlt, ?_⟩
  have h4 : k % 4 = 0 ∨ k % 4 = 1 ∨ k % 4 = 2 ∨ k % 4 = 3 := by omega
  rcases h4 with e | e | e | e
  · have : k = k / 4 * 4 := by omega
    rw [this] at h; rw [h] at x1; injection x1 with x1; exact .inl ⟨e, x1⟩
  · have : k = k / 4 * 4 + 1 := by omega
    rw [this] at h; rw [h] at x2; injection x2 with x2; exact .inr (.inl ⟨e, x2⟩)
  · have : k = k / 4 * 4 + 2 := by omega
    rw [this] at h; rw [h] at x3; injection x3 with x3; exact .inr (.inr (.inl ⟨e, x3⟩))
  · have : k = k / 4 * 4 + 3 := by omega
    rw [this] at h; rw [h] at x4; injection x4 with x4; exact .inr (.inr (.inr ⟨e, x4⟩))

set_option maxRecDepth 100000 in
/-- An argument of type Script, opened. -/
theorem open_script {H : Type} {enc : TypeId × Value → H} {W : World} {base : Nat} {v : Value} {d : DataW H} {p : List MemPlace} (hv : Value.okWide Tryd.prog W .any base 52 v)
    (h0 : DataW.Trod enc Tryd.prog W 0 (fun _ => true) true 52 v d p) (hr : Rch Tryd.prog 52 d) :
    ∃ (sv lv : Value) (L : List Msg1) (A : List SAct), v = .agg #[sv, lv] ∧ Rd W W.heap.size 4 sv L.length (wCells L) ∧ ReachW L ∧ ActsAt W W.heap.size lv A ∧ L.length * 48 ≤ reachBytes := by
  obtain ⟨v0, v1, y0, y1, n, rfl, rfl, _, t0, t1⟩ := Joins.open_agg2 Tryd.underlying52 (by kernel_rfl) (by kernel_rfl) hv h0
  have r0 := rch_field (j := 0) Tryd.underlying52 hr rfl rfl
  have r1 := rch_field (j := 1) Tryd.underlying52 hr rfl rfl
  have hL : ∃ L : List Msg1, Rd W W.heap.size 4 v0 L.length (wCells L) ∧ ReachW L ∧ L.length * 48 ≤ reachBytes := by
    rcases open_elems Tryd.underlying49 (by rw [cellsW]; omega) t0 r0 with h | ⟨a, len, cap, hcs, hl, hm, hle, hrow⟩
    · injection h with h
      subst h
      exact ⟨[], Rd.nil_ _ _ _, fun i x hx => by simp at hx, by simp⟩
    · injection hcs with hcs
      subst hcs
      rw [cellsW] at hrow
      have hex : ∀ i, i < len → ∃ q : Msg1, a.spot = none ∧ a.block < W.heap.size ∧ (W.cell? ⟨a.block, a.off + i * 4, none⟩ = some (.string q.f) ∧ W.cell? ⟨a.block, a.off + (i * 4 + 1), none⟩ = some (.string q.p) ∧ W.cell? ⟨a.block, a.off + (i * 4 + 2), none⟩ = some (.int .i64 q.q) ∧ W.cell? ⟨a.block, a.off + (i * 4 + 3), none⟩ = some (.bool q.r)) ∧ q.f.size ≤ reachBytes ∧ q.p.size ≤ reachBytes ∧ -9223372036854775808 ≤ q.q ∧ q.q ≤ 9223372036854775807 := by
        intro i hi
        obtain ⟨hs, vs, m, y, hvl, hcell, htr, hry⟩ := hrow i hi
        obtain ⟨f, p, q, r, rfl, hf, hp, hq⟩ := parse_wish htr hry
        have c0 := hcell 0 (by omega)
        have c1 := hcell 1 (by omega)
        have c2 := hcell 2 (by omega)
        have c3 := hcell 3 (by omega)
        have hlt := World.block_lt_of_cell? W _ c0
        exact ⟨⟨f, p, q, r⟩, hs, hlt, ⟨c0, c1, c2, c3⟩, hf, hp, hq⟩
      obtain ⟨L, hal, hL⟩ := list_of_all len hex
      have hby : Tryd.prog.bytesOf 55 = 48 := by kernel_rfl
      rw [hby] at hle
      refine ⟨L, ⟨wCells_length L, some a, cap, by rw [hal], by omega, hm, (fun e => by cases e), fun hn => ?_⟩, fun i x hx => (hL i x hx).2.2.2, by rw [hal]; exact hle⟩
      obtain ⟨hs, hlt, _⟩ := hL 0 _ (List.getElem?_eq_getElem hn)
      obtain ⟨b, o, s⟩ := a
      simp only at hs
      subst hs
      refine ⟨b, o, rfl, hlt, fun k u hu => ?_⟩
      obtain ⟨x, hx, h⟩ := wCells_get L k u hu
      obtain ⟨_, _, ⟨c0, c1, c2, c3⟩, _⟩ := hL _ x hx
      rcases h with ⟨e, rfl⟩ | ⟨e, rfl⟩ | ⟨e, rfl⟩ | ⟨e, rfl⟩
      · rw [← c0]; congr 2; simp; omega
      · rw [← c1]; congr 2; simp; omega
      · rw [← c2]; congr 2; simp; omega
      · rw [← c3]; congr 2; simp; omega
  have hA : ∃ A : List SAct, ActsAt W W.heap.size v1 A := by
    rcases open_elems Tryd.underlying50 (by rw [cellsA]; omega) t1 r1 with h | ⟨a, len, cap, hcs, hl, hm, hle, hrow⟩
    · injection h with h
      subst h
      exact ⟨[], none, 0, rfl, by simp, by omega, fun i x hx => by simp at hx⟩
    · injection hcs with hcs
      subst hcs
      rw [cellsA] at hrow
      have hex : ∀ i, i < len → ∃ a' : SAct, a.spot = none ∧ a.block < W.heap.size ∧ (W.cell? ⟨a.block, a.off + i * 6, none⟩ = some (.int .i64 a'.d) ∧ W.cell? ⟨a.block, a.off + i * 6 + 1, none⟩ = some (.string a'.m.f) ∧ W.cell? ⟨a.block, a.off + i * 6 + 2, none⟩ = some (.string a'.m.p) ∧ W.cell? ⟨a.block, a.off + i * 6 + 3, none⟩ = some (.int .i64 a'.m.q) ∧ W.cell? ⟨a.block, a.off + i * 6 + 4, none⟩ = some (.bool a'.m.r) ∧ W.cell? ⟨a.block, a.off + i * 6 + 5, none⟩ = some (.string a'.t)) ∧
          a'.m.f.size ≤ reachBytes ∧ a'.m.p.size ≤ reachBytes ∧ a'.t.size ≤ reachBytes ∧ (-9223372036854775808 ≤ a'.d ∧ a'.d ≤ 9223372036854775807) ∧ -9223372036854775808 ≤ a'.m.q ∧ a'.m.q ≤ 9223372036854775807 := by
        intro i hi
        obtain ⟨hs, vs, m, y, hvl, hcell, htr, hry⟩ := hrow i hi
        obtain ⟨z, f, p, q, r, t, rfl, hf, hp, ht, hz, hq⟩ := parse_act htr hry
        have c0 := hcell 0 (by omega)
        have c1 := hcell 1 (by omega)
        have c2 := hcell 2 (by omega)
        have c3 := hcell 3 (by omega)
        have c4 := hcell 4 (by omega)
        have c5 := hcell 5 (by omega)
        have hlt := World.block_lt_of_cell? W _ c0
        exact ⟨⟨z, ⟨f, p, q, r⟩, t⟩, hs, hlt, ⟨c0, c1, c2, c3, c4, c5⟩, hf, hp, ht, hz, hq⟩
      obtain ⟨A, hal, hA⟩ := list_of_all len hex
      refine ⟨A, some a, cap, by rw [hal], by omega, by unfold maxLen at hm; omega, fun i q hq => ?_⟩
      obtain ⟨hs, h1, h2, h3⟩ := hA i q hq
      obtain ⟨b, o, s⟩ := a
      simp only at hs
      subst hs
      exact ⟨b, o, rfl, h1, h2, h3⟩
  obtain ⟨L, hL1, hL2, hL3⟩ := hL
  obtain ⟨A, hA1⟩ := hA
  exact ⟨v0, v1, L, A, rfl, hL1, hL2, hA1, hL3⟩

theorem num_any (n : Int) (w : World) : Calls Tryd.prog 28 #[.int .i64 n] w fun e w' => e = .returned (.int .i64 n) ∧ w = w' := by
  go_enter Tryd.func28, Tryd.ntmps28
  go_wp2
  go_ret
  exact ⟨rfl, rfl⟩
end Go.Proofs.YtimjbojoeacaeaaDoor
