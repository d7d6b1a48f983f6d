/- The scripts of layer 23: how an argument lies in memory. -/

import Derived.Test.YtndidkaoigjbiaaObWak
import Derived.Test.YtndidkaoigjbiaaReach
namespace Go.Proofs.Ytndidkaoigjbiaa
open Go.ChangeShapes Go.WideShapes Go.Deep Go.RowKit
theorem cellsM : Try.prog.cellsOf 34 = 4 := by kernel_rfl
theorem cellsF : Try.prog.cellsOf 61 = 6 := by kernel_rfl
theorem cellsO : Try.prog.cellsOf 25 = 3 := by kernel_rfl
theorem cellsA : Try.prog.cellsOf 36 = 8 := by kernel_rfl
theorem cellsS : Try.prog.cellsOf 28 = 4 := by kernel_rfl
theorem cellsI : Try.prog.cellsOf 3 = 1 := by kernel_rfl
theorem cellsB : Try.prog.cellsOf 4 = 1 := by kernel_rfl
theorem cellsT : Try.prog.cellsOf 9 = 1 := by kernel_rfl
/-- An act's cells. -/
structure AC where
  d : Int
  id : Int
  m : Msg
  up : Bool
  fit : Bool
def acC (a : AC) : List Value := [.int .i64 a.d, .int .i64 a.id, .string a.m.t, .string a.m.p, .int .i64 a.m.q, .bool a.m.r, .bool a.up, .bool a.fit]
def eA : Enc AC := ⟨acC, 8, fun _ => rfl, fun x u hu => by
  simp only [acC, List.mem_cons, List.mem_nil_iff, or_false] at hu
  rcases hu with rfl | rfl | rfl | rfl | rfl | rfl | rfl | rfl <;> rfl⟩
section
variable {H : Type} {enc : TypeId × Value → H} {w : World} {spare : Nat → Bool} {held : Bool}
set_option maxRecDepth 100000 in
theorem parse_msg {fuel : Nat} {cs : List Value} {x : DataW H × List MemPlace} (h : DataW.trod enc Try.prog w 0 spare held fuel 34 cs = some x) (hr : Rch Try.prog 34 x.1) : ∃ m : Msg, cs = msgC m := by
  obtain ⟨hl, hf⟩ := open_field Try.underlying34 h hr
  rw [cellsM] at hl
  obtain ⟨a, b, c, d, rfl⟩ : ∃ a b c d, cs = [a, b, c, d] := by
    match cs, hl with
    | [a, b, c, d], _ => exact ⟨a, b, c, d, rfl⟩
  obtain ⟨n0, y0, h0, r0⟩ := hf 0 _ rfl
  obtain ⟨n1, y1, h1, r1⟩ := hf 1 _ rfl
  obtain ⟨n2, y2, h2, r2⟩ := hf 2 _ rfl
  obtain ⟨n3, y3, h3, r3⟩ := hf 3 _ rfl
  have h0 : DataW.trod enc Try.prog w 0 spare held n0 9 (([a, b, c, d].drop 0).take (Try.prog.cellsOf 9)) = some y0 := h0
  have h1 : DataW.trod enc Try.prog w 0 spare held n1 9 (([a, b, c, d].drop 1).take (Try.prog.cellsOf 9)) = some y1 := h1
  have h2 : DataW.trod enc Try.prog w 0 spare held n2 3 (([a, b, c, d].drop 2).take (Try.prog.cellsOf 3)) = some y2 := h2
  have h3 : DataW.trod enc Try.prog w 0 spare held n3 4 (([a, b, c, d].drop 3).take (Try.prog.cellsOf 4)) = some y3 := h3
  rw [cellsT] at h0 h1
  rw [cellsI] at h2
  rw [cellsB] at h3
  obtain ⟨s, e0, hs⟩ := open_str Try.underlying9 h0 r0
  obtain ⟨s1, e1, hs1⟩ := open_str Try.underlying9 h1 r1
  obtain ⟨q, e2, _, w1⟩ := DataW.trod_int Try.underlying3 h2
  obtain ⟨r, e3, _⟩ := DataW.trod_bool Try.underlying4 h3
  simp at e0 e1 e2 e3
  subst e0 e1 e2 e3
  exact ⟨⟨s, s1, q, r⟩, rfl⟩
set_option maxRecDepth 100000 in
theorem parse_fl {fuel : Nat} {cs : List Value} {x : DataW H × List MemPlace} (h : DataW.trod enc Try.prog w 0 spare held fuel 61 cs = some x) (hr : Rch Try.prog 61 x.1) : ∃ f : Fl, cs = flC f := by
  obtain ⟨hl, hf⟩ := open_field Try.underlying61 h hr
  rw [cellsF] at hl
  obtain ⟨a, b, c, d, e, g, rfl⟩ : ∃ a b c d e g, cs = [a, b, c, d, e, g] := by
    match cs, hl with
    | [a, b, c, d, e, g], _ => exact ⟨a, b, c, d, e, g, rfl⟩
  obtain ⟨n0, y0, h0, r0⟩ := hf 0 _ rfl
  obtain ⟨n1, y1, h1, r1⟩ := hf 1 _ rfl
  obtain ⟨n2, y2, h2, r2⟩ := hf 2 _ rfl
  have h0 : DataW.trod enc Try.prog w 0 spare held n0 3 (([a, b, c, d, e, g].drop 0).take (Try.prog.cellsOf 3)) = some y0 := h0
  have h1 : DataW.trod enc Try.prog w 0 spare held n1 34 (([a, b, c, d, e, g].drop 1).take (Try.prog.cellsOf 34)) = some y1 := h1
  have h2 : DataW.trod enc Try.prog w 0 spare held n2 4 (([a, b, c, d, e, g].drop 5).take (Try.prog.cellsOf 4)) = some y2 := h2
  rw [cellsI] at h0
  rw [cellsM] at h1
  rw [cellsB] at h2
  obtain ⟨z, e0, _, w0⟩ := DataW.trod_int Try.underlying3 h0
  obtain ⟨m, e1⟩ := parse_msg h1 r1
  obtain ⟨r, e2, _⟩ := DataW.trod_bool Try.underlying4 h2
  simp [msgC] at e0 e1 e2
  obtain ⟨rfl, rfl, rfl, rfl⟩ := e1
  subst e0 e2
  exact ⟨⟨z, m, r⟩, rfl⟩
set_option maxRecDepth 100000 in
theorem parse_act {fuel : Nat} {cs : List Value} {x : DataW H × List MemPlace} (h : DataW.trod enc Try.prog w 0 spare held fuel 36 cs = some x) (hr : Rch Try.prog 36 x.1) : ∃ a : AC, cs = acC a := by
  obtain ⟨hl, hf⟩ := open_field Try.underlying36 h hr
  rw [cellsA] at hl
  obtain ⟨a, b, c, d, e, g, i, j, rfl⟩ : ∃ a b c d e g i j, cs = [a, b, c, d, e, g, i, j] := by
    match cs, hl with
    | [a, b, c, d, e, g, i, j], _ => exact ⟨a, b, c, d, e, g, i, j, rfl⟩
  obtain ⟨n0, y0, h0, r0⟩ := hf 0 _ rfl
  obtain ⟨n1, y1, h1, r1⟩ := hf 1 _ rfl
  obtain ⟨n2, y2, h2, r2⟩ := hf 2 _ rfl
  obtain ⟨n3, y3, h3, r3⟩ := hf 3 _ rfl
  obtain ⟨n4, y4, h4, r4⟩ := hf 4 _ rfl
  have h0 : DataW.trod enc Try.prog w 0 spare held n0 3 (([a, b, c, d, e, g, i, j].drop 0).take (Try.prog.cellsOf 3)) = some y0 := h0
  have h1 : DataW.trod enc Try.prog w 0 spare held n1 3 (([a, b, c, d, e, g, i, j].drop 1).take (Try.prog.cellsOf 3)) = some y1 := h1
  have h2 : DataW.trod enc Try.prog w 0 spare held n2 34 (([a, b, c, d, e, g, i, j].drop 2).take (Try.prog.cellsOf 34)) = some y2 := h2
  have h3 : DataW.trod enc Try.prog w 0 spare held n3 4 (([a, b, c, d, e, g, i, j].drop 6).take (Try.prog.cellsOf 4)) = some y3 := h3
  have h4 : DataW.trod enc Try.prog w 0 spare held n4 4 (([a, b, c, d, e, g, i, j].drop 7).take (Try.prog.cellsOf 4)) = some y4 := h4
  rw [cellsI] at h0 h1
  rw [cellsM] at h2
  rw [cellsB] at h3 h4
  obtain ⟨z, e0, _, w0⟩ := DataW.trod_int Try.underlying3 h0
  obtain ⟨z1, e1, _, w1⟩ := DataW.trod_int Try.underlying3 h1
  obtain ⟨m, e2⟩ := parse_msg h2 r2
  obtain ⟨u, e3, _⟩ := DataW.trod_bool Try.underlying4 h3
  obtain ⟨t, e4, _⟩ := DataW.trod_bool Try.underlying4 h4
  simp [msgC] at e0 e1 e2 e3 e4
  obtain ⟨rfl, rfl, rfl, rfl⟩ := e2
  subst e0 e1 e3 e4
  exact ⟨⟨z, z1, m, u, t⟩, rfl⟩
/-- A row of things, opened. -/
theorem open_enc {α : Type} (E : Enc α) {t e : TypeId} {fuel : Nat} {v : Value} {x : DataW H × List MemPlace} (ht : Try.prog.underlying t = some (.slice e)) (hc : Try.prog.cellsOf e = E.sz) (hpos : 0 < E.sz)
    (hp : ∀ {fuel : Nat} {cs : List Value} {x : DataW H × List MemPlace}, DataW.trod enc Try.prog w 0 spare held fuel e cs = some x → Rch Try.prog e x.1 → ∃ a : α, cs = E.c a)
    (h : DataW.trod enc Try.prog w 0 spare held fuel t [v] = some x) (hr : Rch Try.prog t x.1) : ∃ L : List α, Rd w w.heap.size E.sz v L.length (E.cells L) := by
  rcases open_elems ht (by rw [hc]; exact hpos) h hr with h | ⟨a, len, cap, hcs, hl, hm, hle, hrow⟩
  · injection h with h
    subst h
    exact ⟨[], Rd.nil_ _ _ _⟩
  · injection hcs with hcs
    subst hcs
    rw [hc] at hrow
    have hex : ∀ i, i < len → ∃ q : α, a.spot = none ∧ ∀ j, j < E.sz → w.cell? ⟨a.block, a.off + (i * E.sz + j), none⟩ = (E.c q)[j]? := by
      intro i hi
      obtain ⟨hs, vs, m, y, hvl, hcell, htr, hry⟩ := hrow i hi
      obtain ⟨q, rfl⟩ := hp htr hry
      exact ⟨q, hs, hcell⟩
    obtain ⟨L, hal, hL⟩ := list_of_all len hex
    refine ⟨L, ⟨E.cells_length L, some a, cap, by rw [hal], by omega, hm, (fun e => by cases e), fun hn => ?_⟩⟩
    obtain ⟨hs, hat⟩ := hL 0 _ (List.getElem?_eq_getElem hn)
    obtain ⟨b, o, s⟩ := a
    simp only at hs
    subst hs
    have hlt : b < w.heap.size := by
      have h0 := hat 0 hpos
      rw [List.getElem?_eq_getElem (by rw [E.len]; exact hpos)] at h0
      exact World.block_lt_of_cell? w _ h0
    refine ⟨b, o, rfl, hlt, fun k u hu => ?_⟩
    have hk : k < (E.cells L).length := (List.getElem?_eq_some_iff.1 hu).1
    rw [E.cells_length] at hk
    have hkl : k / E.sz < L.length := Nat.div_lt_of_lt_mul (by rw [Nat.mul_comm]; exact hk)
    have hkm : k % E.sz < E.sz := Nat.mod_lt _ hpos
    have e : k = k / E.sz * E.sz + k % E.sz := by rw [Nat.mul_comm]; exact (Nat.div_add_mod k E.sz).symm
    obtain ⟨_, hq⟩ := hL (k / E.sz) _ (List.getElem?_eq_getElem hkl)
    have h1 := E.cells_at L (k / E.sz) _ (k % E.sz) (List.getElem?_eq_getElem hkl) hkm
    rw [← e, hu] at h1
    have h2 := hq (k % E.sz) hkm
    rw [← e, ← h1] at h2
    exact h2
set_option maxRecDepth 100000 in
/-- An argument of type Script, opened. -/
theorem open_script {base : Nat} {v : Value} {d : DataW H} {p : List MemPlace} (hv : Value.okWide Try.prog w .any base 28 v) (h0 : DataW.Trod enc Try.prog w 0 spare held 28 v d p) (hr : Rch Try.prog 28 d) :
    ∃ (last : Int) (fv qv lv : Value) (F : List Fl) (Q : List Msg) (A : List AC), v = .agg #[.int .i64 last, fv, qv, lv] ∧ Rd w w.heap.size 6 fv F.length (eF.cells F) ∧ Rd w w.heap.size 4 qv Q.length (eM.cells Q) ∧ Rd w w.heap.size 8 lv A.length (eA.cells A) := by
  obtain ⟨cs, rfl, hsz⟩ := okWide_struct Try.underlying28 hv
  obtain ⟨c0, c1, c2, c3, rfl⟩ := Joins.array4 (hsz.trans cellsS)
  obtain ⟨fuel, hf⟩ := h0
  obtain ⟨_, hfl⟩ := open_field Try.underlying28 hf hr
  obtain ⟨n0, y0, h0, r0⟩ := hfl 0 _ rfl
  obtain ⟨n1, y1, h1, r1⟩ := hfl 1 _ rfl
  have h0 : DataW.trod enc Try.prog w 0 spare held n0 25 (([c0, c1, c2, c3].drop 0).take (Try.prog.cellsOf 25)) = some y0 := h0
  have h1 : DataW.trod enc Try.prog w 0 spare held n1 26 (([c0, c1, c2, c3].drop 3).take (Try.prog.cellsOf 26)) = some y1 := h1
  rw [cellsO] at h0
  rw [show Try.prog.cellsOf 26 = 1 by kernel_rfl] at h1
  obtain ⟨_, hfo⟩ := open_field Try.underlying25 h0 r0
  obtain ⟨n2, y2, h2, r2⟩ := hfo 0 _ rfl
  obtain ⟨n3, y3, h3, r3⟩ := hfo 1 _ rfl
  obtain ⟨n4, y4, h4, r4⟩ := hfo 2 _ rfl
  have h2 : DataW.trod enc Try.prog w 0 spare held n2 3 (([c0, c1, c2].drop 0).take (Try.prog.cellsOf 3)) = some y2 := h2
  have h3 : DataW.trod enc Try.prog w 0 spare held n3 22 (([c0, c1, c2].drop 1).take (Try.prog.cellsOf 22)) = some y3 := h3
  have h4 : DataW.trod enc Try.prog w 0 spare held n4 23 (([c0, c1, c2].drop 2).take (Try.prog.cellsOf 23)) = some y4 := h4
  rw [cellsI] at h2
  rw [show Try.prog.cellsOf 22 = 1 by kernel_rfl] at h3
  rw [show Try.prog.cellsOf 23 = 1 by kernel_rfl] at h4
  obtain ⟨z, e2, _, _⟩ := DataW.trod_int Try.underlying3 h2
  simp at e2
  subst e2
  obtain ⟨F, hF⟩ := open_enc eF Try.underlying22 cellsF (by decide) parse_fl (show DataW.trod enc Try.prog w 0 spare held n3 22 [c1] = some y3 from h3) r3
  obtain ⟨Q, hQ⟩ := open_enc eM Try.underlying23 cellsM (by decide) parse_msg (show DataW.trod enc Try.prog w 0 spare held n4 23 [c2] = some y4 from h4) r4
  obtain ⟨A, hA⟩ := open_enc eA Try.underlying26 cellsA (by decide) parse_act (show DataW.trod enc Try.prog w 0 spare held n1 26 [c3] = some y1 from h1) r1
  exact ⟨z, c1, c2, c3, F, Q, A, rfl, hF, hQ, hA⟩
end
end Go.Proofs.Ytndidkaoigjbiaa
