/- Brokers as an argument: how they lie in memory. -/

import Derived.Test.YtlehkaibbkblkaaDoorRcWei
import Derived.Test.YtlehkaibbkblkaaDoorReach
namespace Go.Proofs.YtlehkaibbkblkaaDoor
open Go.ChangeShapes Go.WideShapes Go.Deep Go.RowKit
theorem cellsM : Tryd.prog.cellsOf 75 = 4 := by kernel_rfl
theorem cellsF : Tryd.prog.cellsOf 78 = 6 := by kernel_rfl
theorem cellsW : Tryd.prog.cellsOf 73 = 2 := by kernel_rfl
theorem cellsS : Tryd.prog.cellsOf 55 = 15 := by kernel_rfl
theorem cellsBr : Tryd.prog.cellsOf 28 = 3 := by kernel_rfl
theorem cellsI : Tryd.prog.cellsOf 3 = 1 := by kernel_rfl
theorem cellsB : Tryd.prog.cellsOf 4 = 1 := by kernel_rfl
theorem cellsT : Tryd.prog.cellsOf 9 = 1 := by kernel_rfl
theorem reach_RR : reachBytes ≤ RR := by unfold reachBytes RR; omega
section
variable {H : Type} {enc : TypeId × Value → H} {w : World} {spare : Nat → Bool} {held : Bool}
theorem open_str' {fuel : Nat} {cs : List Value} {x : DataW H × List MemPlace} (h : DataW.trod enc Tryd.prog w 0 spare held fuel 9 cs = some x) (hr : Rch Tryd.prog 9 x.1) : ∃ s : ByteArray, cs = [.string s] ∧ s.size ≤ RR := by
  obtain ⟨s, e0, hs⟩ := open_str Tryd.underlying9 h hr
  exact ⟨s, e0, Nat.le_trans hs reach_RR⟩
/-- A row of things, opened. -/
theorem open_list {α : Type} (E : Enc α) (Q : α → Prop) {t e : TypeId} {fuel : Nat} {v : Value} {x : DataW H × List MemPlace} (ht : Tryd.prog.underlying t = some (.slice e)) (hc : Tryd.prog.cellsOf e = E.sz) (hpos : 0 < E.sz) (hby : 0 < Tryd.prog.bytesOf e)
    (hp : ∀ {fuel : Nat} {cs : List Value} {x : DataW H × List MemPlace}, DataW.trod enc Tryd.prog w 0 spare held fuel e cs = some x → Rch Tryd.prog e x.1 → ∃ a : α, cs = E.c a ∧ Q a)
    (h : DataW.trod enc Tryd.prog w 0 spare held fuel t [v] = some x) (hr : Rch Tryd.prog t x.1) : ∃ L : List α, Rd w w.heap.size E.sz v L.length (E.cells L) ∧ L.length ≤ RR ∧ ∀ a ∈ L, Q a := by
  rcases open_elems ht (by rw [hc]; exact hpos) h hr with h | ⟨a, len, cap, hcs, hl, hm, hle, hrow⟩
  · injection h with h
    subst h
    exact ⟨[], Rd.nil_ _ _ _, by simp, by simp⟩
  · injection hcs with hcs
    subst hcs
    rw [hc] at hrow
    have hex : ∀ i, i < len → ∃ q : α, (a.spot = none ∧ ∀ j, j < E.sz → w.cell? ⟨a.block, a.off + (i * E.sz + j), none⟩ = (E.c q)[j]?) ∧ Q q := by
      intro i hi
      obtain ⟨hs, vs, m, y, hvl, hcell, htr, hry⟩ := hrow i hi
      obtain ⟨q, rfl, hq⟩ := hp htr hry
      exact ⟨q, ⟨hs, hcell⟩, hq⟩
    obtain ⟨L, hal, hL⟩ := list_of_all len hex
    have hle2 : len ≤ reachBytes := Nat.le_trans (Nat.le_mul_of_pos_right _ hby) hle
    refine ⟨L, ⟨E.cells_length L, some a, cap, by rw [hal], by omega, hm, (fun e => by cases e), fun hn => ?_⟩, by rw [hal]; exact Nat.le_trans hle2 reach_RR, fun q hq => ?_⟩
    · obtain ⟨⟨hs, hat⟩, _⟩ := hL 0 _ (List.getElem?_eq_getElem hn)
      obtain ⟨b, o, s⟩ := a
      simp only at hs
      subst hs
      have hlt : b < w.heap.size := by
        have h0 := hat 0 hpos
        rw [List.getElem?_eq_getElem (by rw [E.len]; exact hpos)] at h0
        exact World.block_lt_of_cell? w _ h0
      refine ⟨b, o, rfl, hlt, fun k u hu => ?_⟩
      have hk : k < (E.cells L).length := (List.getElem?_eq_some_iff.1 hu).1
      rw [E.cells_length] at hk
      have hkl : k / E.sz < L.length := Nat.div_lt_of_lt_mul (by rw [Nat.mul_comm]; exact hk)
      have hkm : k % E.sz < E.sz := Nat.mod_lt _ hpos
      have e : k = k / E.sz * E.sz + k % E.sz := by rw [Nat.mul_comm]; exact (Nat.div_add_mod k E.sz).symm
      obtain ⟨⟨_, hq⟩, _⟩ := hL (k / E.sz) _ (List.getElem?_eq_getElem hkl)
      have h1 := E.cells_at L (k / E.sz) _ (k % E.sz) (List.getElem?_eq_getElem hkl) hkm
      rw [← e, hu] at h1
      have h2 := hq (k % E.sz) hkm
      rw [← e, ← h1] at h2
      exact h2
    · obtain ⟨j, hj⟩ := List.getElem?_of_mem hq
      exact (hL j q hj).2
theorem parse_int {fuel : Nat} {cs : List Value} {x : DataW H × List MemPlace} (h : DataW.trod enc Tryd.prog w 0 spare held fuel 3 cs = some x) (_ : Rch Tryd.prog 3 x.1) : ∃ n : Int, cs = eI.c n ∧ True := by
  obtain ⟨z, e0, _, _⟩ := DataW.trod_int Tryd.underlying3 h
  exact ⟨z, e0, trivial⟩
set_option maxRecDepth 100000 in
theorem parse_wish {fuel : Nat} {cs : List Value} {x : DataW H × List MemPlace} (h : DataW.trod enc Tryd.prog w 0 spare held fuel 73 cs = some x) (hr : Rch Tryd.prog 73 x.1) : ∃ q : Wish1, cs = eW.c q ∧ q.f.size ≤ RR := by
  obtain ⟨hl, hf⟩ := open_field Tryd.underlying73 h hr
  rw [cellsW] at hl
  obtain ⟨a, b, rfl⟩ : ∃ a b, cs = [a, b] := by
    match cs, hl with
    | [a, b], _ => exact ⟨a, b, rfl⟩
  obtain ⟨n0, y0, h0, r0⟩ := hf 0 _ rfl
  obtain ⟨n1, y1, h1, r1⟩ := hf 1 _ rfl
  have h0 : DataW.trod enc Tryd.prog w 0 spare held n0 9 (([a, b].drop 0).take (Tryd.prog.cellsOf 9)) = some y0 := h0
  have h1 : DataW.trod enc Tryd.prog w 0 spare held n1 3 (([a, b].drop 1).take (Tryd.prog.cellsOf 3)) = some y1 := h1
  rw [cellsT] at h0
  rw [cellsI] at h1
  obtain ⟨s, e0, hs⟩ := open_str' h0 r0
  obtain ⟨q, e1, _, _⟩ := DataW.trod_int Tryd.underlying3 h1
  simp at e0 e1
  subst e0 e1
  exact ⟨⟨s, q⟩, rfl, hs⟩
set_option maxRecDepth 100000 in
theorem parse_msg {fuel : Nat} {cs : List Value} {x : DataW H × List MemPlace} (h : DataW.trod enc Tryd.prog w 0 spare held fuel 75 cs = some x) (hr : Rch Tryd.prog 75 x.1) : ∃ m : Msg, cs = msgC m ∧ m.t.size ≤ RR ∧ m.p.size ≤ RR := by
  obtain ⟨hl, hf⟩ := open_field Tryd.underlying75 h hr
  rw [cellsM] at hl
  obtain ⟨a, b, c, d, rfl⟩ : ∃ a b c d, cs = [a, b, c, d] := by
    match cs, hl with
    | [a, b, c, d], _ => exact ⟨a, b, c, d, rfl⟩
  obtain ⟨n0, y0, h0, r0⟩ := hf 0 _ rfl
  obtain ⟨n1, y1, h1, r1⟩ := hf 1 _ rfl
  obtain ⟨n2, y2, h2, r2⟩ := hf 2 _ rfl
  obtain ⟨n3, y3, h3, r3⟩ := hf 3 _ rfl
  have h0 : DataW.trod enc Tryd.prog w 0 spare held n0 9 (([a, b, c, d].drop 0).take (Tryd.prog.cellsOf 9)) = some y0 := h0
  have h1 : DataW.trod enc Tryd.prog w 0 spare held n1 9 (([a, b, c, d].drop 1).take (Tryd.prog.cellsOf 9)) = some y1 := h1
  have h2 : DataW.trod enc Tryd.prog w 0 spare held n2 3 (([a, b, c, d].drop 2).take (Tryd.prog.cellsOf 3)) = some y2 := h2
  have h3 : DataW.trod enc Tryd.prog w 0 spare held n3 4 (([a, b, c, d].drop 3).take (Tryd.prog.cellsOf 4)) = some y3 := h3
  rw [cellsT] at h0 h1
  rw [cellsI] at h2
  rw [cellsB] at h3
  obtain ⟨s, e0, hs⟩ := open_str' h0 r0
  obtain ⟨s1, e1, hs1⟩ := open_str' h1 r1
  obtain ⟨q, e2, _, w1⟩ := DataW.trod_int Tryd.underlying3 h2
  obtain ⟨r, e3, _⟩ := DataW.trod_bool Tryd.underlying4 h3
  simp at e0 e1 e2 e3
  subst e0 e1 e2 e3
  exact ⟨⟨s, s1, q, r⟩, rfl, hs, hs1⟩
set_option maxRecDepth 100000 in
theorem parse_fl {fuel : Nat} {cs : List Value} {x : DataW H × List MemPlace} (h : DataW.trod enc Tryd.prog w 0 spare held fuel 78 cs = some x) (hr : Rch Tryd.prog 78 x.1) : ∃ f : Fl, cs = flC f ∧ f.m.t.size ≤ RR ∧ f.m.p.size ≤ RR := by
  obtain ⟨hl, hf⟩ := open_field Tryd.underlying78 h hr
  rw [cellsF] at hl
  obtain ⟨a, b, c, d, e, g, rfl⟩ : ∃ a b c d e g, cs = [a, b, c, d, e, g] := by
    match cs, hl with
    | [a, b, c, d, e, g], _ => exact ⟨a, b, c, d, e, g, rfl⟩
  obtain ⟨n0, y0, h0, r0⟩ := hf 0 _ rfl
  obtain ⟨n1, y1, h1, r1⟩ := hf 1 _ rfl
  obtain ⟨n2, y2, h2, r2⟩ := hf 2 _ rfl
  have h0 : DataW.trod enc Tryd.prog w 0 spare held n0 3 (([a, b, c, d, e, g].drop 0).take (Tryd.prog.cellsOf 3)) = some y0 := h0
  have h1 : DataW.trod enc Tryd.prog w 0 spare held n1 75 (([a, b, c, d, e, g].drop 1).take (Tryd.prog.cellsOf 75)) = some y1 := h1
  have h2 : DataW.trod enc Tryd.prog w 0 spare held n2 4 (([a, b, c, d, e, g].drop 5).take (Tryd.prog.cellsOf 4)) = some y2 := h2
  rw [cellsI] at h0
  rw [cellsM] at h1
  rw [cellsB] at h2
  obtain ⟨z, e0, _, w0⟩ := DataW.trod_int Tryd.underlying3 h0
  obtain ⟨m, e1, hm⟩ := parse_msg h1 r1
  obtain ⟨r, e2, _⟩ := DataW.trod_bool Tryd.underlying4 h2
  simp [msgC] at e0 e1 e2
  obtain ⟨rfl, rfl, rfl, rfl⟩ := e1
  subst e0 e2
  exact ⟨⟨z, m, r⟩, rfl, hm⟩
set_option maxRecDepth 100000 in
theorem parse_ses {fuel : Nat} {cs : List Value} {x : DataW H × List MemPlace} (h : DataW.trod enc Tryd.prog w 0 spare held fuel 55 cs = some x) (hr : Rch Tryd.prog 55 x.1) : ∃ r : Rs, cs = eS.c r ∧ SRd w w.heap.size r ∧ SW RR r.s := by
  obtain ⟨hl, hf⟩ := open_field Tryd.underlying55 h hr
  rw [cellsS] at hl
  obtain ⟨a0, a1, a2, a3, a4, a5, a6, a7, a8, a9, aa, ab, ac, ad, ae, rfl⟩ : ∃ a0 a1 a2 a3 a4 a5 a6 a7 a8 a9 aa ab ac ad ae, cs = [a0, a1, a2, a3, a4, a5, a6, a7, a8, a9, aa, ab, ac, ad, ae] := by
    match cs, hl with
    | [a0, a1, a2, a3, a4, a5, a6, a7, a8, a9, aa, ab, ac, ad, ae], _ => exact ⟨a0, a1, a2, a3, a4, a5, a6, a7, a8, a9, aa, ab, ac, ad, ae, rfl⟩
  obtain ⟨n0, y0, h0, r0⟩ := hf 0 _ rfl
  obtain ⟨n1, y1, h1, r1⟩ := hf 1 _ rfl
  obtain ⟨n2, y2, h2, r2⟩ := hf 2 _ rfl
  obtain ⟨n3, y3, h3, r3⟩ := hf 3 _ rfl
  obtain ⟨n4, y4, h4, r4⟩ := hf 4 _ rfl
  obtain ⟨n5, y5, h5, r5⟩ := hf 5 _ rfl
  obtain ⟨n6, y6, h6, r6⟩ := hf 6 _ rfl
  obtain ⟨n7, y7, h7, r7⟩ := hf 7 _ rfl
  obtain ⟨n8, y8, h8, r8⟩ := hf 8 _ rfl
  have h0 : DataW.trod enc Tryd.prog w 0 spare held n0 9 [a0] = some y0 := h0
  have h1 : DataW.trod enc Tryd.prog w 0 spare held n1 4 [a1] = some y1 := h1
  have h2 : DataW.trod enc Tryd.prog w 0 spare held n2 3 [a2] = some y2 := h2
  have h3 : DataW.trod enc Tryd.prog w 0 spare held n3 48 [a3] = some y3 := h3
  have h4 : DataW.trod enc Tryd.prog w 0 spare held n4 51 [a4, a5, a6] = some y4 := h4
  have h5 : DataW.trod enc Tryd.prog w 0 spare held n5 24 [a7] = some y5 := h5
  have h6 : DataW.trod enc Tryd.prog w 0 spare held n6 53 [a8, a9, aa, ab, ac] = some y6 := h6
  have h7 : DataW.trod enc Tryd.prog w 0 spare held n7 3 [ad] = some y7 := h7
  have h8 : DataW.trod enc Tryd.prog w 0 spare held n8 3 [ae] = some y8 := h8
  clear hf
  obtain ⟨_, hfo⟩ := open_field Tryd.underlying51 h4 r4
  obtain ⟨m0, u0, g0, q0⟩ := hfo 0 _ rfl
  obtain ⟨m1, u1, g1, q1⟩ := hfo 1 _ rfl
  obtain ⟨m2, u2, g2, q2⟩ := hfo 2 _ rfl
  have g0 : DataW.trod enc Tryd.prog w 0 spare held m0 3 [a4] = some u0 := g0
  have g1 : DataW.trod enc Tryd.prog w 0 spare held m1 49 [a5] = some u1 := g1
  have g2 : DataW.trod enc Tryd.prog w 0 spare held m2 26 [a6] = some u2 := g2
  clear hfo
  obtain ⟨_, hfl⟩ := open_field Tryd.underlying53 h6 r6
  obtain ⟨k0, v0, t0, s0⟩ := hfl 0 _ rfl
  obtain ⟨k1, v1, t1, s1⟩ := hfl 1 _ rfl
  obtain ⟨k2, v2, t2, s2⟩ := hfl 2 _ rfl
  obtain ⟨k3, v3, t3, s3⟩ := hfl 3 _ rfl
  obtain ⟨k4, v4, t4, s4⟩ := hfl 4 _ rfl
  have t0 : DataW.trod enc Tryd.prog w 0 spare held k0 4 [a8] = some v0 := t0
  have t1 : DataW.trod enc Tryd.prog w 0 spare held k1 9 [a9] = some v1 := t1
  have t2 : DataW.trod enc Tryd.prog w 0 spare held k2 9 [aa] = some v2 := t2
  have t3 : DataW.trod enc Tryd.prog w 0 spare held k3 3 [ab] = some v3 := t3
  have t4 : DataW.trod enc Tryd.prog w 0 spare held k4 4 [ac] = some v4 := t4
  clear hfl
  obtain ⟨c, e0, hc⟩ := open_str' h0 r0
  obtain ⟨cl, e1, _⟩ := DataW.trod_bool Tryd.underlying4 h1
  obtain ⟨ln, e2, _, _⟩ := DataW.trod_int Tryd.underlying3 h2
  obtain ⟨S, hS, zS, pS⟩ := open_list eW (fun x : Wish1 => x.f.size ≤ RR) Tryd.underlying48 cellsW (by decide) (by decide +kernel) parse_wish h3 r3
  obtain ⟨last, e4, _, _⟩ := DataW.trod_int Tryd.underlying3 g0
  obtain ⟨F, hF, zF, pF⟩ := open_list eF (fun f : Fl => f.m.t.size ≤ RR ∧ f.m.p.size ≤ RR) Tryd.underlying49 cellsF (by decide) (by decide +kernel) parse_fl g1 q1
  obtain ⟨Q, hQ, zQ, pQ⟩ := open_list eM (fun m : Msg => m.t.size ≤ RR ∧ m.p.size ≤ RR) Tryd.underlying26 cellsM (by decide) (by decide +kernel) parse_msg g2 q2
  obtain ⟨I, hI, zI, _⟩ := open_list eI (fun _ => True) Tryd.underlying24 cellsI (by decide) (by decide +kernel) parse_int h5 r5
  obtain ⟨wi, f0, _⟩ := DataW.trod_bool Tryd.underlying4 t0
  obtain ⟨wt, f1, hwt⟩ := open_str' t1 s1
  obtain ⟨wp, f2, hwp⟩ := open_str' t2 s2
  obtain ⟨wq, f3, _, _⟩ := DataW.trod_int Tryd.underlying3 t3
  obtain ⟨wr, f4, _⟩ := DataW.trod_bool Tryd.underlying4 t4
  obtain ⟨keep, e7, _, _⟩ := DataW.trod_int Tryd.underlying3 h7
  obtain ⟨idle, e8, _, _⟩ := DataW.trod_int Tryd.underlying3 h8
  obtain ⟨sa, sc, rfl, _, _⟩ := hS.form
  obtain ⟨fa, fc, rfl, _, _⟩ := hF.form
  obtain ⟨qa, qc, rfl, _, _⟩ := hQ.form
  obtain ⟨ia, ic, rfl, _, _⟩ := hI.form
  injection e0 with e0
  injection e1 with e1
  injection e2 with e2
  injection e4 with e4
  injection f0 with f0
  injection f1 with f1
  injection f2 with f2
  injection f3 with f3
  injection f4 with f4
  injection e7 with e7
  injection e8 with e8
  subst e0 e1 e2 e4 f0 f1 f2 f3 f4 e7 e8
  exact ⟨⟨⟨c, cl, ln, S, ⟨last, F, Q⟩, I, ⟨wi, wt, wp, wq, wr⟩, keep, idle⟩, sa, sc, fa, fc, qa, qc, ia, ic⟩, rfl, ⟨hS, hF, hQ, hI⟩, ⟨hc, zI, ⟨zS, pS⟩, ⟨zQ, pQ⟩, ⟨zF, pF⟩, hwt, hwp⟩⟩
end
/-- A broker, with where it lies. -/
structure RB where
  b : Br
  R : List Rs
  la : Option Addr
  lc : Nat
  sa : Option Addr
  sc : Nat
  ka : Option Addr
  kc : Nat
def eB : Enc RB := ⟨fun x => [.slice x.la x.b.L.length x.lc, .slice x.sa x.R.length x.sc, .slice x.ka x.b.K.length x.kc], 3, fun _ => rfl, fun x u hu => by
  simp only [List.mem_cons, List.mem_nil_iff, or_false] at hu
  rcases hu with rfl | rfl | rfl <;> rfl⟩
/-- It may be read. -/
def RBok (w : World) (Bd : Nat) (x : RB) : Prop := BRd w Bd (.slice x.la x.b.L.length x.lc) (.slice x.sa x.R.length x.sc) (.slice x.ka x.b.K.length x.kc) x.R x.b
section
variable {H : Type} {enc : TypeId × Value → H} {w : World} {spare : Nat → Bool} {held : Bool}
set_option maxRecDepth 100000 in
theorem parse_bro {fuel : Nat} {cs : List Value} {x : DataW H × List MemPlace} (h : DataW.trod enc Tryd.prog w 0 spare held fuel 28 cs = some x) (hr : Rch Tryd.prog 28 x.1) : ∃ q : RB, cs = eB.c q ∧ RBok w w.heap.size q ∧ BW RR q.b := by
  obtain ⟨hl, hf⟩ := open_field Tryd.underlying28 h hr
  rw [cellsBr] at hl
  obtain ⟨a, b, c, rfl⟩ : ∃ a b c, cs = [a, b, c] := by
    match cs, hl with
    | [a, b, c], _ => exact ⟨a, b, c, rfl⟩
  obtain ⟨n0, y0, h0, r0⟩ := hf 0 _ rfl
  obtain ⟨n1, y1, h1, r1⟩ := hf 1 _ rfl
  obtain ⟨n2, y2, h2, r2⟩ := hf 2 _ rfl
  have h0 : DataW.trod enc Tryd.prog w 0 spare held n0 24 [a] = some y0 := h0
  have h1 : DataW.trod enc Tryd.prog w 0 spare held n1 25 [b] = some y1 := h1
  have h2 : DataW.trod enc Tryd.prog w 0 spare held n2 26 [c] = some y2 := h2
  obtain ⟨L, hL, zL, _⟩ := open_list eI (fun _ => True) Tryd.underlying24 cellsI (by decide) (by decide +kernel) parse_int h0 r0
  obtain ⟨R, hR, zR, pR⟩ := open_list eS (fun r : Rs => SRd w w.heap.size r ∧ SW RR r.s) Tryd.underlying25 cellsS (by decide) (by decide +kernel) parse_ses h1 r1
  obtain ⟨K, hK, zK, pK⟩ := open_list eM (fun m : Msg => m.t.size ≤ RR ∧ m.p.size ≤ RR) Tryd.underlying26 cellsM (by decide) (by decide +kernel) parse_msg h2 r2
  obtain ⟨la, lc, rfl, _, _⟩ := hL.form
  obtain ⟨sa, sc, rfl, _, _⟩ := hR.form
  obtain ⟨ka, kc, rfl, _, _⟩ := hK.form
  exact ⟨⟨⟨L, R.map (·.s), K⟩, R, la, lc, sa, sc, ka, kc⟩, rfl, ⟨rfl, hL, hR, fun r h => (pR r h).1, hK⟩, ⟨zL, ⟨by simpa using zR, fun s h => by
    obtain ⟨r, h2, rfl⟩ := List.mem_map.1 h
    exact (pR r h2).2⟩, zK, pK⟩⟩
set_option maxRecDepth 100000 in
/-- An argument of type []Broker, opened. -/
theorem open_bros {base : Nat} {v : Value} {d : DataW H} {p : List MemPlace} (hv : Value.okWide Tryd.prog w .any base 22 v) (h0 : DataW.Trod enc Tryd.prog w 0 spare held 22 v d p) (hr : Rch Tryd.prog 22 d) :
    ∃ L : List RB, Rd w w.heap.size 3 v L.length (eB.cells L) ∧ ∀ x ∈ L, RBok w w.heap.size x ∧ BW RR x.b := by
  obtain ⟨fuel, hf⟩ := h0
  obtain ⟨a0, len, cap, rfl⟩ := okWide_slice Tryd.underlying22 hv
  have hf' : DataW.trod enc Tryd.prog w 0 spare held fuel 22 [.slice a0 len cap] = some (d, p) := hf
  obtain ⟨L, h1, _, h2⟩ := open_list eB (fun x : RB => RBok w w.heap.size x ∧ BW RR x.b) Tryd.underlying22 cellsBr (by decide) (by decide +kernel) parse_bro hf' hr
  exact ⟨L, h1, h2⟩
end
end Go.Proofs.YtlehkaibbkblkaaDoor
