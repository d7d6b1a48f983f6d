/- The scripts of layer 2: how an argument of type kiosklaw2.Script lies in memory; heavy; num. -/

import Derived.Test.YtfffehbipcikoaaRgRig
import Derived.Test.YtfffehbipcikoaaArgs
import Derived.Test.YtfffehbipcikoaaMemAct
namespace Go.Proofs.Ytfffehbipcikoaa
open Go.ChangeShapes Go.WideShapes Go.Deep Go.RowKit

theorem bufCells_inv (L : List Buf) (j : Nat) (u : Value) (h : (bufCells L)[j]? = some u) : ∃ i r b, j = i * 3 + r ∧ r < 3 ∧ L[i]? = some b ∧ b.cells[r]? = some u := by
  have hj := (List.getElem?_eq_some_iff.1 h).1
  rw [bufCells_length] at hj
  obtain ⟨b, hb⟩ : ∃ b, L[j / 3]? = some b := ⟨_, List.getElem?_eq_getElem (by omega)⟩
  obtain ⟨h0, h1, h2⟩ := bufCells_at L (j / 3) b hb
  refine ⟨j / 3, j % 3, b, by omega, by omega, hb, ?_⟩
  have : j % 3 = 0 ∨ j % 3 = 1 ∨ j % 3 = 2 := by omega
  rcases this with e | e | e
  · rw [show j / 3 * 3 = j by omega, h] at h0; rw [e]; simpa [Buf.cells] using h0.symm
  · rw [show j / 3 * 3 + 1 = j by omega, h] at h1; rw [e]; simpa [Buf.cells] using h1.symm
  · rw [show j / 3 * 3 + 2 = j by omega, h] at h2; rw [e]; simpa [Buf.cells] using h2.symm

theorem cellsBuf : Try.prog.cellsOf 89 = 3 := by kernel_rfl
theorem cellsAct2 : Try.prog.cellsOf 77 = 5 := by kernel_rfl
set_option maxRecDepth 100000 in
theorem open_bufs {H : Type} {enc : TypeId × Value → H} {w : World} {spare : Nat → Bool} {held : Bool} {fuel : Nat} {v : Value} {x : DataW H × List MemPlace}
    (h : DataW.trod enc Try.prog w 0 spare held fuel 75 [v] = some x) : ∃ L : List Buf, Rd w w.heap.size 3 v L.length (bufCells L) := by
  rcases open_rows Try.underlying75 Try.underlying89 (by kernel_rfl) cellsBuf (by decide) h with h | ⟨a, len, cap, hcs, hl, hm, hrow⟩
  · injection h with h
    subst h
    exact ⟨[], Rd.nil_ _ _ _⟩
  · injection hcs with hcs
    subst hcs
    have hex : ∀ i, i < len → ∃ b : Buf, a.spot = none ∧ ∀ (r : Nat) (u : Value), b.cells[r]? = some u → w.cell? ⟨a.block, a.off + (i * 3 + r), none⟩ = some u := by
      intro i hi
      obtain ⟨hs, vs, m, hvl, hcell, hf⟩ := hrow i hi
      obtain ⟨x0, z0, g0, r0⟩ := hf 0 _ rfl
      obtain ⟨x1, z1, g1, r1⟩ := hf 1 _ rfl
      obtain ⟨x2, z2, g2, r2⟩ := hf 2 _ rfl
      obtain ⟨q0, e0, _, w0⟩ := DataW.trod_int Try.underlying3 r0
      obtain ⟨q1, e1, _, w1⟩ := DataW.trod_int Try.underlying3 r1
      obtain ⟨q2, e2, _⟩ := DataW.trod_bool Try.underlying4 r2
      injection e0 with e0
      injection e1 with e1
      injection e2 with e2
      subst e0 e1 e2
      refine ⟨⟨q0, q1, q2⟩, hs, fun r u hu => ?_⟩
      have hr := (List.getElem?_eq_some_iff.1 hu).1
      simp [Buf.cells] at hr
      have : r = 0 ∨ r = 1 ∨ r = 2 := by omega
      rcases this with rfl | rfl | rfl
      · exact ((hcell 0 (by decide)).trans g0).trans (by simpa [Buf.cells] using hu)
      · exact ((hcell 1 (by decide)).trans g1).trans (by simpa [Buf.cells] using hu)
      · exact ((hcell 2 (by decide)).trans g2).trans (by simpa [Buf.cells] using hu)
    obtain ⟨L, hL, hP⟩ := list_of_all len hex
    refine ⟨L, by rw [bufCells_length], some a, cap, by rw [hL], by omega, hm, (fun e => by cases e), fun hn => ?_⟩
    obtain ⟨b0, hb0⟩ : ∃ b, L[0]? = some b := ⟨_, List.getElem?_eq_getElem hn⟩
    obtain ⟨hs, hc0⟩ := hP 0 b0 hb0
    have hlt := World.block_lt_of_cell? w _ (hc0 0 _ rfl)
    obtain ⟨bb, bo, sp⟩ := a
    simp only at hs
    subst hs
    refine ⟨bb, bo, rfl, hlt, fun j u hu => ?_⟩
    obtain ⟨i, r, b, rfl, _, hb, hu2⟩ := bufCells_inv L j u hu
    exact (hP i b hb).2 r u hu2

/-- An act: its numbers, its pieces. -/
structure Act2 where
  dk : Int
  n : Int
  at_ : Int
  L : List Buf
  v : Nat
def ActAt2 (w : World) (Bd b o : Nat) (a : Act2) : Prop :=
  w.cell? ⟨b, o, none⟩ = some (.int .i64 a.dk) ∧ w.cell? ⟨b, o + 1, none⟩ = some (.int .i64 a.n) ∧ w.cell? ⟨b, o + 2, none⟩ = some (.int .i64 a.at_) ∧
    ∃ lv, w.cell? ⟨b, o + 3, none⟩ = some lv ∧ w.cell? ⟨b, o + 4, none⟩ = some (.int .u64 a.v) ∧ Rd w Bd 3 lv a.L.length (bufCells a.L) ∧ b < Bd ∧ Hid (a.v < 18446744073709551616)
def ActsAt2 (w : World) (Bd : Nat) (lv : Value) (acts : List Act2) : Prop :=
  ∃ ao cap, lv = .slice ao acts.length cap ∧ acts.length ≤ cap ∧ cap ≤ 9223372036854775807 ∧
    ∀ (i : Nat) (a : Act2), acts[i]? = some a → ∃ b o, ao = some ⟨b, o, none⟩ ∧ ActAt2 w Bd b (o + i * 5) a
theorem ActAt2.below {w w' : World} {Bd b o : Nat} {a : Act2} (h : ActAt2 w Bd b o a) (hb : Below Bd w w') : ActAt2 w' Bd b o a := by
  obtain ⟨h0, h1, h2, lv, h3, h4, hr, hlt, hu⟩ := h
  exact ⟨(hb.cell (p := ⟨b, _, none⟩) hlt).trans h0, (hb.cell (p := ⟨b, _, none⟩) hlt).trans h1, (hb.cell (p := ⟨b, _, none⟩) hlt).trans h2, lv, (hb.cell (p := ⟨b, _, none⟩) hlt).trans h3, (hb.cell (p := ⟨b, _, none⟩) hlt).trans h4, hr.below hb, hlt, hu⟩
theorem ActsAt2.below {w w' : World} {Bd : Nat} {lv : Value} {acts : List Act2} (h : ActsAt2 w Bd lv acts) (hb : Below Bd w w') : ActsAt2 w' Bd lv acts := by
  obtain ⟨ao, cap, h1, h2, h3, h4⟩ := h
  exact ⟨ao, cap, h1, h2, h3, fun i a ha => by
    obtain ⟨b, o, e, hc⟩ := h4 i a ha
    exact ⟨b, o, e, hc.below hb⟩⟩

set_option maxRecDepth 100000 in
/-- An argument of type Script, opened. -/
theorem open_script2 {H : Type} {enc : TypeId × Value → H} {W : World} {base : Nat} {v : Value} {d : DataW H} {p : List MemPlace} (hv : Value.okWide Try.prog W .any base 66 v)
    (h0 : DataW.Trod enc Try.prog W 0 (fun _ => true) true 66 v d p) :
    ∃ (M N : Int) (lv : Value) (acts : List Act2), v = .agg #[.int .i64 M, .int .i64 N, lv] ∧ N ≤ 9223372036854775807 ∧ ActsAt2 W W.heap.size lv acts := by
  obtain ⟨v0, v1, v2, y0, y1, y2, n, rfl, _, _, t0, t1, t2⟩ := Joins.open_agg3 Try.underlying66 (by kernel_rfl) (by kernel_rfl) hv h0
  obtain ⟨M, e0, _, w0⟩ := DataW.trod_int Try.underlying3 t0
  obtain ⟨N, e1, _, w1⟩ := DataW.trod_int Try.underlying3 t1
  injection e0 with e0
  injection e1 with e1
  subst e0 e1
  rcases open_rows Try.underlying64 Try.underlying77 (by kernel_rfl) cellsAct2 (by decide) t2 with h | ⟨a, len, cap, hcs, hl, hm, hrow⟩
  · injection h with h
    subst h
    exact ⟨M, N, _, [], rfl, range_i64 w1, none, 0, rfl, by simp, by omega, fun i a ha => by simp at ha⟩
  · injection hcs with hcs
    subst hcs
    have hex : ∀ i, i < len → ∃ act : Act2, a.spot = none ∧ ActAt2 W W.heap.size a.block (a.off + i * 5) act := by
      intro i hi
      obtain ⟨hs, vs, m, hvl, hcell, hf⟩ := hrow i hi
      obtain ⟨x0, z0, g0, r0⟩ := hf 0 _ rfl
      obtain ⟨x1, z1, g1, r1⟩ := hf 1 _ rfl
      obtain ⟨x2, z2, g2, r2⟩ := hf 2 _ rfl
      obtain ⟨x3, z3, g3, r3⟩ := hf 3 _ rfl
      obtain ⟨x4, z4, g4, r4⟩ := hf 4 _ rfl
      obtain ⟨q0, e0, _, w0⟩ := DataW.trod_int Try.underlying3 r0
      obtain ⟨q1, e1, _, w1⟩ := DataW.trod_int Try.underlying3 r1
      obtain ⟨q2, e2, _, w2⟩ := DataW.trod_int Try.underlying3 r2
      obtain ⟨L, hL⟩ := open_bufs r3
      obtain ⟨q4, e4, _, w4⟩ := DataW.trod_int Try.underlying38 r4
      injection e0 with e0
      injection e1 with e1
      injection e2 with e2
      injection e4 with e4
      subst e0 e1 e2 e4
      obtain ⟨k4, rfl, hk4⟩ := nat_u64 w4
      have c0 := (hcell 0 (by decide)).trans g0
      have c1 := (hcell 1 (by decide)).trans g1
      have c2 := (hcell 2 (by decide)).trans g2
      have c3 := (hcell 3 (by decide)).trans g3
      have c4 := (hcell 4 (by decide)).trans g4
      have hlt := World.block_lt_of_cell? W _ c0
      exact ⟨⟨q0, q1, q2, L, k4⟩, hs, c0, c1, c2, x3, c3, c4, hL, hlt, Lib.hid hk4⟩
    obtain ⟨acts, hal, hact⟩ := list_of_all len hex
    refine ⟨M, N, _, acts, rfl, range_i64 w1, some a, cap, by rw [hal], by omega, by unfold maxLen at hm; omega, fun i act ha => ?_⟩
    obtain ⟨hs, hA⟩ := hact i act ha
    obtain ⟨b, o, s⟩ := a
    simp only at hs
    subst hs
    exact ⟨b, o, rfl, hA⟩

theorem num2_any (n : Int) (w : World) : Calls Try.prog 16 #[.int .i64 n] w fun e w' => e = .returned (.int .i64 n) ∧ w = w' := by
  go_enter Try.func16, Try.ntmps16
  go_wp2
  go_ret
  exact ⟨rfl, rfl⟩
end Go.Proofs.Ytfffehbipcikoaa
