/- The scripts of layer 6: how an argument lies in memory. -/

import Derived.Test.YtcgdlmlolmfinaaLgAll
import Derived.Test.YtcgdlmlolmfinaaReach
namespace Go.Proofs.Ytcgdlmlolmfinaa
open Go.ChangeShapes Go.WideShapes Go.Deep Go.RowKit
def i64s (B : List Int) : List Value := B.map (Value.int .i64)
theorem cellsA6 : Try.prog.cellsOf 42 = 4 := by kernel_rfl
theorem cellsI6 : Try.prog.cellsOf 3 = 1 := by kernel_rfl
theorem cellsIs6 : Try.prog.cellsOf 23 = 1 := by kernel_rfl
theorem cellsT6 : Try.prog.cellsOf 9 = 1 := by kernel_rfl
theorem cellsTs6 : Try.prog.cellsOf 35 = 1 := by kernel_rfl
def InR (n : Int) : Prop := -9223372036854775808 ≤ n ∧ n ≤ 9223372036854775807
theorem inR_wf {n : Int} (h : (Lit.int .i64 n).wf = true) : InR n := by
  simpa [InR, Lit.wf, IntKind.min, IntKind.max, IntKind.signed, IntKind.bits] using h
theorem str_list (s : ByteArray) : Value.string s = strL s.data.toList ∧ s.data.toList.length = s.size := ⟨by unfold strL; simp, by rw [Array.length_toList]; rfl⟩
section
variable {H : Type} {enc : TypeId × Value → H} {w : World} {spare : Nat → Bool} {held : Bool}
/-- A slice of one-cell elements reads as a list. -/
theorem open_one {t e : TypeId} {α : Type} (f : α → Value) (Pr : α → Prop) (ht : Try.prog.underlying t = some (.slice e)) (hc : Try.prog.cellsOf e = 1)
    (hel : ∀ (n : Nat) (u : Value) (y : DataW H × List MemPlace), DataW.trod enc Try.prog w 0 spare held n e [u] = some y → Rch Try.prog e y.1 → ∃ x : α, u = f x ∧ Pr x)
    {fuel : Nat} {cs : List Value} {x : DataW H × List MemPlace} (h : DataW.trod enc Try.prog w 0 spare held fuel t cs = some x) (hr : Rch Try.prog t x.1) :
    ∃ (v : Value) (L : List α), cs = [v] ∧ Rd w w.heap.size 1 v L.length (L.map f) ∧ (∀ x ∈ L, Pr x) ∧ L.length * Try.prog.bytesOf e ≤ reachBytes := by
  rcases open_elems ht (by rw [hc]; omega) h hr with h | ⟨a, len, cap, hcs, hl, hm, hle, hrow⟩
  · exact ⟨_, [], h, Rd.nil_ _ _ _, by simp, by simp⟩
  · rw [hc] at hrow
    have hex : ∀ i, i < len → ∃ x : α, a.spot = none ∧ a.block < w.heap.size ∧ w.cell? ⟨a.block, a.off + i, none⟩ = some (f x) ∧ Pr x := by
      intro i hi
      obtain ⟨hs, vs, m, y, hvl, hcell, htr, hry⟩ := hrow i hi
      obtain ⟨u, rfl⟩ : ∃ u, vs = [u] := by
        match vs, hvl with
        | [u], _ => exact ⟨u, rfl⟩
      obtain ⟨x, rfl, hx⟩ := hel m u y htr hry
      have c0 := hcell 0 (by omega)
      rw [Nat.mul_one, Nat.add_zero] at c0
      have c0' : w.cell? ⟨a.block, a.off + i, none⟩ = some (f x) := c0
      have hlt := World.block_lt_of_cell? w _ c0'
      exact ⟨x, hs, hlt, c0', hx⟩
    obtain ⟨L, hal, hL⟩ := list_of_all len hex
    refine ⟨_, L, hcs, ⟨by rw [List.length_map, Nat.mul_one], some a, cap, by rw [hal], by omega, hm, (fun e => by cases e), fun hn => ?_⟩, fun x hx => ?_, by rw [hal]; exact hle⟩
    · obtain ⟨hs, hlt, _⟩ := hL 0 _ (List.getElem?_eq_getElem hn)
      obtain ⟨b, o, s⟩ := a
      simp only at hs
      subst hs
      refine ⟨b, o, rfl, hlt, fun k u hu => ?_⟩
      rw [List.getElem?_map] at hu
      obtain ⟨x, hx, rfl⟩ := Option.map_eq_some_iff.1 hu
      exact (hL k x hx).2.2.1
    · obtain ⟨i, hi⟩ := List.getElem?_of_mem hx
      exact (hL i x hi).2.2.2
end
structure Act6 where
  d : Int
  s : List UInt8
  l : List (List UInt8)
  k : List Int
structure ActR (a : Act6) : Prop where
  d : InR a.d
  s : a.s.length ≤ reachBytes
  l : ∀ x ∈ a.l, x.length ≤ reachBytes
  ll : a.l.length * 16 ≤ reachBytes
  k : ∀ x ∈ a.k, InR x
  kl : a.k.length * 8 ≤ reachBytes
structure ActAt6 (w : World) (Bd b o : Nat) (a : Act6) : Prop where
  lt : b < Bd
  d : w.cell? ⟨b, o, none⟩ = some (.int .i64 a.d)
  s : w.cell? ⟨b, o + 1, none⟩ = some (.string ⟨a.s.toArray⟩)
  l : ∃ v, w.cell? ⟨b, o + 2, none⟩ = some v ∧ Rd w Bd 1 v a.l.length (a.l.map strL)
  k : ∃ v, w.cell? ⟨b, o + 3, none⟩ = some v ∧ Rd w Bd 1 v a.k.length (i64s a.k)
def ActsAt6 (w : World) (Bd : Nat) (lv : Value) (A : List Act6) : Prop :=
  ∃ ao cap, lv = .slice ao A.length cap ∧ A.length ≤ cap ∧ cap ≤ 9223372036854775807 ∧
    ∀ (i : Nat) (a : Act6), A[i]? = some a → (∃ b o, ao = some ⟨b, o, none⟩ ∧ ActAt6 w Bd b (o + i * 4) a) ∧ ActR a
theorem ActAt6.below {w w' : World} {Bd b o : Nat} {a : Act6} (h : ActAt6 w Bd b o a) (hb : Below Bd w w') : ActAt6 w' Bd b o a := by
  obtain ⟨h1, h2, h3, ⟨v, h4, h5⟩, ⟨u, h6, h7⟩⟩ := h
  exact ⟨h1, (hb.cell (p := ⟨b, _, none⟩) h1).trans h2, (hb.cell (p := ⟨b, _, none⟩) h1).trans h3, ⟨v, (hb.cell (p := ⟨b, _, none⟩) h1).trans h4, h5.below hb⟩, ⟨u, (hb.cell (p := ⟨b, _, none⟩) h1).trans h6, h7.below hb⟩⟩
theorem ActsAt6.below {w w' : World} {Bd : Nat} {lv : Value} {A : List Act6} (h : ActsAt6 w Bd lv A) (hb : Below Bd w w') : ActsAt6 w' Bd lv A := by
  obtain ⟨ao, cap, h1, h2, h3, h4⟩ := h
  exact ⟨ao, cap, h1, h2, h3, fun i a ha => by
    obtain ⟨⟨b, o, e, hA⟩, hr⟩ := h4 i a ha
    exact ⟨⟨b, o, e, hA.below hb⟩, hr⟩⟩
theorem act6_get {w : World} {Bd : Nat} {ao : Option Addr} {n cap : Nat} {A : List Act6} (h : ActsAt6 w Bd (.slice ao n cap) A) {i : Nat} {a : Act6} (ha : A[i]? = some a) : (∃ b o, ao = some ⟨b, o, none⟩ ∧ ActAt6 w Bd b (o + i * 4) a) ∧ ActR a := by
  obtain ⟨ao', cap', e, _, _, h4⟩ := h
  injection e with e1 _ _
  subst e1
  exact h4 i a ha
section
variable {H : Type} {enc : TypeId × Value → H} {w : World} {spare : Nat → Bool} {held : Bool}
set_option maxRecDepth 100000 in
theorem parse_act6 {fuel : Nat} {cs : List Value} {x : DataW H × List MemPlace} (h : DataW.trod enc Try.prog w 0 spare held fuel 42 cs = some x) (hr : Rch Try.prog 42 x.1) :
    ∃ (a : Act6) (lv kv : Value), cs = [.int .i64 a.d, .string ⟨a.s.toArray⟩, lv, kv] ∧ Rd w w.heap.size 1 lv a.l.length (a.l.map strL) ∧ Rd w w.heap.size 1 kv a.k.length (i64s a.k) ∧ ActR a := by
  obtain ⟨hl, hf⟩ := open_field Try.underlying42 h hr
  rw [cellsA6] at hl
  obtain ⟨a, b, c, d, rfl⟩ : ∃ a b c d, cs = [a, b, c, d] := by
    match cs, hl with
    | [a, b, c, d], _ => exact ⟨a, b, c, d, rfl⟩
  obtain ⟨n0, y0, h0, r0⟩ := hf 0 _ rfl
  obtain ⟨n1, y1, h1, r1⟩ := hf 1 _ rfl
  obtain ⟨n2, y2, h2, r2⟩ := hf 2 _ rfl
  obtain ⟨n3, y3, h3, r3⟩ := hf 3 _ rfl
  have h0 : DataW.trod enc Try.prog w 0 spare held n0 3 (([a, b, c, d].drop 0).take (Try.prog.cellsOf 3)) = some y0 := h0
  have h1 : DataW.trod enc Try.prog w 0 spare held n1 9 (([a, b, c, d].drop 1).take (Try.prog.cellsOf 9)) = some y1 := h1
  have h2 : DataW.trod enc Try.prog w 0 spare held n2 35 (([a, b, c, d].drop 2).take (Try.prog.cellsOf 35)) = some y2 := h2
  have h3 : DataW.trod enc Try.prog w 0 spare held n3 23 (([a, b, c, d].drop 3).take (Try.prog.cellsOf 23)) = some y3 := h3
  rw [cellsI6] at h0
  rw [cellsT6] at h1
  rw [cellsTs6] at h2
  rw [cellsIs6] at h3
  obtain ⟨z, e0, _, w0⟩ := DataW.trod_int Try.underlying3 h0
  obtain ⟨s, e1, hs⟩ := open_str Try.underlying9 h1 r1
  obtain ⟨lv, L, e2, hL, hLr, hLl⟩ := open_one strL (fun x => x.length ≤ reachBytes) Try.underlying35 cellsT6 (fun n u y hu hy => by
    obtain ⟨s, e, hs⟩ := open_str Try.underlying9 hu hy
    injection e with e
    subst e
    exact ⟨s.data.toList, (str_list s).1, by rw [(str_list s).2]; exact hs⟩) h2 r2
  obtain ⟨kv, K, e3, hK, hKr, hKl⟩ := open_one (Value.int .i64) InR Try.underlying23 cellsI6 (fun n u y hu hy => by
    obtain ⟨q, e, _, hw⟩ := DataW.trod_int Try.underlying3 hu
    injection e with e
    exact ⟨q, e, inR_wf hw⟩) h3 r3
  have hb1 : Try.prog.bytesOf 9 = 16 := by kernel_rfl
  have hb2 : Try.prog.bytesOf 3 = 8 := by kernel_rfl
  rw [hb1] at hLl
  rw [hb2] at hKl
  simp at e0 e1 e2 e3
  subst e0 e1 e2 e3
  exact ⟨⟨z, s.data.toList, L, K⟩, c, d, by rw [(str_list s).1] <;> rfl, hL, hK, inR_wf w0, by show s.data.toList.length ≤ _; rw [(str_list s).2]; exact hs, hLr, hLl, hKr, hKl⟩
end
set_option maxRecDepth 100000 in
/-- An argument of type Script, opened. -/
theorem open_script6 {H : Type} {enc : TypeId × Value → H} {W : World} {base : Nat} {v : Value} {d : DataW H} {p : List MemPlace} (hv : Value.okWide Try.prog W .any base 25 v)
    (h0 : DataW.Trod enc Try.prog W 0 (fun _ => true) true 25 v d p) (hr : Rch Try.prog 25 d) :
    ∃ (lv ov : Value) (A : List Act6) (O : List Int), v = .agg #[lv, ov] ∧ ActsAt6 W W.heap.size lv A ∧ Rd W W.heap.size 1 ov O.length (i64s O) ∧ ∀ x ∈ O, InR x := by
  obtain ⟨v0, v1, y0, y1, n, rfl, rfl, _, t0, t1⟩ := Joins.open_agg2 Try.underlying25 (by kernel_rfl) (by kernel_rfl) hv h0
  have r0 := rch_field (j := 0) Try.underlying25 hr rfl rfl
  have r1 := rch_field (j := 1) Try.underlying25 hr rfl rfl
  obtain ⟨ov, O, eo, hO, hOr, _⟩ := open_one (Value.int .i64) InR Try.underlying23 cellsI6 (fun n u y hu hy => by
    obtain ⟨q, e, _, hw⟩ := DataW.trod_int Try.underlying3 hu
    injection e with e
    exact ⟨q, e, inR_wf hw⟩) t1 r1
  injection eo with eo
  subst eo
  have hA : ∃ A : List Act6, ActsAt6 W W.heap.size v0 A := by
    rcases open_elems Try.underlying22 (by rw [cellsA6]; omega) t0 r0 with h | ⟨a, len, cap, hcs, hl, hm, hle, hrow⟩
    · injection h with h
      subst h
      exact ⟨[], none, 0, rfl, by simp, by omega, fun i x hx => by simp at hx⟩
    · injection hcs with hcs
      subst hcs
      rw [cellsA6] at hrow
      have hex : ∀ i, i < len → ∃ a' : Act6, a.spot = none ∧ ActAt6 W W.heap.size a.block (a.off + i * 4) a' ∧ ActR a' := by
        intro i hi
        obtain ⟨hs, vs, m, y, hvl, hcell, htr, hry⟩ := hrow i hi
        obtain ⟨act, lv, kv, rfl, hL, hK, hR⟩ := parse_act6 htr hry
        have c0 := hcell 0 (by omega)
        have c1 := hcell 1 (by omega)
        have c2 := hcell 2 (by omega)
        have c3 := hcell 3 (by omega)
        have c0' : W.cell? ⟨a.block, a.off + i * 4, none⟩ = some (.int .i64 act.d) := c0
        have hlt := World.block_lt_of_cell? W _ c0'
        exact ⟨act, hs, ⟨hlt, c0', c1, ⟨lv, c2, hL⟩, ⟨kv, c3, hK⟩⟩, hR⟩
      obtain ⟨A, hal, hA⟩ := list_of_all len hex
      refine ⟨A, some a, cap, by rw [hal], by omega, by unfold maxLen at hm; omega, fun i x hx => ?_⟩
      obtain ⟨hs, h1, h2⟩ := hA i x hx
      obtain ⟨b, o, s⟩ := a
      simp only at hs
      subst hs
      exact ⟨⟨b, o, rfl, h1⟩, h2⟩
  obtain ⟨A, hA⟩ := hA
  exact ⟨_, _, A, O, rfl, hA, hO, hOr⟩
end Go.Proofs.Ytcgdlmlolmfinaa
