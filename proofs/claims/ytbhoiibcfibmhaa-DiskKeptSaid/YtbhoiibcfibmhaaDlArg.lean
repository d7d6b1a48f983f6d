/- The argument of layer 4's laws: bytes, and a slice of acts. -/

import Derived.Test.YtbhoiibcfibmhaaArgs
import Derived.Test.YtbhoiibcfibmhaaDlHelp
namespace Go.Proofs.Ytbhoiibcfibmhaa
open Go.ChangeShapes Go.WideShapes Go.Deep Go.RowKit
def InR (n : Int) : Prop := -9223372036854775808 ≤ n ∧ n ≤ 9223372036854775807
theorem inR_wf {n : Int} (h : (Lit.int .i64 n).wf = true) : InR n := by
  simpa [InR, Lit.wf, IntKind.min, IntKind.max, IntKind.signed, IntKind.bits] using h
section
variable {H : Type} {enc : TypeId × Value → H} {w : World} {spare : Nat → Bool} {held : Bool} {P : Program}
/-- A slice of ints reads as a list. -/
theorem open_numbers {t e : TypeId} {fuel : Nat} {v : Value} {x : DataW H × List MemPlace} (ht : P.underlying t = some (.slice e)) (he : P.underlying e = some (.int .i64)) (hc : P.cellsOf e = 1)
    (h : DataW.trod enc P w 0 spare held fuel t [v] = some x) : ∃ L : List Int, Rd w w.heap.size 1 v L.length (i64s L) ∧ ∀ n ∈ L, InR n := by
  rcases open_ints ht he hc h with ⟨hcs, _⟩ | ⟨a, len, cap, zs, hcs, _, hl, hm, hz, _, hcell, hwf⟩
  · injection hcs with hcs
    subst hcs
    exact ⟨[], Rd.nil_ _ _ _, by simp⟩
  · injection hcs with hcs
    subst hcs
    have hzl : len ≤ zs.length := by rw [hz]; split <;> omega
    have hlen : (zs.take len).length = len := by simp; omega
    refine ⟨zs.take len, ?_, fun n hn => inR_wf (hwf n (List.mem_of_mem_take hn))⟩
    rw [hlen]
    refine ⟨by rw [i64s_length, hlen]; omega, some a, cap, rfl, hl, hm, (fun e => by cases e), fun hn => ?_⟩
    have hs : a.spot = none := by
      have h0 := hcell 0 (by omega)
      simp only [Addr.add, if_true] at h0
      exact spot_none h0
    obtain ⟨b, o, s⟩ := a
    simp only at hs
    subst hs
    refine ⟨b, o, rfl, ?_, fun j u hu => ?_⟩
    · have := World.block_lt_of_cell? w _ (hcell 0 (by omega))
      simpa [add_flat] using this
    · have hj : j < len := by
        have := (List.getElem?_eq_some_iff.1 hu).1
        rw [i64s_length, hlen] at this
        exact this
      have h1 := hcell j (by omega)
      rw [add_flat] at h1
      rw [h1, ← hu]
      simp only [i64s, List.getElem?_map, List.getElem?_take, if_pos hj, List.getElem?_eq_getElem (show j < zs.length by omega), Option.map_some]
      rw [List.getD_eq_getElem?_getD, List.getElem?_eq_getElem (show j < zs.length by omega)]
      rfl
end
structure Act4 where
  dk : Int
  n : Int
  b : List UInt8
  picks : List Int
def ActAt4 (w : World) (Bd b o : Nat) (a : Act4) : Prop :=
  w.cell? ⟨b, o, none⟩ = some (.int .i64 a.dk) ∧ w.cell? ⟨b, o + 1, none⟩ = some (.int .i64 a.n) ∧ (∃ bv, w.cell? ⟨b, o + 2, none⟩ = some bv ∧ Rd w Bd 1 bv a.b.length (u8s a.b)) ∧ (∃ pv, w.cell? ⟨b, o + 3, none⟩ = some pv ∧ Rd w Bd 1 pv a.picks.length (i64s a.picks)) ∧ b < Bd
def ActsAt4 (w : World) (Bd : Nat) (lv : Value) (acts : List Act4) : Prop :=
  ∃ ao cap, lv = .slice ao acts.length cap ∧ acts.length ≤ cap ∧ cap ≤ 9223372036854775807 ∧
    ∀ (i : Nat) (a : Act4), acts[i]? = some a → ∃ b o, ao = some ⟨b, o, none⟩ ∧ ActAt4 w Bd b (o + i * 4) a
theorem ActAt4.below {w w' : World} {Bd b o : Nat} {a : Act4} (h : ActAt4 w Bd b o a) (hb : Below Bd w w') : ActAt4 w' Bd b o a := by
  obtain ⟨h0, h1, ⟨bv, h2, h3⟩, ⟨pv, h4, h5⟩, hlt⟩ := h
  exact ⟨(hb.cell (p := ⟨b, _, none⟩) hlt).trans h0, (hb.cell (p := ⟨b, _, none⟩) hlt).trans h1, ⟨bv, (hb.cell (p := ⟨b, _, none⟩) hlt).trans h2, h3.below hb⟩, ⟨pv, (hb.cell (p := ⟨b, _, none⟩) hlt).trans h4, h5.below hb⟩, hlt⟩
theorem ActsAt4.below {w w' : World} {Bd : Nat} {lv : Value} {acts : List Act4} (h : ActsAt4 w Bd lv acts) (hb : Below Bd w w') : ActsAt4 w' Bd lv acts := by
  obtain ⟨ao, cap, h1, h2, h3, h4⟩ := h
  exact ⟨ao, cap, h1, h2, h3, fun i a ha => by
    obtain ⟨b, o, e, hA⟩ := h4 i a ha
    exact ⟨b, o, e, hA.below hb⟩⟩
theorem act4_get {w : World} {Bd : Nat} {ao : Option Addr} {n cap : Nat} {acts : List Act4} (h : ActsAt4 w Bd (.slice ao n cap) acts) {i : Nat} {a : Act4} (ha : acts[i]? = some a) : ∃ b o, ao = some ⟨b, o, none⟩ ∧ ActAt4 w Bd b (o + i * 4) a := by
  obtain ⟨ao', cap', e, _, _, h4⟩ := h
  injection e with e1 _ _
  subst e1
  exact h4 i a ha
theorem cellsAct4 : Try.prog.cellsOf 35 = 4 := by kernel_rfl
theorem cellsU84 : Try.prog.cellsOf 5 = 1 := by kernel_rfl
theorem cellsI4 : Try.prog.cellsOf 3 = 1 := by kernel_rfl
def ActOk (a : Act4) : Prop := InR a.n ∧ ∀ p ∈ a.picks, InR p
set_option maxRecDepth 100000 in
/-- An argument of type Script, opened. -/
theorem open_script4 {H : Type} {enc : TypeId × Value → H} {W : World} {base : Nat} {v : Value} {d : DataW H} {p : List MemPlace} (hv : Value.okWide Try.prog W .any base 25 v)
    (h0 : DataW.Trod enc Try.prog W 0 (fun _ => true) true 25 v d p) :
    ∃ (bv lv : Value) (K : List UInt8) (acts : List Act4), v = .agg #[bv, lv] ∧ Rd W W.heap.size 1 bv K.length (u8s K) ∧ ActsAt4 W W.heap.size lv acts ∧ ∀ a ∈ acts, ActOk a := by
  obtain ⟨v0, v1, y0, y1, n, rfl, _, _, t0, t1⟩ := Joins.open_agg2 Try.underlying25 (by kernel_rfl) (by kernel_rfl) hv h0
  obtain ⟨K, hK⟩ := open_bytes Try.underlying22 Try.underlying5 cellsU84 t0
  rcases open_rows Try.underlying23 Try.underlying35 (by kernel_rfl) cellsAct4 (by decide) t1 with h | ⟨a, len, cap, hcs, hl, hm, hrow⟩
  · injection h with h
    subst h
    exact ⟨_, _, K, [], rfl, hK, ⟨none, 0, rfl, by simp, by omega, fun i a ha => by simp at ha⟩, by simp⟩
  · injection hcs with hcs
    subst hcs
    have hex : ∀ i, i < len → ∃ act : Act4, a.spot = none ∧ ActAt4 W W.heap.size a.block (a.off + i * 4) act ∧ ActOk act := by
      intro i hi
      obtain ⟨hs, vs, m, hvl, hcell, hf⟩ := hrow i hi
      obtain ⟨x0, z0, g0, r0⟩ := hf 0 _ rfl
      obtain ⟨x1, z1, g1, r1⟩ := hf 1 _ rfl
      obtain ⟨x2, z2, g2, r2⟩ := hf 2 _ rfl
      obtain ⟨x3, z3, g3, r3⟩ := hf 3 _ rfl
      obtain ⟨q0, e0, _, w0⟩ := DataW.trod_int Try.underlying3 r0
      obtain ⟨q1, e1, _, w1⟩ := DataW.trod_int Try.underlying3 r1
      obtain ⟨L, hL⟩ := open_bytes Try.underlying22 Try.underlying5 cellsU84 r2
      obtain ⟨M, hM, hMr⟩ := open_numbers Try.underlying33 Try.underlying3 cellsI4 r3
      injection e0 with e0
      injection e1 with e1
      subst e0 e1
      have c0 := (hcell 0 (by decide)).trans g0
      have c1 := (hcell 1 (by decide)).trans g1
      have c2 := (hcell 2 (by decide)).trans g2
      have c3 := (hcell 3 (by decide)).trans g3
      have hlt := World.block_lt_of_cell? W _ c0
      exact ⟨⟨q0, q1, L, M⟩, hs, ⟨c0, c1, ⟨x2, c2, hL⟩, ⟨x3, c3, hM⟩, hlt⟩, inR_wf w1, hMr⟩
    obtain ⟨acts, hal, hact⟩ := list_of_all len hex
    refine ⟨_, _, K, acts, rfl, hK, ⟨some a, cap, by rw [hal], by omega, by unfold maxLen at hm; omega, fun i act ha => ?_⟩, fun x hx => ?_⟩
    · obtain ⟨hs, hA, _⟩ := hact i act ha
      obtain ⟨b, o, s⟩ := a
      simp only at hs
      subst hs
      exact ⟨b, o, rfl, hA⟩
    · obtain ⟨i, hi⟩ := List.getElem?_of_mem hx
      exact (hact i x hi).2.2
end Go.Proofs.Ytbhoiibcfibmhaa
