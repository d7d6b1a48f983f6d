/- Wishes: how a list of them lies in memory; may, by the program and by the page. -/

import Derived.Test.YtimjbojoeacaeaaDoorTpRef
import Derived.Deep.RegionHeld3
import Derived.Deep.DeepCutAuto
namespace Go.Proofs.YtimjbojoeacaeaaDoor
open Go.RowKit Go.Shelf Go.Proofs

theorem bel_tr {w w1 w2 : World} (h : Below w.heap.size w w1) (h2 : Below w1.heap.size w1 w2) : Below w.heap.size w w2 := h.trans (h2.mono h.size)
theorem bel_to {B : Nat} {w w1 w2 : World} (h : Below B w w1) (h2 : Below w1.heap.size w1 w2) (hB : B ≤ w.heap.size) : Below B w w2 := h.trans (h2.mono (Nat.le_trans hB h.size))
theorem cell_bel {w w' : World} {p : Addr} {v : Value} (h : w.cell? p = some v) (hb : Below w.heap.size w w') : w'.cell? p = some v := (hb.cell (World.block_lt_of_cell? w _ h)).trans h

/-- A wish: its filter, its quality. -/
structure Wish1 where
  f : ByteArray
  q : Int
def wC (x : Wish1) : List Value := [.string x.f, .int .i64 x.q]
def wCells (L : List Wish1) : List Value := L.flatMap wC
theorem wCells_length (L : List Wish1) : (wCells L).length = L.length * 2 := by
  induction L with
  | nil => rfl
  | cons x r ih =>
    show (wC x ++ wCells r).length = _
    rw [List.length_append, ih]
    simp [wC]; omega
theorem wCells_app (A B : List Wish1) : wCells (A ++ B) = wCells A ++ wCells B := by simp [wCells]
theorem wCells_at (L : List Wish1) : ∀ (i : Nat) (x : Wish1), L[i]? = some x → (wCells L)[i * 2]? = some (.string x.f) ∧ (wCells L)[i * 2 + 1]? = some (.int .i64 x.q) := by
  induction L with
  | nil => intro i x h; simp at h
  | cons y r ih =>
    intro i x h
    cases i with
    | zero =>
      simp at h
      subst h
      exact ⟨rfl, rfl⟩
    | succ i =>
      have := ih i x (by simpa using h)
      have e : wCells (y :: r) = .string y.f :: .int .i64 y.q :: wCells r := rfl
      rw [e, show (i + 1) * 2 = i * 2 + 2 by omega]
      exact this
theorem wish_cell {w : World} {Bd i : Nat} {ao : Option Addr} {n cap : Nat} {L : List Wish1} {x : Wish1} (h : Rd w Bd 2 (.slice ao n cap) n (wCells L)) (hn : n = L.length) (hx : L[i]? = some x) :
    ∃ b o, ao = some ⟨b, o, none⟩ ∧ b < Bd ∧ w.cell? ⟨b, o + i * 2, none⟩ = some (.string x.f) ∧ w.cell? ⟨b, o + i * 2 + 1, none⟩ = some (.int .i64 x.q) := by
  have hi := (List.getElem?_eq_some_iff.1 hx).1
  obtain ⟨x1, x2⟩ := wCells_at L i x hx
  obtain ⟨_, ao', cap', e, _, _, _, h6⟩ := h
  injection e with e
  subst e
  obtain ⟨bb, bo, e, hlt, hc⟩ := h6 (by omega)
  exact ⟨bb, bo, e, hlt, hc _ _ x1, hc _ _ x2⟩

/-- A wish may be. -/
def mayW (x : Wish1) : Bool := ft x.f && (decide (0 ≤ x.q) && decide (x.q ≤ 2))
/-- No filter is too long to be looked at. -/
def Short (L : List Wish1) : Prop := ∀ (i : Nat) (x : Wish1), L[i]? = some x → x.f.size ≤ 100000

theorem Num_any (n m : Int) (w : World) : Calls Tryd.prog 69 #[.int .i64 n, .int .i64 m] w fun e w' => e = .returned (.bool (decide (0 ≤ n) && decide (n ≤ m))) ∧ w = w' := by
  by_cases h : 0 ≤ n
  · go_enter Tryd.func69, Tryd.ntmps69
    go_wp2
    go_ret
    exact ⟨by simp [h], rfl⟩
  · have h' : n < 0 := by omega
    have hf : Hid ((decide (0 ≤ n) && decide (n ≤ m)) = false) := Lib.hid (by rw [decide_eq_false h]; rfl)
    clear h
    go_enter Tryd.func69, Tryd.ntmps69
    go_wp2
    go_ret
    exact ⟨by rw [hf.out]; rfl, rfl⟩

set_option maxHeartbeats 400000 in
theorem rWish_any (w : World) (x : Wish1) (hs : x.f.size ≤ 100000) (hE : Env w) :
    Calls Tryd.prog 45 #[.agg #[.string x.f, .int .i64 x.q]] w fun e w' => e = .returned (.bool (mayW x)) ∧ Below w.heap.size w w' := by
  obtain ⟨f, q⟩ := x
  simp only at hs ⊢
  have hb0 := (Below.refl w.heap.size w).alloc (Nat.le_refl _) (.cells #[.string f, .int .i64 q] 43)
  have hE0 := hE.below hb0
  cases hf : ft f
  · have HF := Lib.hid hf
    have HM : Hid (mayW ⟨f, q⟩ = false) := Lib.hid (by unfold mayW; rw [hf]; rfl)
    clear hf
    go_enter Tryd.func45, Tryd.ntmps45
    go_wp2_with fail
    refine (rFilter_any _ f hs hE0).mono ?_
    rintro e w1 ⟨rfl, hb1⟩
    rw [HF.out]
    have hbb := bel_tr hb0 hb1
    go_wp2
    go_ret
    exact ⟨by rw [HM.out]; rfl, hbb⟩
  · have HF := Lib.hid hf
    have HM : Hid (mayW ⟨f, q⟩ = (decide (0 ≤ q) && decide (q ≤ 2))) := Lib.hid (by unfold mayW; rw [hf]; rfl)
    clear hf
    go_enter Tryd.func45, Tryd.ntmps45
    go_wp2_with fail
    refine (rFilter_any _ f hs hE0).mono ?_
    rintro e w1 ⟨rfl, hb1⟩
    rw [HF.out]
    have hbb := bel_tr hb0 hb1
    have c1 : w1.cell? ⟨w.heap.size, 1, none⟩ = some (.int .i64 q) := cell_bel (by simp) hb1
    go_wp2_with (go_at_call 69; refine (Num_any _ _ _).mono ?_; rintro e w' ⟨rfl, rfl⟩)
    go_ret
    exact ⟨by rw [HM.out]; rfl, hbb⟩

set_option maxHeartbeats 400000 in
theorem pmay_any (w : World) (x : Wish1) (hs : x.f.size ≤ 100000) (hE : Env w) :
    Calls Tryd.prog 70 #[.agg #[.string x.f, .int .i64 x.q]] w fun e w' => e = .returned (.bool (mayW x)) ∧ Below w.heap.size w w' := by
  obtain ⟨f, q⟩ := x
  simp only at hs ⊢
  have hb0 := (Below.refl w.heap.size w).alloc (Nat.le_refl _) (.cells #[.string f, .int .i64 q] 43)
  have hE0 := hE.below hb0
  cases hf : ft f
  · have HF := Lib.hid hf
    have HM : Hid (mayW ⟨f, q⟩ = false) := Lib.hid (by unfold mayW; rw [hf]; rfl)
    clear hf
    go_enter Tryd.func70, Tryd.ntmps70
    go_wp2_with fail
    refine (IsFilter_any _ f hs hE0).mono ?_
    rintro e w1 ⟨rfl, hb1⟩
    rw [HF.out]
    have hbb := bel_tr hb0 hb1
    go_wp2
    go_ret
    exact ⟨by rw [HM.out]; rfl, hbb⟩
  · have HF := Lib.hid hf
    by_cases h0 : 0 ≤ q
    · have HM : Hid (mayW ⟨f, q⟩ = decide (q ≤ 2)) := Lib.hid (by unfold mayW; rw [hf]; simp [h0])
      clear hf
      go_enter Tryd.func70, Tryd.ntmps70
      go_wp2_with fail
      refine (IsFilter_any _ f hs hE0).mono ?_
      rintro e w1 ⟨rfl, hb1⟩
      rw [HF.out]
      have hbb := bel_tr hb0 hb1
      have c1 : w1.cell? ⟨w.heap.size, 1, none⟩ = some (.int .i64 q) := cell_bel (by simp) hb1
      go_wp2
      go_ret
      exact ⟨by rw [HM.out]; rfl, hbb⟩
    · have HM : Hid (mayW ⟨f, q⟩ = false) := Lib.hid (by unfold mayW; rw [hf]; simp [h0])
      have h0' : q < 0 := by omega
      clear hf h0
      go_enter Tryd.func70, Tryd.ntmps70
      go_wp2_with fail
      refine (IsFilter_any _ f hs hE0).mono ?_
      rintro e w1 ⟨rfl, hb1⟩
      rw [HF.out]
      have hbb := bel_tr hb0 hb1
      have c1 : w1.cell? ⟨w.heap.size, 1, none⟩ = some (.int .i64 q) := cell_bel (by simp) hb1
      go_wp2
      go_ret
      exact ⟨by rw [HM.out]; rfl, hbb⟩
end Go.Proofs.YtimjbojoeacaeaaDoor
