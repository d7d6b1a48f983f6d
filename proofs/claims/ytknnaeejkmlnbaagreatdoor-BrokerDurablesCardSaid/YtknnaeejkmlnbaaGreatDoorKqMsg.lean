/- Messages: how a list of them lies in memory; may, by the program and by the page. -/

import Derived.Test.YtknnaeejkmlnbaaGreatDoorTpRef
import Derived.Deep.RegionHeld3
import Derived.Deep.DeepCutAuto
import Derived.IntWalk
namespace Go.Proofs.YtknnaeejkmlnbaaGreatDoor.Kq
open Go.RowKit Go.Shelf Go.Proofs

theorem bel_tr {w w1 w2 : World} (h : Below w.heap.size w w1) (h2 : Below w1.heap.size w1 w2) : Below w.heap.size w w2 := h.trans (h2.mono h.size)
theorem cell_bel {w w' : World} {p : Addr} {v : Value} (h : w.cell? p = some v) (hb : Below w.heap.size w w') : w'.cell? p = some v := (hb.cell (World.block_lt_of_cell? w _ h)).trans h

/-- A message: its topic, its payload, its quality, whether it is kept. -/
structure Msg1 where
  f : ByteArray
  p : ByteArray
  q : Int
  r : Bool
deriving DecidableEq
def wC (x : Msg1) : List Value := [.string x.f, .string x.p, .int .i64 x.q, .bool x.r]
def wCells (L : List Msg1) : List Value := L.flatMap wC
theorem wCells_at (L : List Msg1) : ∀ (i : Nat) (x : Msg1), L[i]? = some x → (wCells L)[i * 4]? = some (.string x.f) ∧ (wCells L)[i * 4 + 1]? = some (.string x.p) ∧ (wCells L)[i * 4 + 2]? = some (.int .i64 x.q) ∧ (wCells L)[i * 4 + 3]? = some (.bool x.r) := by
  induction L with
  | nil => intro i x h; simp at h
  | cons y r ih =>
    intro i x h
    cases i with
    | zero =>
      simp at h
      subst h
      exact ⟨rfl, rfl, rfl, rfl⟩
    | succ i =>
      have := ih i x (by simpa using h)
      have e : wCells (y :: r) = .string y.f :: .string y.p :: .int .i64 y.q :: .bool y.r :: wCells r := rfl
      rw [e, show (i + 1) * 4 = i * 4 + 4 by omega]
      exact this
theorem wish_cell {w : World} {Bd i : Nat} {ao : Option Addr} {n cap : Nat} {L : List Msg1} {x : Msg1} (h : Rd w Bd 4 (.slice ao n cap) n (wCells L)) (hn : n = L.length) (hx : L[i]? = some x) :
    ∃ b o, ao = some ⟨b, o, none⟩ ∧ b < Bd ∧ w.cell? ⟨b, o + i * 4, none⟩ = some (.string x.f) ∧ w.cell? ⟨b, o + i * 4 + 1, none⟩ = some (.string x.p) ∧ w.cell? ⟨b, o + i * 4 + 2, none⟩ = some (.int .i64 x.q) ∧ w.cell? ⟨b, o + i * 4 + 3, none⟩ = some (.bool x.r) := by
  have hi := (List.getElem?_eq_some_iff.1 hx).1
  obtain ⟨x1, x2, x3, x4⟩ := wCells_at L i x hx
  obtain ⟨_, ao', cap', e, _, _, _, h6⟩ := h
  injection e with e
  subst e
  obtain ⟨bb, bo, e, hlt, hc⟩ := h6 (by omega)
  exact ⟨bb, bo, e, hlt, hc _ _ x1, hc _ _ x2, hc _ _ x3, hc _ _ x4⟩

/-- A message may be put. -/
def mayW (x : Msg1) : Bool := nm x.f && decide (x.p.size ≤ 128) && (decide (0 ≤ x.q) && decide (x.q ≤ 2)) && x.r
/-- No text is too long to be looked at. -/
def Short (L : List Msg1) : Prop := ∀ (i : Nat) (x : Msg1), L[i]? = some x → x.f.size ≤ 100000 ∧ x.p.size ≤ 100000

theorem Num_any (n m : Int) (w : World) : Calls Tryz.prog 47 #[.int .i64 n, .int .i64 m] w fun e w' => e = .returned (.bool (decide (0 ≤ n) && decide (n ≤ m))) ∧ w = w' := by
  by_cases h : 0 ≤ n
  · go_enter Tryz.func47, Tryz.ntmps47
    go_wp2
    go_ret
    exact ⟨by simp [h], rfl⟩
  · have h' : n < 0 := by omega
    have hf : Hid ((decide (0 ≤ n) && decide (n ≤ m)) = false) := Lib.hid (by rw [decide_eq_false h]; rfl)
    clear h
    go_enter Tryz.func47, Tryz.ntmps47
    go_wp2
    go_ret
    exact ⟨by rw [hf.out]; rfl, rfl⟩

set_option maxHeartbeats 1000000 in
theorem rmsg_any (w : World) (x : Msg1) (hs : x.f.size ≤ 100000) (hs2 : x.p.size ≤ 100000) (hE : Env w) :
    Calls Tryz.prog 46 #[.agg #[.string x.f, .string x.p, .int .i64 x.q, .bool x.r]] w fun e w' => e = .returned (.bool (mayW x)) ∧ Below w.heap.size w w' := by
  obtain ⟨f, p, q, r⟩ := x
  simp only at hs hs2 ⊢
  cases hf : nm f
  · have HF := Lib.hid hf
    have HM : Hid (mayW ⟨f, p, q, r⟩ = false) := Lib.hid (by unfold mayW; rw [hf]; rfl)
    clear hf
    have hb0 := (Below.refl w.heap.size w).alloc (Nat.le_refl _) (.cells #[.string f, .string p, .int .i64 q, .bool r] 83)
    have hE0 := hE.below hb0
    go_enter Tryz.func46, Tryz.ntmps46
    go_wp2_with fail
    refine (rName_any _ f (by omega) hE0).mono ?_
    rintro e w1 ⟨rfl, hb1⟩
    rw [HF.out]
    have hbb := bel_tr hb0 hb1
    have c1 : w1.cell? ⟨w.heap.size, 1, none⟩ = some (.string p) := cell_bel (by simp) hb1
    have c2 : w1.cell? ⟨w.heap.size, 2, none⟩ = some (.int .i64 q) := cell_bel (by simp) hb1
    have c3 : w1.cell? ⟨w.heap.size, 3, none⟩ = some (.bool r) := cell_bel (by simp) hb1
    go_wp2_with (go_at_call 47; refine (Num_any _ _ _).mono ?_; rintro e w' ⟨rfl, rfl⟩)
    go_ret
    exact ⟨by rw [HM.out]; try rfl, hbb⟩
  · have HF := Lib.hid hf
    by_cases hp : p.size ≤ 128
    · cases hq : (decide (0 ≤ q) && decide (q ≤ 2))
      · have HM : Hid (mayW ⟨f, p, q, r⟩ = false) := Lib.hid (by unfold mayW; simp only; rw [hf, hq, decide_eq_true hp]; rfl)
        have HQ := Lib.hid hq
        clear hf hq
        have hb0 := (Below.refl w.heap.size w).alloc (Nat.le_refl _) (.cells #[.string f, .string p, .int .i64 q, .bool r] 83)
        have hE0 := hE.below hb0
        go_enter Tryz.func46, Tryz.ntmps46
        go_wp2_with fail
        refine (rName_any _ f (by omega) hE0).mono ?_
        rintro e w1 ⟨rfl, hb1⟩
        rw [HF.out]
        have hbb := bel_tr hb0 hb1
        have c1 : w1.cell? ⟨w.heap.size, 1, none⟩ = some (.string p) := cell_bel (by simp) hb1
        have c2 : w1.cell? ⟨w.heap.size, 2, none⟩ = some (.int .i64 q) := cell_bel (by simp) hb1
        have c3 : w1.cell? ⟨w.heap.size, 3, none⟩ = some (.bool r) := cell_bel (by simp) hb1
        go_wp2_with (go_at_call 47; refine (Num_any _ _ _).mono ?_; rintro e w' ⟨rfl, rfl⟩; rw [HQ.out])
        go_ret
        exact ⟨by rw [HM.out]; try rfl, hbb⟩
      · have HM : Hid (mayW ⟨f, p, q, r⟩ = r) := Lib.hid (by unfold mayW; simp only; rw [hf, hq, decide_eq_true hp]; simp)
        have HQ := Lib.hid hq
        clear hf hq
        have hb0 := (Below.refl w.heap.size w).alloc (Nat.le_refl _) (.cells #[.string f, .string p, .int .i64 q, .bool r] 83)
        have hE0 := hE.below hb0
        go_enter Tryz.func46, Tryz.ntmps46
        go_wp2_with fail
        refine (rName_any _ f (by omega) hE0).mono ?_
        rintro e w1 ⟨rfl, hb1⟩
        rw [HF.out]
        have hbb := bel_tr hb0 hb1
        have c1 : w1.cell? ⟨w.heap.size, 1, none⟩ = some (.string p) := cell_bel (by simp) hb1
        have c2 : w1.cell? ⟨w.heap.size, 2, none⟩ = some (.int .i64 q) := cell_bel (by simp) hb1
        have c3 : w1.cell? ⟨w.heap.size, 3, none⟩ = some (.bool r) := cell_bel (by simp) hb1
        go_wp2_with (go_at_call 47; refine (Num_any _ _ _).mono ?_; rintro e w' ⟨rfl, rfl⟩; rw [HQ.out])
        go_ret
        exact ⟨by rw [HM.out]; try rfl, hbb⟩
    · have HM : Hid (mayW ⟨f, p, q, r⟩ = false) := Lib.hid (by unfold mayW; simp only; rw [hf, decide_eq_false hp]; rfl)
      clear hf
      have hb0 := (Below.refl w.heap.size w).alloc (Nat.le_refl _) (.cells #[.string f, .string p, .int .i64 q, .bool r] 83)
      have hE0 := hE.below hb0
      go_enter Tryz.func46, Tryz.ntmps46
      go_wp2_with fail
      refine (rName_any _ f (by omega) hE0).mono ?_
      rintro e w1 ⟨rfl, hb1⟩
      rw [HF.out]
      have hbb := bel_tr hb0 hb1
      have c1 : w1.cell? ⟨w.heap.size, 1, none⟩ = some (.string p) := cell_bel (by simp) hb1
      have c2 : w1.cell? ⟨w.heap.size, 2, none⟩ = some (.int .i64 q) := cell_bel (by simp) hb1
      have c3 : w1.cell? ⟨w.heap.size, 3, none⟩ = some (.bool r) := cell_bel (by simp) hb1
      go_wp2_with (go_at_call 47; refine (Num_any _ _ _).mono ?_; rintro e w' ⟨rfl, rfl⟩)
      go_ret
      exact ⟨by rw [HM.out]; try rfl, hbb⟩
set_option maxHeartbeats 1000000 in
theorem pmay_any (w : World) (x : Msg1) (hs : x.f.size ≤ 100000) (hs2 : x.p.size ≤ 100000) (hE : Env w) :
    Calls Tryz.prog 62 #[.agg #[.string x.f, .string x.p, .int .i64 x.q, .bool x.r]] w fun e w' => e = .returned (.bool (mayW x)) ∧ Below w.heap.size w w' := by
  obtain ⟨f, p, q, r⟩ := x
  simp only at hs hs2 ⊢
  cases hf : nm f
  · have HF := Lib.hid hf
    have HM : Hid (mayW ⟨f, p, q, r⟩ = false) := Lib.hid (by unfold mayW; rw [hf]; rfl)
    clear hf
    have hb0 := (Below.refl w.heap.size w).alloc (Nat.le_refl _) (.cells #[.string f, .string p, .int .i64 q, .bool r] 83)
    have hE0 := hE.below hb0
    go_enter Tryz.func62, Tryz.ntmps62
    go_wp2_with fail
    refine (IsName_any _ f (by omega) hE0).mono ?_
    rintro e w1 ⟨rfl, hb1⟩
    rw [HF.out]
    have hbb := bel_tr hb0 hb1
    have c1 : w1.cell? ⟨w.heap.size, 1, none⟩ = some (.string p) := cell_bel (by simp) hb1
    have c2 : w1.cell? ⟨w.heap.size, 2, none⟩ = some (.int .i64 q) := cell_bel (by simp) hb1
    have c3 : w1.cell? ⟨w.heap.size, 3, none⟩ = some (.bool r) := cell_bel (by simp) hb1
    go_wp2
    go_ret
    exact ⟨by rw [HM.out]; try rfl, hbb⟩
  · have HF := Lib.hid hf
    by_cases hp : p.size ≤ 128
    · by_cases h0 : 0 ≤ q
      · by_cases h2 : q ≤ 2
        · have HM : Hid (mayW ⟨f, p, q, r⟩ = r) := Lib.hid (by unfold mayW; simp only; rw [hf, decide_eq_true hp, decide_eq_true h0, decide_eq_true h2]; simp)
          clear hf
          have hb0 := (Below.refl w.heap.size w).alloc (Nat.le_refl _) (.cells #[.string f, .string p, .int .i64 q, .bool r] 83)
          have hE0 := hE.below hb0
          go_enter Tryz.func62, Tryz.ntmps62
          go_wp2_with fail
          refine (IsName_any _ f (by omega) hE0).mono ?_
          rintro e w1 ⟨rfl, hb1⟩
          rw [HF.out]
          have hbb := bel_tr hb0 hb1
          have c1 : w1.cell? ⟨w.heap.size, 1, none⟩ = some (.string p) := cell_bel (by simp) hb1
          have c2 : w1.cell? ⟨w.heap.size, 2, none⟩ = some (.int .i64 q) := cell_bel (by simp) hb1
          have c3 : w1.cell? ⟨w.heap.size, 3, none⟩ = some (.bool r) := cell_bel (by simp) hb1
          go_wp2
          go_ret
          exact ⟨by rw [HM.out]; try rfl, hbb⟩
        · have HM : Hid (mayW ⟨f, p, q, r⟩ = false) := Lib.hid (by unfold mayW; simp only; rw [decide_eq_false h2]; simp)
          clear hf
          have hb0 := (Below.refl w.heap.size w).alloc (Nat.le_refl _) (.cells #[.string f, .string p, .int .i64 q, .bool r] 83)
          have hE0 := hE.below hb0
          go_enter Tryz.func62, Tryz.ntmps62
          go_wp2_with fail
          refine (IsName_any _ f (by omega) hE0).mono ?_
          rintro e w1 ⟨rfl, hb1⟩
          rw [HF.out]
          have hbb := bel_tr hb0 hb1
          have c1 : w1.cell? ⟨w.heap.size, 1, none⟩ = some (.string p) := cell_bel (by simp) hb1
          have c2 : w1.cell? ⟨w.heap.size, 2, none⟩ = some (.int .i64 q) := cell_bel (by simp) hb1
          have c3 : w1.cell? ⟨w.heap.size, 3, none⟩ = some (.bool r) := cell_bel (by simp) hb1
          go_wp2
          go_ret
          exact ⟨by rw [HM.out]; try rfl, hbb⟩
      · have HM : Hid (mayW ⟨f, p, q, r⟩ = false) := Lib.hid (by unfold mayW; simp only; rw [decide_eq_false h0]; simp)
        have h0' : q < 0 := by omega
        clear hf h0
        have hb0 := (Below.refl w.heap.size w).alloc (Nat.le_refl _) (.cells #[.string f, .string p, .int .i64 q, .bool r] 83)
        have hE0 := hE.below hb0
        go_enter Tryz.func62, Tryz.ntmps62
        go_wp2_with fail
        refine (IsName_any _ f (by omega) hE0).mono ?_
        rintro e w1 ⟨rfl, hb1⟩
        rw [HF.out]
        have hbb := bel_tr hb0 hb1
        have c1 : w1.cell? ⟨w.heap.size, 1, none⟩ = some (.string p) := cell_bel (by simp) hb1
        have c2 : w1.cell? ⟨w.heap.size, 2, none⟩ = some (.int .i64 q) := cell_bel (by simp) hb1
        have c3 : w1.cell? ⟨w.heap.size, 3, none⟩ = some (.bool r) := cell_bel (by simp) hb1
        go_wp2
        go_ret
        exact ⟨by rw [HM.out]; try rfl, hbb⟩
    · have HM : Hid (mayW ⟨f, p, q, r⟩ = false) := Lib.hid (by unfold mayW; simp only; rw [hf, decide_eq_false hp]; rfl)
      clear hf
      have hb0 := (Below.refl w.heap.size w).alloc (Nat.le_refl _) (.cells #[.string f, .string p, .int .i64 q, .bool r] 83)
      have hE0 := hE.below hb0
      go_enter Tryz.func62, Tryz.ntmps62
      go_wp2_with fail
      refine (IsName_any _ f (by omega) hE0).mono ?_
      rintro e w1 ⟨rfl, hb1⟩
      rw [HF.out]
      have hbb := bel_tr hb0 hb1
      have c1 : w1.cell? ⟨w.heap.size, 1, none⟩ = some (.string p) := cell_bel (by simp) hb1
      have c2 : w1.cell? ⟨w.heap.size, 2, none⟩ = some (.int .i64 q) := cell_bel (by simp) hb1
      have c3 : w1.cell? ⟨w.heap.size, 3, none⟩ = some (.bool r) := cell_bel (by simp) hb1
      go_wp2
      go_ret
      exact ⟨by rw [HM.out]; try rfl, hbb⟩
theorem pmay_is (w : World) (x : Msg1) (hs : x.f.size ≤ 100000) (hs2 : x.p.size ≤ 100000) (hE : Env w) {b : Bool} (hb : mayW x = b) :
    Calls Tryz.prog 62 #[.agg #[.string x.f, .string x.p, .int .i64 x.q, .bool x.r]] w fun e w' => e = .returned (.bool b) ∧ Below w.heap.size w w' := hb ▸ pmay_any w x hs hs2 hE
theorem rmsg_is (w : World) (x : Msg1) (hs : x.f.size ≤ 100000) (hs2 : x.p.size ≤ 100000) (hE : Env w) {b : Bool} (hb : mayW x = b) :
    Calls Tryz.prog 46 #[.agg #[.string x.f, .string x.p, .int .i64 x.q, .bool x.r]] w fun e w' => e = .returned (.bool b) ∧ Below w.heap.size w w' := hb ▸ rmsg_any w x hs hs2 hE
end Go.Proofs.YtknnaeejkmlnbaaGreatDoor.Kq
