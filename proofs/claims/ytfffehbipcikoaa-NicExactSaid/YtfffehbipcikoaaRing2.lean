/- The contract of pieces. -/

import Derived.Test.YtfffehbipcikoaaRing1
namespace Go.Proofs.Ytfffehbipcikoaa
open Go.RowKit

def chainOk : Bool → List Buf → Bool
  | _, [] => true
  | after, b :: r => pieceB b after && chainOk b.wr r
def wsum : List Buf → Int
  | [] => 0
  | b :: r => (if b.wr then b.len else 0) + wsum r
def bufsB (L : List Buf) : Bool := decide (1 ≤ L.length) && decide (L.length ≤ 16) && chainOk false L
def bufCells (L : List Buf) : List Value := L.flatMap Buf.cells

theorem bufCells_length (L : List Buf) : (bufCells L).length = L.length * 3 := by
  induction L with
  | nil => rfl
  | cons b r ih =>
    show (b.cells ++ bufCells r).length = _
    rw [List.length_append, ih]
    simp [Buf.cells]
    omega
theorem bufCells_at (L : List Buf) (i : Nat) (b : Buf) (h : L[i]? = some b) : (bufCells L)[i * 3]? = some (.int .i64 b.addr) ∧ (bufCells L)[i * 3 + 1]? = some (.int .i64 b.len) ∧ (bufCells L)[i * 3 + 2]? = some (.bool b.wr) := by
  induction L generalizing i with
  | nil => simp at h
  | cons c r ih =>
    have hc : bufCells (c :: r) = c.cells ++ bufCells r := rfl
    cases i with
    | zero =>
      simp at h
      subst h
      rw [hc]
      exact ⟨rfl, rfl, rfl⟩
    | succ i =>
      have h' : r[i]? = some b := by simpa using h
      have hl : c.cells.length = 3 := rfl
      obtain ⟨a1, a2, a3⟩ := ih i h'
      rw [hc]
      refine ⟨?_, ?_, ?_⟩
      · rw [List.getElem?_append_right (by omega), hl, ← a1]; congr 1; omega
      · rw [List.getElem?_append_right (by omega), hl, ← a2]; congr 1; omega
      · rw [List.getElem?_append_right (by omega), hl, ← a3]; congr 1; omega

/-- The chain's answer, as far as i. -/
def afterAt (L : List Buf) (i : Nat) : Bool := match i with | 0 => false | j + 1 => ((L[j]?).map (·.wr)).getD false
theorem chainOk_step (L : List Buf) (after : Bool) : ∀ i b, L[i]? = some b → (∀ j, j < i → ∀ c, L[j]? = some c → pieceB c (if j = 0 then after else afterAt L j) = true) → pieceB b (if i = 0 then after else afterAt L i) = false → chainOk after L = false := by
  induction L generalizing after with
  | nil => intro i b h; simp at h
  | cons c r ih =>
    intro i b h hpre hbad
    cases i with
    | zero =>
      simp at h
      subst h
      simp only [if_pos] at hbad
      simp [chainOk, hbad]
    | succ i =>
      have h' : r[i]? = some b := by simpa using h
      have hrest : chainOk c.wr r = false := by
        refine ih c.wr i b h' (fun j hj d hd => ?_) ?_
        · have := hpre (j + 1) (by omega) d (by simpa using hd)
          rw [if_neg (by omega)] at this
          cases j with
          | zero => simpa [afterAt] using this
          | succ j => simpa [afterAt] using this
        · rw [if_neg (by omega)] at hbad
          cases i with
          | zero => simpa [afterAt] using hbad
          | succ i => simpa [afterAt] using hbad
      simp [chainOk, hrest]
theorem chainOk_all (L : List Buf) (after : Bool) : (∀ j, ∀ c, L[j]? = some c → pieceB c (if j = 0 then after else afterAt L j) = true) → chainOk after L = true := by
  induction L generalizing after with
  | nil => intro _; rfl
  | cons c r ih =>
    intro hpre
    have h0 := hpre 0 c rfl
    simp only [if_pos] at h0
    have hrest : chainOk c.wr r = true := by
      refine ih c.wr (fun j d hd => ?_)
      have := hpre (j + 1) d (by simpa using hd)
      rw [if_neg (by omega)] at this
      cases j with
      | zero => simpa [afterAt] using this
      | succ j => simpa [afterAt] using this
    simp [chainOk, h0, hrest]
theorem wsum_take (L : List Buf) (i : Nat) (b : Buf) (h : L[i]? = some b) : wsum (L.take (i + 1)) = wsum (L.take i) + if b.wr then b.len else 0 := by
  induction L generalizing i with
  | nil => simp at h
  | cons c r ih =>
    cases i with
    | zero => simp at h; subst h; simp [wsum]
    | succ i =>
      have h' : r[i]? = some b := by simpa using h
      simp only [List.take_succ_cons, wsum, ih i h']
      omega

/-- So far all pieces may be. -/
def preOk (L : List Buf) (i : Nat) : Prop := ∀ j, j < i → ∀ c, L[j]? = some c → pieceB c (if j = 0 then false else afterAt L j) = true
theorem afterAt_if (L : List Buf) (j : Nat) : (if j = 0 then false else afterAt L j) = afterAt L j := by cases j <;> simp [afterAt]
theorem preOk_step {L : List Buf} {i : Nat} {b : Buf} (h : preOk L i) (hb : L[i]? = some b) (hp : pieceB b (afterAt L i) = true) : preOk L (i + 1) := by
  intro j hj c hc
  by_cases e : j = i
  · subst e
    rw [hb] at hc
    injection hc with hc
    subst hc
    rw [afterAt_if]
    exact hp
  · exact h j (by omega) c hc
theorem preOk_bad {L : List Buf} {i : Nat} {b : Buf} (h : preOk L i) (hb : L[i]? = some b) (hp : pieceB b (afterAt L i) = false) : bufsB L = false := by
  have := chainOk_step L false i b hb h (by rw [afterAt_if]; exact hp)
  simp [bufsB, this]
theorem preOk_all {L : List Buf} (h : preOk L L.length) (h1 : 1 ≤ L.length) (h2 : L.length ≤ 16) : bufsB L = true := by
  have := chainOk_all L false (fun j c hc => h j (List.getElem?_eq_some_iff.1 hc).1 c hc)
  simp [bufsB, this, h1, h2]

theorem wsum_bd {L : List Buf} {i : Nat} (h : preOk L i) : 0 ≤ wsum (L.take i) ∧ wsum (L.take i) ≤ i * 65536 := by
  induction i with
  | zero => simp [wsum]
  | succ i ih =>
    have hi := ih (fun j hj c hc => h j (by omega) c hc)
    cases hb : L[i]? with
    | none =>
      have hl : L.length ≤ i := List.getElem?_eq_none_iff.1 hb
      rw [List.take_of_length_le (by omega)]
      rw [List.take_of_length_le (by omega)] at hi
      omega
    | some b =>
      have hp := h i (by omega) b hb
      rw [wsum_take L i b hb]
      have : 1 ≤ b.len ∧ b.len ≤ 65536 := by
        simp [pieceB, bufB] at hp
        omega
      split <;> omega

/-- What holds at the label 'next'. -/
def JNext (L : List Buf) (ao : Option Addr) (cap : Nat) (w : World) (a' : Act) (w' : World) : Prop :=
  ∃ i : Nat, i ≤ L.length ∧ 1 ≤ L.length ∧ L.length ≤ 16 ∧ preOk L i ∧ Below w.heap.size w w' ∧ ∃ u1 u6 u7 u8 u9 u10 u11 u12 u13 u14 u15 u16 u17 u18 u19 u20 u21 u22 u23 u24 u25 u26 u27 u28 u29 u30 u31 u32 u33 u34 u35 u36 u37 u38 u39 : Value, a' = { tmps := #[.slice ao L.length cap, u1, .int .i64 (wsum (L.take i)), .bool false, .bool (afterAt L i), .int .i64 i, u6, u7, u8, u9, u10, u11, u12, u13, u14, u15, u16, u17, u18, u19, u20, u21, u22, u23, u24, u25, u26, u27, u28, u29, u30, u31, u32, u33, u34, u35, u36, u37, u38, u39], defers := [] }
def JBad (L : List Buf) (w : World) (a' : Act) (w' : World) : Prop := bufsB L = false ∧ Below w.heap.size w w' ∧ ∃ u0 u1 u2 u3 u4 u5 u6 u7 u8 u9 u10 u11 u12 u13 u14 u15 u16 u17 u18 u19 u20 u21 u22 u23 u24 u25 u26 u27 u28 u29 u30 u31 u32 u33 u34 u35 u36 u37 u38 u39 : Value, a' = { tmps := #[u0, u1, u2, u3, u4, u5, u6, u7, u8, u9, u10, u11, u12, u13, u14, u15, u16, u17, u18, u19, u20, u21, u22, u23, u24, u25, u26, u27, u28, u29, u30, u31, u32, u33, u34, u35, u36, u37, u38, u39], defers := [] }

theorem bufs_cell {w : World} {Bd : Nat} {ao : Option Addr} {cap i : Nat} {L : List Buf} {b : Buf} (h : Rd w Bd 3 (.slice ao L.length cap) L.length (bufCells L)) (hb : L[i]? = some b) :
    ∃ bb bo, ao = some ⟨bb, bo, none⟩ ∧ w.cell? ⟨bb, bo + i * 3, none⟩ = some (.int .i64 b.addr) ∧ w.cell? ⟨bb, bo + i * 3 + 1, none⟩ = some (.int .i64 b.len) ∧ w.cell? ⟨bb, bo + i * 3 + 2, none⟩ = some (.bool b.wr) := by
  have hi := (List.getElem?_eq_some_iff.1 hb).1
  obtain ⟨x1, x2, x3⟩ := bufCells_at L i b hb
  obtain ⟨_, ao', cap', e, _, _, _, h6⟩ := h
  injection e with e
  subst e
  obtain ⟨bb, bo, e, _, hc⟩ := h6 (by omega)
  exact ⟨bb, bo, e, hc _ _ x1, hc _ _ x2, hc _ _ x3⟩
theorem bufLen {b : Buf} {after : Bool} (h : pieceB b after = true) : 1 ≤ b.len ∧ b.len ≤ 65536 := by
  simp [pieceB, bufB] at h
  omega
theorem cell_bel {w w' : World} {p : Addr} {v : Value} (h : w.cell? p = some v) (hb : Below w.heap.size w w') : w'.cell? p = some v := (hb.cell (World.block_lt_of_cell? w _ h)).trans h

set_option maxHeartbeats 2000000 in
theorem pieces_any (w : World) (v : Value) (L : List Buf) (h : Rd w w.heap.size 3 v L.length (bufCells L)) :
    Calls Try.prog 74 #[v] w fun e w' => e = .returned (.tuple #[.int .i64 (if bufsB L then wsum L else 0), .bool (bufsB L)]) ∧ Below w.heap.size w w' := by
  obtain ⟨ao, cap, rfl, hc, hm⟩ := h.form
  have hc2 : cap ≤ 9223372036854775807 := by unfold maxLen at hm; omega
  have H := Lib.hid h
  clear h hm
  go_enter Try.func74, Try.ntmps74
  go_wp2
  refine wp_scope_labels (fun l a' w' => (l = 1 ∧ JNext L ao cap w a' w') ∨ (l = 0 ∧ JBad L w a' w')) (fun l a' _ => if l = 1 then 20 - (intOf (a'.tmps.getD 5 undef)).toNat else 0) ?_ ?_
  · by_cases h1 : L.length < 1
    · have HB : Hid (bufsB L = false) := Lib.hid (by simp [bufsB]; omega)
      go_wp2
      go_step3
      exact Or.inr ⟨rfl, HB.out, Below.refl _ _, _, _, _, _, _, _, _, _, _, _, _, _, _, _, _, _, _, _, _, _, _, _, _, _, _, _, _, _, _, _, _, _, _, _, _, _, _, _, _, _, rfl⟩
    · have h1 : 1 ≤ L.length := by omega
      by_cases h2 : 16 < L.length
      · have HB : Hid (bufsB L = false) := Lib.hid (by simp [bufsB]; omega)
        go_wp2
        go_step3
        exact Or.inr ⟨rfl, HB.out, Below.refl _ _, _, _, _, _, _, _, _, _, _, _, _, _, _, _, _, _, _, _, _, _, _, _, _, _, _, _, _, _, _, _, _, _, _, _, _, _, _, _, _, _, rfl⟩
      · have h2 : L.length ≤ 16 := by omega
        go_wp2
        go_step3
        obtain ⟨b, hb⟩ : ∃ b, L[0]? = some b := ⟨_, List.getElem?_eq_getElem (by omega)⟩
        have HB := Lib.hid hb
        have hne : ((0 : Int) == (L.length : Int)) = false := beq_eq_false_iff_ne.2 (by omega)
        obtain ⟨bb, bo, rfl, z1, z2, z3⟩ := bufs_cell H.out hb
        rw [Nat.zero_mul, Nat.add_zero] at z1 z2 z3
        have hbx := Below.refl w.heap.size w
        have hpre : Hid (preOk L 0) := Lib.hid (fun j hj => by omega)
        clear hb
        go_wp2_with fail
        refine (piece_any _ b false).mono ?_
        rintro e w1 ⟨rfl, hb1⟩
        have hbx1 := hbx.trans (hb1.mono hbx.size)
        have y2 := cell_bel z2 hb1
        have y3 := cell_bel z3 hb1
        cases hp : pieceB b false
        · have HQ : Hid (bufsB L = false) := Lib.hid (preOk_bad hpre.out HB.out (by simpa [afterAt] using hp))
          clear hp
          go_wp2
          go_step3
          go_wp2
          simp only [exitJumps]
          go_ret2
          exact ⟨by rw [HQ.out]; rfl, hbx1⟩
        · have HS : Hid (preOk L 1) := Lib.hid (preOk_step hpre.out HB.out (by simpa [afterAt] using hp))
          have HT : Hid (wsum (L.take 1) = if b.wr then b.len else 0) := Lib.hid (by have := wsum_take L 0 b HB.out; simpa [wsum] using this)
          have HA : Hid (afterAt L 1 = b.wr) := Lib.hid (by simp [afterAt, HB.out])
          have hlen := bufLen hp
          clear hp
          cases hw : b.wr
          · have HT' : Hid (wsum (L.take 1) = 0) := Lib.hid (by rw [HT.out, hw]; rfl)
            have HA' : Hid (afterAt L 1 = false) := Lib.hid (by rw [HA.out, hw])
            rw [hw] at y3
            go_wp2
            go_step3
            exact Or.inl ⟨rfl, 1, by omega, h1, h2, HS.out, hbx1, _, _, _, _, _, _, _, _, _, _, _, _, _, _, _, _, _, _, _, _, _, _, _, _, _, _, _, _, _, _, _, _, _, _, _, by rw [HT'.out, HA'.out]; rfl⟩
          · have HT' : Hid (wsum (L.take 1) = b.len) := Lib.hid (by rw [HT.out, hw]; rfl)
            have HA' : Hid (afterAt L 1 = true) := Lib.hid (by rw [HA.out, hw])
            rw [hw] at y3
            go_wp2
            go_step3
            exact Or.inl ⟨rfl, 1, by omega, h1, h2, HS.out, hbx1, _, _, _, _, _, _, _, _, _, _, _, _, _, _, _, _, _, _, _, _, _, _, _, _, _, _, _, _, _, _, _, _, _, _, _, by rw [HT'.out, HA'.out]; rfl⟩
  · rintro l a' w' (⟨rfl, i, hi, hL1, hL2, hpre0, hbx, u1, u6, u7, u8, u9, u10, u11, u12, u13, u14, u15, u16, u17, u18, u19, u20, u21, u22, u23, u24, u25, u26, u27, u28, u29, u30, u31, u32, u33, u34, u35, u36, u37, u38, u39, rfl⟩ | ⟨rfl, hq, hbx, u0, u1, u2, u3, u4, u5, u6, u7, u8, u9, u10, u11, u12, u13, u14, u15, u16, u17, u18, u19, u20, u21, u22, u23, u24, u25, u26, u27, u28, u29, u30, u31, u32, u33, u34, u35, u36, u37, u38, u39, rfl⟩)
    · refine ⟨_, rfl, ?_⟩
      have hpre := Lib.hid hpre0
      clear hpre0
      by_cases hil : i < L.length
      · obtain ⟨b, hb⟩ : ∃ b, L[i]? = some b := ⟨_, List.getElem?_eq_getElem hil⟩
        have HB := Lib.hid hb
        have hne : ((i : Int) == (L.length : Int)) = false := beq_eq_false_iff_ne.2 (by omega)
        obtain ⟨bb, bo, rfl, z1, z2, z3⟩ := bufs_cell (H.out.below hbx) hb
        clear hb
        · obtain ⟨hs1, hs2⟩ := wsum_bd hpre.out
          have hs3 : wsum (L.take i) ≤ 1048576 := by omega
          go_wp2_with fail
          refine (piece_any _ b (afterAt L i)).mono ?_
          rintro e w1 ⟨rfl, hb1⟩
          have hbx1 := hbx.trans (hb1.mono hbx.size)
          have y2 := cell_bel z2 hb1
          have y3 := cell_bel z3 hb1
          cases hp : pieceB b (afterAt L i)
          · have HQ : Hid (bufsB L = false) := Lib.hid (preOk_bad hpre.out HB.out hp)
            clear hp
            go_wp2
            go_step3
            go_wp2
            simp only [exitJumps]
            go_ret2
            exact ⟨by rw [HQ.out]; rfl, hbx1⟩
          · have HS : Hid (preOk L (i + 1)) := Lib.hid (preOk_step hpre.out HB.out hp)
            have HT := Lib.hid (wsum_take L i b HB.out)
            have HA : Hid (afterAt L (i + 1) = b.wr) := Lib.hid (by simp [afterAt, HB.out])
            obtain ⟨hl1, hl2⟩ := bufLen hp
            clear hp
            cases hw : b.wr
            · have HT' : Hid (wsum (L.take (i + 1)) = wsum (L.take i)) := Lib.hid (by rw [HT.out, hw]; simp)
              have HA' : Hid (afterAt L (i + 1) = false) := Lib.hid (by rw [HA.out, hw])
              rw [hw] at y3
              go_wp2
              go_step3
              exact ⟨Or.inl ⟨rfl, i + 1, by omega, hL1, hL2, HS.out, hbx1, _, _, _, _, _, _, _, _, _, _, _, _, _, _, _, _, _, _, _, _, _, _, _, _, _, _, _, _, _, _, _, _, _, _, _, by rw [HT'.out, HA'.out]; rfl⟩, by simp [intOf]; omega⟩
            · have HT' : Hid (wsum (L.take (i + 1)) = wsum (L.take i) + b.len) := Lib.hid (by rw [HT.out, hw]; simp)
              have HA' : Hid (afterAt L (i + 1) = true) := Lib.hid (by rw [HA.out, hw])
              rw [hw] at y3
              go_wp2
              go_step3
              exact ⟨Or.inl ⟨rfl, i + 1, by omega, hL1, hL2, HS.out, hbx1, _, _, _, _, _, _, _, _, _, _, _, _, _, _, _, _, _, _, _, _, _, _, _, _, _, _, _, _, _, _, _, _, _, _, _, by rw [HT'.out, HA'.out]; rfl⟩, by simp [intOf]; omega⟩
      · have hie : i = L.length := by omega
        subst hie
        have HQ : Hid (bufsB L = true) := Lib.hid (preOk_all hpre.out hL1 hL2)
        have hT : Hid (wsum (L.take L.length) = wsum L) := Lib.hid (by rw [List.take_length])
        go_wp2
        simp only [exitJumps]
        go_ret2
        exact ⟨by rw [HQ.out, ← hT.out]; rfl, hbx⟩
    · refine ⟨_, rfl, ?_⟩
      have HQ := Lib.hid hq
      clear hq
      go_wp2
      simp only [exitJumps]
      go_ret2
      exact ⟨by rw [HQ.out]; rfl, hbx⟩
end Go.Proofs.Ytfffehbipcikoaa
