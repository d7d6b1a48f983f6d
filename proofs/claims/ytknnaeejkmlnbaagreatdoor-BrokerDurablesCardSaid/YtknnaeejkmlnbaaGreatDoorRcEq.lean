/- Lists held against each other: numbers, wishes, messages, flights. -/


import Derived.Test.YtknnaeejkmlnbaaGreatDoorGa
import Derived.Test.YtknnaeejkmlnbaaGreatDoorGc
import Derived.Outline
namespace Go.Proofs.YtknnaeejkmlnbaaGreatDoor
open Go.RowKit
set_option maxRecDepth 20000 in
set_option maxHeartbeats 2000000 in
theorem eqI (w : World) (v1 v2 : Value) (A B : List Int) (B1 B2 : Nat) (h1 : Rd w B1 1 v1 A.length (eI.cells A)) (h2 : Rd w B2 1 v2 B.length (eI.cells B)) :
    Calls Tryz.prog 28 #[v1, v2] w fun e w' => e = .returned (.bool (yes (A = B))) ∧ Below w.heap.size w w' := by
  obtain ⟨ao, cap, rfl, hc, hm⟩ := h1.form
  obtain ⟨bo, cap2, rfl, hc2, hm2⟩ := h2.form
  have hm' : cap ≤ 9223372036854775807 := by unfold maxLen at hm; omega
  have hm2' : cap2 ≤ 9223372036854775807 := by unfold maxLen at hm2; omega
  have H1 := Lib.hid h1
  have H2 := Lib.hid h2
  clear h1 h2 hm hm2
  by_cases hl : A.length = B.length
  · have hl1 : ((A.length : Int) != (B.length : Int)) = false := by simp [hl]
    have hl2 : (A.length != B.length) = false := by simp [hl]
    have HLL := Lib.hid hl
    clear hl
    go_enter Tryz.func28, Tryz.ntmps28
    go_wp2
    go_loopw [5] (fun i wr => ∃ k : Nat, k ≤ A.length ∧ i = .int .i64 k ∧ Hid (A.take k = B.take k) ∧ Below w.heap.size w wr ∧ ∃ nd, wr = w.drewN nd) (fun i _ => A.length - (intOf i).toNat)
    case atStart => exact ⟨0, by omega, rfl, Lib.hid rfl, Below.refl _ _, 0, rfl⟩
    case round =>
      obtain ⟨k, hk, rfl, HK, hb, nd, rfl⟩ := hrel
      by_cases hlt : k < A.length
      · obtain ⟨x, hx⟩ : ∃ x, A[k]? = some x := ⟨_, List.getElem?_eq_getElem hlt⟩
        obtain ⟨y, hy⟩ : ∃ y, B[k]? = some y := ⟨_, List.getElem?_eq_getElem (by have := HLL.out; omega)⟩
        obtain ⟨b, o, rfl, _, hcs⟩ := Enc.rd_cell (E := eI) H1.out rfl hx
        obtain ⟨b2, o2, rfl, _, hcs2⟩ := Enc.rd_cell (E := eI) H2.out rfl hy
        have x0 : (w.drewN nd).cell? ⟨b, o + k, none⟩ = some (.int .i64 x) := by simpa [eI] using hcs 0 _ rfl
        have y0 : (w.drewN nd).cell? ⟨b2, o2 + k, none⟩ = some (.int .i64 y) := by simpa [eI] using hcs2 0 _ rfl
        have hkb : (k : Int) < (B.length : Int) := by have := HLL.out; omega
        have hkb' : k < B.length := by have := HLL.out; omega
        have HBAD : Hid (x ≠ y → yes (A = B) = false) := Lib.hid (fun hn => yes_false (fun e => hn (by rw [e, hy] at hx; injection hx with hx; exact hx.symm)))
        have HGOOD : Hid (x = y → A.take (k + 1) = B.take (k + 1)) := Lib.hid (fun e => by rw [List.take_add_one, List.take_add_one, HK.out, hx, hy, e])
        clear hx hy hcs hcs2
        obtain ⟨z, hz⟩ : ∃ z, yes (x = y) = z := ⟨_, rfl⟩
        have hcmp : (x != y) = !z := by
          rw [← hz]
          by_cases e : x = y
          · simp [e, yes_true]
          · rw [yes_false e]; exact bne_iff_ne.2 e
        have HZ := Lib.hid hz
        clear hz
        cases z
        · have HB := Lib.hid (HBAD.out (yes_not.1 HZ.out))
          go_wp2
          refine wp_region_held_drew (S := fun wx => wx.cell? ⟨b, o + k, none⟩ = some (.int .i64 x) ∧ wx.cell? ⟨b2, o2 + k, none⟩ = some (.int .i64 y)) (by kernel_rfl) ⟨x0, y0⟩ (fun hHeld => ?_)
          refine tk 0 (by assumption) ?_
          (try simp only [aPt])
          refine tk 1 (by assumption) ?_
          (try simp only [aPt])
          refine tk 2 (by assumption) ?_
          (try simp only [aPt])
          refine tk 3 (by assumption) ?_
          (try simp only [aPt])
          refine tk 4 (by assumption) ?_
          (try simp only [aPt])
          refine tk 5 (by assumption) ?_
          (try simp only [aPt])
          refine tk 6 (by assumption) ?_
          (try simp only [aPt])
          refine tk 7 (by assumption) ?_
          (try simp only [aPt])
          refine tk 8 (by assumption) ?_
          (try simp only [aPt])
          refine wpAnyH_done (by kernel_rfl) ?_ _
          clear hHeld
          go_wp2
          go_ret
          exact ⟨by rw [HB.out]; rfl, hb.drew⟩
        · have HG := Lib.hid (HGOOD.out (yes_iff.1 HZ.out))
          go_wp2
          refine wp_region_held_drew (S := fun wx => wx.cell? ⟨b, o + k, none⟩ = some (.int .i64 x) ∧ wx.cell? ⟨b2, o2 + k, none⟩ = some (.int .i64 y)) (by kernel_rfl) ⟨x0, y0⟩ (fun hHeld => ?_)
          refine tk 0 (by assumption) ?_
          (try simp only [aPt])
          refine tk 1 (by assumption) ?_
          (try simp only [aPt])
          refine tk 2 (by assumption) ?_
          (try simp only [aPt])
          refine tk 3 (by assumption) ?_
          (try simp only [aPt])
          refine tk 4 (by assumption) ?_
          (try simp only [aPt])
          refine tk 5 (by assumption) ?_
          (try simp only [aPt])
          refine tk 6 (by assumption) ?_
          (try simp only [aPt])
          refine tk 7 (by assumption) ?_
          (try simp only [aPt])
          refine tk 8 (by assumption) ?_
          (try simp only [aPt])
          refine wpAnyH_done (by kernel_rfl) ?_ _
          clear hHeld
          go_wp2
          go_roundw
          case rel => exact ⟨k + 1, by omega, by go_num, HG, hb.drew, nd + 1, rfl⟩
          case measure => simp [intOf]; omega
      · have HE : Hid (yes (A = B) = true) := Lib.hid (yes_true (by
          have h := HK.out
          rw [List.take_of_length_le (by omega), List.take_of_length_le (by have := HLL.out; omega)] at h
          exact h))
        go_wp2
        go_ret
        exact ⟨by rw [HE.out]; rfl, hb⟩
  · have hl1 : ((A.length : Int) != (B.length : Int)) = true := bne_iff_ne.2 (by omega)
    have hl2 : (A.length != B.length) = true := bne_iff_ne.2 hl
    have HE : Hid (yes (A = B) = false) := Lib.hid (yes_false (fun e => hl (by rw [e])))
    clear hl
    go_enter Tryz.func28, Tryz.ntmps28
    go_wp2
    go_ret
    exact ⟨by rw [HE.out]; rfl, Below.refl _ _⟩
set_option maxRecDepth 20000 in
set_option maxHeartbeats 2000000 in
theorem eqW (w : World) (v1 v2 : Value) (A B : List Wish1) (B1 B2 : Nat) (h1 : Rd w B1 2 v1 A.length (eW.cells A)) (h2 : Rd w B2 2 v2 B.length (eW.cells B)) :
    Calls Tryz.prog 100 #[v1, v2] w fun e w' => e = .returned (.bool (yes (A = B))) ∧ Below w.heap.size w w' := by
  obtain ⟨ao, cap, rfl, hc, hm⟩ := h1.form
  obtain ⟨bo, cap2, rfl, hc2, hm2⟩ := h2.form
  have hm' : cap ≤ 9223372036854775807 := by unfold maxLen at hm; omega
  have hm2' : cap2 ≤ 9223372036854775807 := by unfold maxLen at hm2; omega
  have H1 := Lib.hid h1
  have H2 := Lib.hid h2
  clear h1 h2 hm hm2
  by_cases hl : A.length = B.length
  · have hl1 : ((A.length : Int) != (B.length : Int)) = false := by simp [hl]
    have hl2 : (A.length != B.length) = false := by simp [hl]
    have HLL := Lib.hid hl
    clear hl
    go_enter Tryz.func100, Tryz.ntmps100
    go_wp2
    go_loopw [5] (fun i wr => ∃ k : Nat, k ≤ A.length ∧ i = .int .i64 k ∧ Hid (A.take k = B.take k) ∧ Below w.heap.size w wr ∧ ∃ nd, wr = w.drewN nd) (fun i _ => A.length - (intOf i).toNat)
    case atStart => exact ⟨0, by omega, rfl, Lib.hid rfl, Below.refl _ _, 0, rfl⟩
    case round =>
      obtain ⟨k, hk, rfl, HK, hb, nd, rfl⟩ := hrel
      by_cases hlt : k < A.length
      · obtain ⟨x, hx⟩ : ∃ x, A[k]? = some x := ⟨_, List.getElem?_eq_getElem hlt⟩
        obtain ⟨y, hy⟩ : ∃ y, B[k]? = some y := ⟨_, List.getElem?_eq_getElem (by have := HLL.out; omega)⟩
        obtain ⟨b, o, rfl, _, hcs⟩ := Enc.rd_cell (E := eW) H1.out rfl hx
        obtain ⟨b2, o2, rfl, _, hcs2⟩ := Enc.rd_cell (E := eW) H2.out rfl hy
        obtain ⟨x0, x1⟩ := wi_cells (show w.rangeAt b (o + k * 2) (eW.c x) from hcs)
        obtain ⟨y0, y1⟩ := wi_cells (show w.rangeAt b2 (o2 + k * 2) (eW.c y) from hcs2)
        have hkb : (k : Int) < (B.length : Int) := by have := HLL.out; omega
        have hkb' : k < B.length := by have := HLL.out; omega
        have HBAD : Hid (x ≠ y → yes (A = B) = false) := Lib.hid (fun hn => yes_false (fun e => hn (by rw [e, hy] at hx; injection hx with hx; exact hx.symm)))
        have HGOOD : Hid (x = y → A.take (k + 1) = B.take (k + 1)) := Lib.hid (fun e => by rw [List.take_add_one, List.take_add_one, HK.out, hx, hy, e])
        clear hx hy hcs hcs2
        have hcmp := fun wq : World => ne_wish wq x y
        obtain ⟨z, hz⟩ : ∃ z, yes (x = y) = z := ⟨_, rfl⟩
        rw [hz] at hcmp
        have HZ := Lib.hid hz
        clear hz
        cases z
        · have HB := Lib.hid (HBAD.out (yes_not.1 HZ.out))
          go_wp2
          refine wp_region_held_drew (S := fun wx => wx.cell? ⟨b, o + k * 2, none⟩ = some (.string x.f) ∧ wx.cell? ⟨b, o + k * 2 + 1, none⟩ = some (.int .i64 x.q) ∧ wx.cell? ⟨b2, o2 + k * 2, none⟩ = some (.string y.f) ∧ wx.cell? ⟨b2, o2 + k * 2 + 1, none⟩ = some (.int .i64 y.q)) (by kernel_rfl) ⟨x0, x1, y0, y1⟩ (fun hHeld => ?_)
          refine tk 0 (by assumption) ?_
          (try simp only [aPt])
          refine tk 1 (by assumption) ?_
          (try simp only [aPt])
          refine tk 2 (by assumption) ?_
          (try simp only [aPt])
          refine tk 3 (by assumption) ?_
          (try simp only [aPt])
          refine tk 4 (by assumption) ?_
          (try simp only [aPt])
          refine tk 5 (by assumption) ?_
          (try simp only [aPt])
          refine tk 6 (by assumption) ?_
          (try simp only [aPt])
          refine tk 7 (by assumption) ?_
          (try simp only [aPt])
          refine tk 8 (by assumption) ?_
          (try simp only [aPt])
          refine wpAnyH_done (by kernel_rfl) ?_ _
          clear hHeld
          go_wp2
          go_ret
          exact ⟨by rw [HB.out]; rfl, hb.drew⟩
        · have HG := Lib.hid (HGOOD.out (yes_iff.1 HZ.out))
          go_wp2
          refine wp_region_held_drew (S := fun wx => wx.cell? ⟨b, o + k * 2, none⟩ = some (.string x.f) ∧ wx.cell? ⟨b, o + k * 2 + 1, none⟩ = some (.int .i64 x.q) ∧ wx.cell? ⟨b2, o2 + k * 2, none⟩ = some (.string y.f) ∧ wx.cell? ⟨b2, o2 + k * 2 + 1, none⟩ = some (.int .i64 y.q)) (by kernel_rfl) ⟨x0, x1, y0, y1⟩ (fun hHeld => ?_)
          refine tk 0 (by assumption) ?_
          (try simp only [aPt])
          refine tk 1 (by assumption) ?_
          (try simp only [aPt])
          refine tk 2 (by assumption) ?_
          (try simp only [aPt])
          refine tk 3 (by assumption) ?_
          (try simp only [aPt])
          refine tk 4 (by assumption) ?_
          (try simp only [aPt])
          refine tk 5 (by assumption) ?_
          (try simp only [aPt])
          refine tk 6 (by assumption) ?_
          (try simp only [aPt])
          refine tk 7 (by assumption) ?_
          (try simp only [aPt])
          refine tk 8 (by assumption) ?_
          (try simp only [aPt])
          refine wpAnyH_done (by kernel_rfl) ?_ _
          clear hHeld
          go_wp2
          go_roundw
          case rel => exact ⟨k + 1, by omega, by go_num, HG, hb.drew, nd + 1, rfl⟩
          case measure => simp [intOf]; omega
      · have HE : Hid (yes (A = B) = true) := Lib.hid (yes_true (by
          have h := HK.out
          rw [List.take_of_length_le (by omega), List.take_of_length_le (by have := HLL.out; omega)] at h
          exact h))
        go_wp2
        go_ret
        exact ⟨by rw [HE.out]; rfl, hb⟩
  · have hl1 : ((A.length : Int) != (B.length : Int)) = true := bne_iff_ne.2 (by omega)
    have hl2 : (A.length != B.length) = true := bne_iff_ne.2 hl
    have HE : Hid (yes (A = B) = false) := Lib.hid (yes_false (fun e => hl (by rw [e])))
    clear hl
    go_enter Tryz.func100, Tryz.ntmps100
    go_wp2
    go_ret
    exact ⟨by rw [HE.out]; rfl, Below.refl _ _⟩
set_option maxRecDepth 20000 in
set_option maxHeartbeats 2000000 in
theorem eqM (w : World) (v1 v2 : Value) (A B : List Msg) (B1 B2 : Nat) (h1 : Rd w B1 4 v1 A.length (eM.cells A)) (h2 : Rd w B2 4 v2 B.length (eM.cells B)) :
    Calls Tryz.prog 30 #[v1, v2] w fun e w' => e = .returned (.bool (yes (A = B))) ∧ Below w.heap.size w w' := by
  obtain ⟨ao, cap, rfl, hc, hm⟩ := h1.form
  obtain ⟨bo, cap2, rfl, hc2, hm2⟩ := h2.form
  have hm' : cap ≤ 9223372036854775807 := by unfold maxLen at hm; omega
  have hm2' : cap2 ≤ 9223372036854775807 := by unfold maxLen at hm2; omega
  have H1 := Lib.hid h1
  have H2 := Lib.hid h2
  clear h1 h2 hm hm2
  by_cases hl : A.length = B.length
  · have hl1 : ((A.length : Int) != (B.length : Int)) = false := by simp [hl]
    have hl2 : (A.length != B.length) = false := by simp [hl]
    have HLL := Lib.hid hl
    clear hl
    go_enter Tryz.func30, Tryz.ntmps30
    go_wp2
    go_loopw [5] (fun i wr => ∃ k : Nat, k ≤ A.length ∧ i = .int .i64 k ∧ Hid (A.take k = B.take k) ∧ Below w.heap.size w wr ∧ ∃ nd, wr = w.drewN nd) (fun i _ => A.length - (intOf i).toNat)
    case atStart => exact ⟨0, by omega, rfl, Lib.hid rfl, Below.refl _ _, 0, rfl⟩
    case round =>
      obtain ⟨k, hk, rfl, HK, hb, nd, rfl⟩ := hrel
      by_cases hlt : k < A.length
      · obtain ⟨x, hx⟩ : ∃ x, A[k]? = some x := ⟨_, List.getElem?_eq_getElem hlt⟩
        obtain ⟨y, hy⟩ : ∃ y, B[k]? = some y := ⟨_, List.getElem?_eq_getElem (by have := HLL.out; omega)⟩
        obtain ⟨b, o, rfl, _, hcs⟩ := Enc.rd_cell (E := eM) H1.out rfl hx
        obtain ⟨b2, o2, rfl, _, hcs2⟩ := Enc.rd_cell (E := eM) H2.out rfl hy
        obtain ⟨x0, x1, x2, x3⟩ := msg_cells (show w.rangeAt b (o + k * 4) (eM.c x) from hcs)
        obtain ⟨y0, y1, y2, y3⟩ := msg_cells (show w.rangeAt b2 (o2 + k * 4) (eM.c y) from hcs2)
        have hkb : (k : Int) < (B.length : Int) := by have := HLL.out; omega
        have hkb' : k < B.length := by have := HLL.out; omega
        have HBAD : Hid (x ≠ y → yes (A = B) = false) := Lib.hid (fun hn => yes_false (fun e => hn (by rw [e, hy] at hx; injection hx with hx; exact hx.symm)))
        have HGOOD : Hid (x = y → A.take (k + 1) = B.take (k + 1)) := Lib.hid (fun e => by rw [List.take_add_one, List.take_add_one, HK.out, hx, hy, e])
        clear hx hy hcs hcs2
        have hcmp := fun wq : World => ne_mes wq x y
        obtain ⟨z, hz⟩ : ∃ z, yes (x = y) = z := ⟨_, rfl⟩
        rw [hz] at hcmp
        have HZ := Lib.hid hz
        clear hz
        cases z
        · have HB := Lib.hid (HBAD.out (yes_not.1 HZ.out))
          go_wp2
          refine wp_region_held_drew (S := fun wx => wx.cell? ⟨b, o + k * 4, none⟩ = some (.string x.t) ∧ wx.cell? ⟨b, o + k * 4 + 1, none⟩ = some (.string x.p) ∧ wx.cell? ⟨b, o + k * 4 + 2, none⟩ = some (.int .i64 x.q) ∧ wx.cell? ⟨b, o + k * 4 + 3, none⟩ = some (.bool x.r) ∧ wx.cell? ⟨b2, o2 + k * 4, none⟩ = some (.string y.t) ∧ wx.cell? ⟨b2, o2 + k * 4 + 1, none⟩ = some (.string y.p) ∧ wx.cell? ⟨b2, o2 + k * 4 + 2, none⟩ = some (.int .i64 y.q) ∧ wx.cell? ⟨b2, o2 + k * 4 + 3, none⟩ = some (.bool y.r)) (by kernel_rfl) ⟨x0, x1, x2, x3, y0, y1, y2, y3⟩ (fun hHeld => ?_)
          refine tk 0 (by assumption) ?_
          (try simp only [aPt])
          refine tk 1 (by assumption) ?_
          (try simp only [aPt])
          refine tk 2 (by assumption) ?_
          (try simp only [aPt])
          refine tk 3 (by assumption) ?_
          (try simp only [aPt])
          refine tk 4 (by assumption) ?_
          (try simp only [aPt])
          refine tk 5 (by assumption) ?_
          (try simp only [aPt])
          refine tk 6 (by assumption) ?_
          (try simp only [aPt])
          refine tk 7 (by assumption) ?_
          (try simp only [aPt])
          refine tk 8 (by assumption) ?_
          (try simp only [aPt])
          refine wpAnyH_done (by kernel_rfl) ?_ _
          clear hHeld
          go_wp2
          go_ret
          exact ⟨by rw [HB.out]; rfl, hb.drew⟩
        · have HG := Lib.hid (HGOOD.out (yes_iff.1 HZ.out))
          go_wp2
          refine wp_region_held_drew (S := fun wx => wx.cell? ⟨b, o + k * 4, none⟩ = some (.string x.t) ∧ wx.cell? ⟨b, o + k * 4 + 1, none⟩ = some (.string x.p) ∧ wx.cell? ⟨b, o + k * 4 + 2, none⟩ = some (.int .i64 x.q) ∧ wx.cell? ⟨b, o + k * 4 + 3, none⟩ = some (.bool x.r) ∧ wx.cell? ⟨b2, o2 + k * 4, none⟩ = some (.string y.t) ∧ wx.cell? ⟨b2, o2 + k * 4 + 1, none⟩ = some (.string y.p) ∧ wx.cell? ⟨b2, o2 + k * 4 + 2, none⟩ = some (.int .i64 y.q) ∧ wx.cell? ⟨b2, o2 + k * 4 + 3, none⟩ = some (.bool y.r)) (by kernel_rfl) ⟨x0, x1, x2, x3, y0, y1, y2, y3⟩ (fun hHeld => ?_)
          refine tk 0 (by assumption) ?_
          (try simp only [aPt])
          refine tk 1 (by assumption) ?_
          (try simp only [aPt])
          refine tk 2 (by assumption) ?_
          (try simp only [aPt])
          refine tk 3 (by assumption) ?_
          (try simp only [aPt])
          refine tk 4 (by assumption) ?_
          (try simp only [aPt])
          refine tk 5 (by assumption) ?_
          (try simp only [aPt])
          refine tk 6 (by assumption) ?_
          (try simp only [aPt])
          refine tk 7 (by assumption) ?_
          (try simp only [aPt])
          refine tk 8 (by assumption) ?_
          (try simp only [aPt])
          refine wpAnyH_done (by kernel_rfl) ?_ _
          clear hHeld
          go_wp2
          go_roundw
          case rel => exact ⟨k + 1, by omega, by go_num, HG, hb.drew, nd + 1, rfl⟩
          case measure => simp [intOf]; omega
      · have HE : Hid (yes (A = B) = true) := Lib.hid (yes_true (by
          have h := HK.out
          rw [List.take_of_length_le (by omega), List.take_of_length_le (by have := HLL.out; omega)] at h
          exact h))
        go_wp2
        go_ret
        exact ⟨by rw [HE.out]; rfl, hb⟩
  · have hl1 : ((A.length : Int) != (B.length : Int)) = true := bne_iff_ne.2 (by omega)
    have hl2 : (A.length != B.length) = true := bne_iff_ne.2 hl
    have HE : Hid (yes (A = B) = false) := Lib.hid (yes_false (fun e => hl (by rw [e])))
    clear hl
    go_enter Tryz.func30, Tryz.ntmps30
    go_wp2
    go_ret
    exact ⟨by rw [HE.out]; rfl, Below.refl _ _⟩
set_option maxRecDepth 20000 in
set_option maxHeartbeats 2000000 in
theorem eqF (w : World) (v1 v2 : Value) (A B : List Fl) (B1 B2 : Nat) (h1 : Rd w B1 6 v1 A.length (eF.cells A)) (h2 : Rd w B2 6 v2 B.length (eF.cells B)) :
    Calls Tryz.prog 154 #[v1, v2] w fun e w' => e = .returned (.bool (yes (A = B))) ∧ Below w.heap.size w w' := by
  obtain ⟨ao, cap, rfl, hc, hm⟩ := h1.form
  obtain ⟨bo, cap2, rfl, hc2, hm2⟩ := h2.form
  have hm' : cap ≤ 9223372036854775807 := by unfold maxLen at hm; omega
  have hm2' : cap2 ≤ 9223372036854775807 := by unfold maxLen at hm2; omega
  have H1 := Lib.hid h1
  have H2 := Lib.hid h2
  clear h1 h2 hm hm2
  by_cases hl : A.length = B.length
  · have hl1 : ((A.length : Int) != (B.length : Int)) = false := by simp [hl]
    have hl2 : (A.length != B.length) = false := by simp [hl]
    have HLL := Lib.hid hl
    clear hl
    go_enter Tryz.func154, Tryz.ntmps154
    go_wp2
    go_loopw [5] (fun i wr => ∃ k : Nat, k ≤ A.length ∧ i = .int .i64 k ∧ Hid (A.take k = B.take k) ∧ Below w.heap.size w wr ∧ ∃ nd, wr = w.drewN nd) (fun i _ => A.length - (intOf i).toNat)
    case atStart => exact ⟨0, by omega, rfl, Lib.hid rfl, Below.refl _ _, 0, rfl⟩
    case round =>
      obtain ⟨k, hk, rfl, HK, hb, nd, rfl⟩ := hrel
      by_cases hlt : k < A.length
      · obtain ⟨x, hx⟩ : ∃ x, A[k]? = some x := ⟨_, List.getElem?_eq_getElem hlt⟩
        obtain ⟨y, hy⟩ : ∃ y, B[k]? = some y := ⟨_, List.getElem?_eq_getElem (by have := HLL.out; omega)⟩
        obtain ⟨b, o, rfl, _, hcs⟩ := Enc.rd_cell (E := eF) H1.out rfl hx
        obtain ⟨b2, o2, rfl, _, hcs2⟩ := Enc.rd_cell (E := eF) H2.out rfl hy
        obtain ⟨x0, x1, x2, x3, x4, x5⟩ := fl_cells (show w.rangeAt b (o + k * 6) (eF.c x) from hcs)
        obtain ⟨y0, y1, y2, y3, y4, y5⟩ := fl_cells (show w.rangeAt b2 (o2 + k * 6) (eF.c y) from hcs2)
        have hkb : (k : Int) < (B.length : Int) := by have := HLL.out; omega
        have hkb' : k < B.length := by have := HLL.out; omega
        have HBAD : Hid (x ≠ y → yes (A = B) = false) := Lib.hid (fun hn => yes_false (fun e => hn (by rw [e, hy] at hx; injection hx with hx; exact hx.symm)))
        have HGOOD : Hid (x = y → A.take (k + 1) = B.take (k + 1)) := Lib.hid (fun e => by rw [List.take_add_one, List.take_add_one, HK.out, hx, hy, e])
        clear hx hy hcs hcs2
        have hcmp := fun wq : World => ne_fli wq x y
        obtain ⟨z, hz⟩ : ∃ z, yes (x = y) = z := ⟨_, rfl⟩
        rw [hz] at hcmp
        have HZ := Lib.hid hz
        clear hz
        cases z
        · have HB := Lib.hid (HBAD.out (yes_not.1 HZ.out))
          go_wp2
          refine wp_region_held_drew (S := fun wx => wx.cell? ⟨b, o + k * 6, none⟩ = some (.int .i64 x.id) ∧ wx.cell? ⟨b, o + k * 6 + 1, none⟩ = some (.string x.m.t) ∧ wx.cell? ⟨b, o + k * 6 + 2, none⟩ = some (.string x.m.p) ∧ wx.cell? ⟨b, o + k * 6 + 3, none⟩ = some (.int .i64 x.m.q) ∧ wx.cell? ⟨b, o + k * 6 + 4, none⟩ = some (.bool x.m.r) ∧ wx.cell? ⟨b, o + k * 6 + 5, none⟩ = some (.bool x.rc) ∧ wx.cell? ⟨b2, o2 + k * 6, none⟩ = some (.int .i64 y.id) ∧ wx.cell? ⟨b2, o2 + k * 6 + 1, none⟩ = some (.string y.m.t) ∧ wx.cell? ⟨b2, o2 + k * 6 + 2, none⟩ = some (.string y.m.p) ∧ wx.cell? ⟨b2, o2 + k * 6 + 3, none⟩ = some (.int .i64 y.m.q) ∧ wx.cell? ⟨b2, o2 + k * 6 + 4, none⟩ = some (.bool y.m.r) ∧ wx.cell? ⟨b2, o2 + k * 6 + 5, none⟩ = some (.bool y.rc)) (by kernel_rfl) ⟨x0, x1, x2, x3, x4, x5, y0, y1, y2, y3, y4, y5⟩ (fun hHeld => ?_)
          refine tk 0 (by assumption) ?_
          (try simp only [aPt])
          refine tk 1 (by assumption) ?_
          (try simp only [aPt])
          refine tk 2 (by assumption) ?_
          (try simp only [aPt])
          refine tk 3 (by assumption) ?_
          (try simp only [aPt])
          refine tk 4 (by assumption) ?_
          (try simp only [aPt])
          refine tk 5 (by assumption) ?_
          (try simp only [aPt])
          refine tk 6 (by assumption) ?_
          (try simp only [aPt])
          refine tk 7 (by assumption) ?_
          (try simp only [aPt])
          refine tk 8 (by assumption) ?_
          (try simp only [aPt])
          refine wpAnyH_done (by kernel_rfl) ?_ _
          clear hHeld
          go_wp2
          go_ret
          exact ⟨by rw [HB.out]; rfl, hb.drew⟩
        · have HG := Lib.hid (HGOOD.out (yes_iff.1 HZ.out))
          go_wp2
          refine wp_region_held_drew (S := fun wx => wx.cell? ⟨b, o + k * 6, none⟩ = some (.int .i64 x.id) ∧ wx.cell? ⟨b, o + k * 6 + 1, none⟩ = some (.string x.m.t) ∧ wx.cell? ⟨b, o + k * 6 + 2, none⟩ = some (.string x.m.p) ∧ wx.cell? ⟨b, o + k * 6 + 3, none⟩ = some (.int .i64 x.m.q) ∧ wx.cell? ⟨b, o + k * 6 + 4, none⟩ = some (.bool x.m.r) ∧ wx.cell? ⟨b, o + k * 6 + 5, none⟩ = some (.bool x.rc) ∧ wx.cell? ⟨b2, o2 + k * 6, none⟩ = some (.int .i64 y.id) ∧ wx.cell? ⟨b2, o2 + k * 6 + 1, none⟩ = some (.string y.m.t) ∧ wx.cell? ⟨b2, o2 + k * 6 + 2, none⟩ = some (.string y.m.p) ∧ wx.cell? ⟨b2, o2 + k * 6 + 3, none⟩ = some (.int .i64 y.m.q) ∧ wx.cell? ⟨b2, o2 + k * 6 + 4, none⟩ = some (.bool y.m.r) ∧ wx.cell? ⟨b2, o2 + k * 6 + 5, none⟩ = some (.bool y.rc)) (by kernel_rfl) ⟨x0, x1, x2, x3, x4, x5, y0, y1, y2, y3, y4, y5⟩ (fun hHeld => ?_)
          refine tk 0 (by assumption) ?_
          (try simp only [aPt])
          refine tk 1 (by assumption) ?_
          (try simp only [aPt])
          refine tk 2 (by assumption) ?_
          (try simp only [aPt])
          refine tk 3 (by assumption) ?_
          (try simp only [aPt])
          refine tk 4 (by assumption) ?_
          (try simp only [aPt])
          refine tk 5 (by assumption) ?_
          (try simp only [aPt])
          refine tk 6 (by assumption) ?_
          (try simp only [aPt])
          refine tk 7 (by assumption) ?_
          (try simp only [aPt])
          refine tk 8 (by assumption) ?_
          (try simp only [aPt])
          refine wpAnyH_done (by kernel_rfl) ?_ _
          clear hHeld
          go_wp2
          go_roundw
          case rel => exact ⟨k + 1, by omega, by go_num, HG, hb.drew, nd + 1, rfl⟩
          case measure => simp [intOf]; omega
      · have HE : Hid (yes (A = B) = true) := Lib.hid (yes_true (by
          have h := HK.out
          rw [List.take_of_length_le (by omega), List.take_of_length_le (by have := HLL.out; omega)] at h
          exact h))
        go_wp2
        go_ret
        exact ⟨by rw [HE.out]; rfl, hb⟩
  · have hl1 : ((A.length : Int) != (B.length : Int)) = true := bne_iff_ne.2 (by omega)
    have hl2 : (A.length != B.length) = true := bne_iff_ne.2 hl
    have HE : Hid (yes (A = B) = false) := Lib.hid (yes_false (fun e => hl (by rw [e])))
    clear hl
    go_enter Tryz.func154, Tryz.ntmps154
    go_wp2
    go_ret
    exact ⟨by rw [HE.out]; rfl, Below.refl _ _⟩
end Go.Proofs.YtknnaeejkmlnbaaGreatDoor
