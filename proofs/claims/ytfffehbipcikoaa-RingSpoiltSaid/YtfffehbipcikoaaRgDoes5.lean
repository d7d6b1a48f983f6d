/- The law's acts Put and Add. -/




import Derived.Test.YtfffehbipcikoaaRgDoes4
namespace Go.Proofs.Ytfffehbipcikoaa
open Go.RowKit Go.MapKept
set_option maxRecDepth 20000 in
set_option maxHeartbeats 2000000 in
theorem does_put (w : World) (base : Nat) (s : Nat → Nat) (q : Nat) (hv : Value) (hs : List Nat) (dk n at_ : Int) (lv : Value) (v : Nat) (h : JX w base s q hv hs) (hlen : hs.length ≤ 100) :
    Calls Try.prog 48 #[.pointer (some ⟨s 0, 0, none⟩), actV dk n at_ lv v, .int .i64 11] w (DoesH base s q hs w) := by
  unfold actV
  have hb0 := h.base_le
  have hb1 : Below base w (w.alloc (.cells #[.int .i64 dk, .int .i64 n, .int .i64 at_, lv, .int .u64 v] 77)) := (Below.refl _ _).alloc hb0 _
  have hJ1 : JX (w.alloc (.cells #[.int .i64 dk, .int .i64 n, .int .i64 at_, lv, .int .u64 v] 77)) base s q hv hs := h.left0 ((Left.refl _ _).alloc _)
  obtain ⟨hW, hlt, _, hnp, hnq⟩ := h.hal
  have c0 : w.cell? ⟨s 0, 0, none⟩ = some (.pointer (some ⟨s 6, 0, none⟩)) := by rw [hW.cell]; rfl
  have c1 : w.cell? ⟨s 0, 1, none⟩ = some (.pointer (some ⟨s 1, 0, none⟩)) := by rw [hW.cell]; rfl
  have c2 : w.cell? ⟨s 0, 2, none⟩ = some (.pointer (some ⟨s 5, 0, none⟩)) := by rw [hW.cell]; rfl
  have c3 : w.cell? ⟨s 0, 3, none⟩ = some (.pointer (some ⟨s 8, 0, none⟩)) := by rw [hW.cell]; rfl
  have c4 : w.cell? ⟨s 0, 4, none⟩ = some (.pointer (some ⟨s 10, 0, none⟩)) := by rw [hW.cell]; rfl
  have c5 : w.cell? ⟨s 0, 5, none⟩ = some (.pointer (some ⟨s 14, 0, none⟩)) := by rw [hW.cell]; rfl
  have c6 : w.cell? ⟨s 0, 6, none⟩ = some hv := by rw [hW.cell]; rfl
  have HW0 := Lib.hid h
  have HJ1 := Lib.hid hJ1
  have HB1 := Lib.hid hb1
  have HW := Lib.hid hW
  have HNP := Lib.hid hnp
  have HNQ := Lib.hid hnq
  have HPB : Hid (w.heap.size ∉ PL s) := Lib.hid (fun hm => by obtain ⟨j, _, h2, e⟩ := PL_mem hm; obtain ⟨p, r, hJ, _⟩ := h; have := (hJ.old j (by omega)).2; omega)
  have HQB : Hid (w.heap.size ∉ QL s) := Lib.hid (fun hm => by obtain ⟨j, _, h2, e⟩ := QL_mem hm; obtain ⟨p, r, hJ, _⟩ := h; have := (hJ.old j (by omega)).2; omega)
  clear h hb1 hJ1 hW
  have hy := within_nn n 3 (by omega)
  have hy2 := within_lt n 3 (by omega)
  obtain ⟨y, hyy⟩ : ∃ y, within n 3 = y := ⟨_, rfl⟩
  rw [hyy] at hy hy2
  have HY := Lib.hid hyy
  have hyc : y = 0 ∨ y = 1 ∨ y = 2 := by omega
  clear hyy
  rcases hyc with rfl | rfl | rfl
  · go_enter Try.func48, Try.ntmps48
    go_wp2_with fail
    refine (Within_any _ _ 3 (by omega) (by omega)).mono ?_
    rintro e w' ⟨rfl, rfl⟩
    rw [HY.out]
    go_upto_region 34 with fail
    obtain ⟨w1, hw1⟩ : ∃ u, u = ((w.alloc (.cells #[.int .i64 dk, .int .i64 n, .int .i64 at_, lv, .int .u64 v] 77)).alloc (.cells #[.int .i64 1, .int .i64 2, .int .i64 4] 3)) := ⟨_, rfl⟩
    rw [← hw1]
    have ib2 : w1.cell? ⟨w.heap.size, 2, none⟩ = some (.int .i64 at_) := by rw [hw1]; simp
    have ib4 : w1.cell? ⟨w.heap.size, 4, none⟩ = some (.int .u64 v) := by rw [hw1]; simp
    have hJW := HJ1.out.left0 ((Left.refl _ _).alloc (.cells #[.int .i64 1, .int .i64 2, .int .i64 4] 3))
    rw [← hw1] at hJW
    have HBW : Hid (Below base w w1) := Lib.hid (hw1 ▸ HB1.out.alloc HJ1.out.base_le _)
    have hW7 := hJW.hal.1
    have i0 : w1.cell? ⟨s 0, 0, none⟩ = some (.pointer (some ⟨s 6, 0, none⟩)) := by rw [hW7.cell]; rfl
    have i3 : w1.cell? ⟨s 0, 3, none⟩ = some (.pointer (some ⟨s 8, 0, none⟩)) := by rw [hW7.cell]; rfl
    have hbw1 := hJW.base_le
    obtain ⟨er, M, hc1, hc2⟩ := (hJW.left0 (Left.refl [] _).drew).put at_ 1 v
    have HJW := Lib.hid hJW
    have HC1 := Lib.hid hc1
    have HC2 := Lib.hid hc2
    clear hc1 hc2 hW7 hJW hw1 c0 c1 c2 c3 c4 c5 c6
    refine wp_region_held_drew (S := fun wx => wx.cell? ⟨s 0, 0, none⟩ = some (.pointer (some ⟨s 6, 0, none⟩)) ∧ wx.cell? ⟨s 0, 3, none⟩ = some (.pointer (some ⟨s 8, 0, none⟩)) ∧ wx.cell? ⟨w.heap.size, 2, none⟩ = some (.int .i64 at_) ∧ wx.cell? ⟨w.heap.size, 4, none⟩ = some (.int .u64 v)) (by kernel_rfl) ⟨i0, i3, ib2, ib4⟩ (fun hHeld => ?_)
    refine take_h 0 ⟨?_, ?_, ?_, by kernel_rfl, by kernel_rfl, by kernel_rfl, ?_, ?_, by assumption, ?_⟩
    rotate_left 2
    · (simp only [List.getElem?_toArray, List.getElem?_cons_zero]; exact rfl)
    · exact fun _ _ _ h => h
    · first
        | (refine Or.inr ⟨by rfl, ?_⟩; exact rfl)
        | (refine Or.inl ⟨by rfl, ?_⟩
           intro w hSw
           (try dsimp only at hSw)
           (try go_split_ands)
           go_simp
           (first | done | with_reducible rfl))
    try simp only [Act.put, List.setIfInBounds_toArray, List.set_cons_zero, List.set_cons_succ]
    refine take_h 1 ⟨?_, ?_, ?_, by kernel_rfl, by kernel_rfl, by kernel_rfl, ?_, ?_, by assumption, ?_⟩
    rotate_left 2
    · (simp only [List.getElem?_toArray, List.getElem?_cons_succ, List.getElem?_cons_zero]; exact rfl)
    · exact fun _ _ _ h => h
    · first
        | (refine Or.inr ⟨by rfl, ?_⟩; exact rfl)
        | (refine Or.inl ⟨by rfl, ?_⟩
           intro w hSw
           (try dsimp only at hSw)
           (try go_split_ands)
           go_simp
           (first | done | with_reducible rfl))
    try simp only [Act.put, List.setIfInBounds_toArray, List.set_cons_zero, List.set_cons_succ]
    refine take_h 2 ⟨?_, ?_, ?_, by kernel_rfl, by kernel_rfl, by kernel_rfl, ?_, ?_, by assumption, ?_⟩
    rotate_left 2
    · (simp only [List.getElem?_toArray, List.getElem?_cons_succ, List.getElem?_cons_zero]; exact rfl)
    · exact fun _ _ _ h => h
    · first
        | (refine Or.inr ⟨by rfl, ?_⟩; exact rfl)
        | (refine Or.inl ⟨by rfl, ?_⟩
           intro w hSw
           (try dsimp only at hSw)
           (try go_split_ands)
           go_simp
           (first | done | with_reducible rfl))
    try simp only [Act.put, List.setIfInBounds_toArray, List.set_cons_zero, List.set_cons_succ]
    refine take_h 3 ⟨?_, ?_, ?_, by kernel_rfl, by kernel_rfl, by kernel_rfl, ?_, ?_, by assumption, ?_⟩
    rotate_left 2
    · (simp only [List.getElem?_toArray, List.getElem?_cons_succ, List.getElem?_cons_zero]; exact rfl)
    · exact fun _ _ _ h => h
    · first
        | (refine Or.inr ⟨by rfl, ?_⟩; exact rfl)
        | (refine Or.inl ⟨by rfl, ?_⟩
           intro w hSw
           (try dsimp only at hSw)
           (try go_split_ands)
           go_simp
           (first | done | with_reducible rfl))
    try simp only [Act.put, List.setIfInBounds_toArray, List.set_cons_zero, List.set_cons_succ]
    refine take_h 4 ⟨?_, ?_, ?_, by kernel_rfl, by kernel_rfl, by kernel_rfl, ?_, ?_, by assumption, ?_⟩
    rotate_left 2
    · (simp only [List.getElem?_toArray, List.getElem?_cons_succ, List.getElem?_cons_zero]; exact rfl)
    · exact fun _ _ _ h => h
    · first
        | (refine Or.inr ⟨by rfl, ?_⟩; exact rfl)
        | (refine Or.inl ⟨by rfl, ?_⟩
           intro w hSw
           (try dsimp only at hSw)
           (try go_split_ands)
           go_simp
           (first | done | with_reducible rfl))
    try simp only [Act.put, List.setIfInBounds_toArray, List.set_cons_zero, List.set_cons_succ]
    refine take_h 5 ⟨?_, ?_, ?_, by kernel_rfl, by kernel_rfl, by kernel_rfl, ?_, ?_, by assumption, ?_⟩
    rotate_left 2
    · (simp only [List.getElem?_toArray, List.getElem?_cons_succ, List.getElem?_cons_zero]; exact rfl)
    · exact fun _ _ _ h => h
    · first
        | (refine Or.inr ⟨by rfl, ?_⟩; exact rfl)
        | (refine Or.inl ⟨by rfl, ?_⟩
           intro w hSw
           (try dsimp only at hSw)
           (try go_split_ands)
           go_simp
           (first | done | with_reducible rfl))
    try simp only [Act.put, List.setIfInBounds_toArray, List.set_cons_zero, List.set_cons_succ]
    refine take_h 6 ⟨?_, ?_, ?_, by kernel_rfl, by kernel_rfl, by kernel_rfl, ?_, ?_, by assumption, ?_⟩
    rotate_left 2
    · (simp only [List.getElem?_toArray, List.getElem?_cons_succ, List.getElem?_cons_zero]; exact rfl)
    · exact fun _ _ _ h => h
    · first
        | (refine Or.inr ⟨by rfl, ?_⟩; exact rfl)
        | (refine Or.inl ⟨by rfl, ?_⟩
           intro w hSw
           (try dsimp only at hSw)
           (try go_split_ands)
           go_simp
           (first | done | with_reducible rfl))
    try simp only [Act.put, List.setIfInBounds_toArray, List.set_cons_zero, List.set_cons_succ]
    refine take_h 7 ⟨?_, ?_, ?_, by kernel_rfl, by kernel_rfl, by kernel_rfl, ?_, ?_, by assumption, ?_⟩
    rotate_left 2
    · (simp only [List.getElem?_toArray, List.getElem?_cons_succ, List.getElem?_cons_zero]; exact rfl)
    · exact fun _ _ _ h => h
    · first
        | (refine Or.inr ⟨by rfl, ?_⟩; exact rfl)
        | (refine Or.inl ⟨by rfl, ?_⟩
           intro w hSw
           (try dsimp only at hSw)
           (try go_split_ands)
           go_simp
           (first | done | with_reducible rfl))
    try simp only [Act.put, List.setIfInBounds_toArray, List.set_cons_zero, List.set_cons_succ]
    refine take_h 8 ⟨?_, ?_, ?_, by kernel_rfl, by kernel_rfl, by kernel_rfl, ?_, ?_, by assumption, ?_⟩
    rotate_left 2
    · (simp only [List.getElem?_toArray, List.getElem?_cons_succ, List.getElem?_cons_zero]; exact rfl)
    · exact fun _ _ _ h => h
    · first
        | (refine Or.inr ⟨by rfl, ?_⟩; exact rfl)
        | (refine Or.inl ⟨by rfl, ?_⟩
           intro w hSw
           (try dsimp only at hSw)
           (try go_split_ands)
           go_simp
           (first | done | with_reducible rfl))
    try simp only [Act.put, List.setIfInBounds_toArray, List.set_cons_zero, List.set_cons_succ]
    refine take_h 11 ⟨?_, ?_, ?_, by kernel_rfl, by kernel_rfl, by kernel_rfl, ?_, ?_, by assumption, ?_⟩
    rotate_left 2
    · (simp only [List.getElem?_toArray, List.getElem?_cons_succ, List.getElem?_cons_zero]; exact rfl)
    · exact fun _ _ _ h => h
    · first
        | (refine Or.inr ⟨by rfl, ?_⟩; exact rfl)
        | (refine Or.inl ⟨by rfl, ?_⟩
           intro w hSw
           (try dsimp only at hSw)
           (try go_split_ands)
           go_simp
           (first | done | with_reducible rfl))
    try simp only [Act.put, List.setIfInBounds_toArray, List.set_cons_zero, List.set_cons_succ]
    refine take_h 12 ⟨?_, ?_, ?_, by kernel_rfl, by kernel_rfl, by kernel_rfl, ?_, ?_, by assumption, ?_⟩
    rotate_left 2
    · (simp only [List.getElem?_toArray, List.getElem?_cons_succ, List.getElem?_cons_zero]; exact rfl)
    · exact fun _ _ _ h => h
    · first
        | (refine Or.inr ⟨by rfl, ?_⟩; exact rfl)
        | (refine Or.inl ⟨by rfl, ?_⟩
           intro w hSw
           (try dsimp only at hSw)
           (try go_split_ands)
           go_simp
           (first | done | with_reducible rfl))
    try simp only [Act.put, List.setIfInBounds_toArray, List.set_cons_zero, List.set_cons_succ]
    refine take_h 13 ⟨?_, ?_, ?_, by kernel_rfl, by kernel_rfl, by kernel_rfl, ?_, ?_, by assumption, ?_⟩
    rotate_left 2
    · (simp only [List.getElem?_toArray, List.getElem?_cons_succ, List.getElem?_cons_zero]; exact rfl)
    · exact fun _ _ _ h => h
    · first
        | (refine Or.inr ⟨by rfl, ?_⟩; exact rfl)
        | (refine Or.inl ⟨by rfl, ?_⟩
           intro w hSw
           (try dsimp only at hSw)
           (try go_split_ands)
           go_simp
           (first | done | with_reducible rfl))
    try simp only [Act.put, List.setIfInBounds_toArray, List.set_cons_zero, List.set_cons_succ]
    refine take_h 14 ⟨?_, ?_, ?_, by kernel_rfl, by kernel_rfl, by kernel_rfl, ?_, ?_, by assumption, ?_⟩
    rotate_left 2
    · (simp only [List.getElem?_toArray, List.getElem?_cons_succ, List.getElem?_cons_zero]; exact rfl)
    · exact fun _ _ _ h => h
    · first
        | (refine Or.inr ⟨by rfl, ?_⟩; exact rfl)
        | (refine Or.inl ⟨by rfl, ?_⟩
           intro w hSw
           (try dsimp only at hSw)
           (try go_split_ands)
           go_simp
           (first | done | with_reducible rfl))
    try simp only [Act.put, List.setIfInBounds_toArray, List.set_cons_zero, List.set_cons_succ]
    refine take_h 15 ⟨?_, ?_, ?_, by kernel_rfl, by kernel_rfl, by kernel_rfl, ?_, ?_, by assumption, ?_⟩
    rotate_left 2
    · (simp only [List.getElem?_toArray, List.getElem?_cons_succ, List.getElem?_cons_zero]; exact rfl)
    · exact fun _ _ _ h => h
    · first
        | (refine Or.inr ⟨by rfl, ?_⟩; exact rfl)
        | (refine Or.inl ⟨by rfl, ?_⟩
           intro w hSw
           (try dsimp only at hSw)
           (try go_split_ands)
           go_simp
           (first | done | with_reducible rfl))
    try simp only [Act.put, List.setIfInBounds_toArray, List.set_cons_zero, List.set_cons_succ]
    refine take_h 16 ⟨?_, ?_, ?_, by kernel_rfl, by kernel_rfl, by kernel_rfl, ?_, ?_, by assumption, ?_⟩
    rotate_left 2
    · (simp only [List.getElem?_toArray, List.getElem?_cons_succ, List.getElem?_cons_zero]; exact rfl)
    · exact fun _ _ _ h => h
    · first
        | (refine Or.inr ⟨by rfl, ?_⟩; exact rfl)
        | (refine Or.inl ⟨by rfl, ?_⟩
           intro w hSw
           (try dsimp only at hSw)
           (try go_split_ands)
           go_simp
           (first | done | with_reducible rfl))
    try simp only [Act.put, List.setIfInBounds_toArray, List.set_cons_zero, List.set_cons_succ]
    refine take_h 17 ⟨?_, ?_, ?_, by kernel_rfl, by kernel_rfl, by kernel_rfl, ?_, ?_, by assumption, ?_⟩
    rotate_left 2
    · (simp only [List.getElem?_toArray, List.getElem?_cons_succ, List.getElem?_cons_zero]; exact rfl)
    · exact fun _ _ _ h => h
    · first
        | (refine Or.inr ⟨by rfl, ?_⟩; exact rfl)
        | (refine Or.inl ⟨by rfl, ?_⟩
           intro w hSw
           (try dsimp only at hSw)
           (try go_split_ands)
           go_simp
           (first | done | with_reducible rfl))
    try simp only [Act.put, List.setIfInBounds_toArray, List.set_cons_zero, List.set_cons_succ]
    refine take_h 18 ⟨?_, ?_, ?_, by kernel_rfl, by kernel_rfl, by kernel_rfl, ?_, ?_, by assumption, ?_⟩
    rotate_left 2
    · (simp only [List.getElem?_toArray, List.getElem?_cons_succ, List.getElem?_cons_zero]; exact rfl)
    · exact fun _ _ _ h => h
    · first
        | (refine Or.inr ⟨by rfl, ?_⟩; exact rfl)
        | (refine Or.inl ⟨by rfl, ?_⟩
           intro w hSw
           (try dsimp only at hSw)
           (try go_split_ands)
           go_simp
           (first | done | with_reducible rfl))
    try simp only [Act.put, List.setIfInBounds_toArray, List.set_cons_zero, List.set_cons_succ]
    refine take_h 19 ⟨?_, ?_, ?_, by kernel_rfl, by kernel_rfl, by kernel_rfl, ?_, ?_, by assumption, ?_⟩
    rotate_left 2
    · (simp only [List.getElem?_toArray, List.getElem?_cons_succ, List.getElem?_cons_zero]; exact rfl)
    · exact fun _ _ _ h => h
    · first
        | (refine Or.inr ⟨by rfl, ?_⟩; exact rfl)
        | (refine Or.inl ⟨by rfl, ?_⟩
           intro w hSw
           (try dsimp only at hSw)
           (try go_split_ands)
           go_simp
           (first | done | with_reducible rfl))
    try simp only [Act.put, List.setIfInBounds_toArray, List.set_cons_zero, List.set_cons_succ]
    refine wpAnyH_ready (rs := [9]) (by kernel_rfl) (by simp) ?_
    refine call_h 9 ⟨?_, ?_, fun K hK => ?_⟩
    rotate_left 1
    · (simp only [List.getElem?_toArray, List.getElem?_cons_succ, List.getElem?_cons_zero]; exact rfl)
    go_simp
    (go_at_call 23; refine HC1.out.mono ?_; rintro e w2 ⟨rfl, hM, hl1⟩)
    go_wp2_with fail
    have hl1' : Left (PL s) w1 w2 := ⟨hl1.os, hl1.tape, hl1.output, hl1.size, hl1.block⟩
    have HB2 := Lib.hid (HBW.out.trans (HJW.out.belowP hl1'))
    have hz2 := hl1'.size
    have HM := Lib.hid hM
    have j0 := cell_left' i0 hl1' HNP.out
    have j3 := cell_left' i3 hl1' HNP.out
    have jb2 := cell_left' ib2 hl1' HPB.out
    have jb4 := cell_left' ib4 hl1' HPB.out
    clear hM hl1 hl1' i0 i3 ib2 ib4
    refine hK.out _ _ ⟨j0, j3, jb2, jb4⟩ (fun hHeld => ?_)
    clear hK K
    (try simp only [Act.put, List.setIfInBounds_toArray, List.set_cons_zero, List.set_cons_succ])
    refine wpAnyH_ready (rs := [10]) (by kernel_rfl) (by simp) ?_
    refine call_h 10 ⟨?_, ?_, fun K hK => ?_⟩
    rotate_left 1
    · (simp only [List.getElem?_toArray, List.getElem?_cons_succ, List.getElem?_cons_zero]; exact rfl)
    go_simp
    (go_at_call 16; refine (num2_any _ _).mono ?_; rintro e w' ⟨rfl, rfl⟩)
    go_wp2_with fail
    refine hK.out _ _ ⟨j0, j3, jb2, jb4⟩ (fun hHeld => ?_)
    clear hK K
    (try simp only [Act.put, List.setIfInBounds_toArray, List.set_cons_zero, List.set_cons_succ])
    refine wpAnyH_ready (rs := [20]) (by kernel_rfl) (by simp) ?_
    refine call_h 20 ⟨?_, ?_, fun K hK => ?_⟩
    rotate_left 1
    · (simp only [List.getElem?_toArray, List.getElem?_cons_succ, List.getElem?_cons_zero]; exact rfl)
    go_simp
    (go_at_call 27; refine (HC2.out w2 HM.out).mono ?_; rintro e w3 ⟨rfl, hJ3, hl2⟩)
    go_wp2_with fail
    have HJ3 := Lib.hid hJ3
    have HB3 := Lib.hid (HB2.out.trans (HJW.out.belowQ (Nat.le_trans hbw1 hz2) hl2))
    have l0 := cell_left' j0 hl2 HNQ.out
    have l3 := cell_left' j3 hl2 HNQ.out
    have lb2 := cell_left' jb2 hl2 HQB.out
    have lb4 := cell_left' jb4 hl2 HQB.out
    have hW3 := hJ3.hal.1
    have e1 : w3.cell? ⟨s 0, 1, none⟩ = some (.pointer (some ⟨s 1, 0, none⟩)) := by rw [hW3.cell]; rfl
    have e4 : w3.cell? ⟨s 0, 4, none⟩ = some (.pointer (some ⟨s 10, 0, none⟩)) := by rw [hW3.cell]; rfl
    clear hJ3 hl2 hW3 j0 j3 jb2 jb4
    refine hK.out _ _ ⟨l0, l3, lb2, lb4⟩ (fun hHeld => ?_)
    clear hK K l0 l3 lb2 lb4
    (try simp only [Act.put, List.setIfInBounds_toArray, List.set_cons_zero, List.set_cons_succ])
    refine take_h 21 ⟨?_, ?_, ?_, by kernel_rfl, by kernel_rfl, by kernel_rfl, ?_, ?_, by assumption, ?_⟩
    rotate_left 2
    · (simp only [List.getElem?_toArray, List.getElem?_cons_succ, List.getElem?_cons_zero]; exact rfl)
    · exact fun _ _ _ h => h
    · first
        | (refine Or.inr ⟨by rfl, ?_⟩; exact rfl)
        | (refine Or.inl ⟨by rfl, ?_⟩
           intro w hSw
           (try dsimp only at hSw)
           (try go_split_ands)
           go_simp
           (first | done | with_reducible rfl))
    try simp only [Act.put, List.setIfInBounds_toArray, List.set_cons_zero, List.set_cons_succ]
    refine wpAnyH_done (by kernel_rfl) ?_ _
    clear hHeld
    obtain ⟨fn, hf1, hf2⟩ := HJ3.out.free
    have HF1 := Lib.hid hf1
    have HF2 := Lib.hid hf2
    clear hf1 hf2
    go_wp2_with fail
    go_quiet ((first | (go_at_call 39; exact Calls.quiet_of_same (HF1.out _)) | (go_at_call 81; exact Calls.quiet_of_same (HF2.out _))))
    go_wp2
    go_ret
    exact ⟨rfl, ⟨_, _, HJ3.out.left0 ((Left.refl _ _).drewN _), by first | (simp; done) | (simp; omega)⟩, below_drewN HB3.out _⟩
  · go_enter Try.func48, Try.ntmps48
    go_wp2_with fail
    refine (Within_any _ _ 3 (by omega) (by omega)).mono ?_
    rintro e w' ⟨rfl, rfl⟩
    rw [HY.out]
    go_upto_region 34 with fail
    obtain ⟨w1, hw1⟩ : ∃ u, u = ((w.alloc (.cells #[.int .i64 dk, .int .i64 n, .int .i64 at_, lv, .int .u64 v] 77)).alloc (.cells #[.int .i64 1, .int .i64 2, .int .i64 4] 3)) := ⟨_, rfl⟩
    rw [← hw1]
    have ib2 : w1.cell? ⟨w.heap.size, 2, none⟩ = some (.int .i64 at_) := by rw [hw1]; simp
    have ib4 : w1.cell? ⟨w.heap.size, 4, none⟩ = some (.int .u64 v) := by rw [hw1]; simp
    have hJW := HJ1.out.left0 ((Left.refl _ _).alloc (.cells #[.int .i64 1, .int .i64 2, .int .i64 4] 3))
    rw [← hw1] at hJW
    have HBW : Hid (Below base w w1) := Lib.hid (hw1 ▸ HB1.out.alloc HJ1.out.base_le _)
    have hW7 := hJW.hal.1
    have i0 : w1.cell? ⟨s 0, 0, none⟩ = some (.pointer (some ⟨s 6, 0, none⟩)) := by rw [hW7.cell]; rfl
    have i3 : w1.cell? ⟨s 0, 3, none⟩ = some (.pointer (some ⟨s 8, 0, none⟩)) := by rw [hW7.cell]; rfl
    have hbw1 := hJW.base_le
    obtain ⟨er, M, hc1, hc2⟩ := (hJW.left0 (Left.refl [] _).drew).put at_ 2 v
    have HJW := Lib.hid hJW
    have HC1 := Lib.hid hc1
    have HC2 := Lib.hid hc2
    clear hc1 hc2 hW7 hJW hw1 c0 c1 c2 c3 c4 c5 c6
    refine wp_region_held_drew (S := fun wx => wx.cell? ⟨s 0, 0, none⟩ = some (.pointer (some ⟨s 6, 0, none⟩)) ∧ wx.cell? ⟨s 0, 3, none⟩ = some (.pointer (some ⟨s 8, 0, none⟩)) ∧ wx.cell? ⟨w.heap.size, 2, none⟩ = some (.int .i64 at_) ∧ wx.cell? ⟨w.heap.size, 4, none⟩ = some (.int .u64 v)) (by kernel_rfl) ⟨i0, i3, ib2, ib4⟩ (fun hHeld => ?_)
    refine take_h 0 ⟨?_, ?_, ?_, by kernel_rfl, by kernel_rfl, by kernel_rfl, ?_, ?_, by assumption, ?_⟩
    rotate_left 2
    · (simp only [List.getElem?_toArray, List.getElem?_cons_zero]; exact rfl)
    · exact fun _ _ _ h => h
    · first
        | (refine Or.inr ⟨by rfl, ?_⟩; exact rfl)
        | (refine Or.inl ⟨by rfl, ?_⟩
           intro w hSw
           (try dsimp only at hSw)
           (try go_split_ands)
           go_simp
           (first | done | with_reducible rfl))
    try simp only [Act.put, List.setIfInBounds_toArray, List.set_cons_zero, List.set_cons_succ]
    refine take_h 1 ⟨?_, ?_, ?_, by kernel_rfl, by kernel_rfl, by kernel_rfl, ?_, ?_, by assumption, ?_⟩
    rotate_left 2
    · (simp only [List.getElem?_toArray, List.getElem?_cons_succ, List.getElem?_cons_zero]; exact rfl)
    · exact fun _ _ _ h => h
    · first
        | (refine Or.inr ⟨by rfl, ?_⟩; exact rfl)
        | (refine Or.inl ⟨by rfl, ?_⟩
           intro w hSw
           (try dsimp only at hSw)
           (try go_split_ands)
           go_simp
           (first | done | with_reducible rfl))
    try simp only [Act.put, List.setIfInBounds_toArray, List.set_cons_zero, List.set_cons_succ]
    refine take_h 2 ⟨?_, ?_, ?_, by kernel_rfl, by kernel_rfl, by kernel_rfl, ?_, ?_, by assumption, ?_⟩
    rotate_left 2
    · (simp only [List.getElem?_toArray, List.getElem?_cons_succ, List.getElem?_cons_zero]; exact rfl)
    · exact fun _ _ _ h => h
    · first
        | (refine Or.inr ⟨by rfl, ?_⟩; exact rfl)
        | (refine Or.inl ⟨by rfl, ?_⟩
           intro w hSw
           (try dsimp only at hSw)
           (try go_split_ands)
           go_simp
           (first | done | with_reducible rfl))
    try simp only [Act.put, List.setIfInBounds_toArray, List.set_cons_zero, List.set_cons_succ]
    refine take_h 3 ⟨?_, ?_, ?_, by kernel_rfl, by kernel_rfl, by kernel_rfl, ?_, ?_, by assumption, ?_⟩
    rotate_left 2
    · (simp only [List.getElem?_toArray, List.getElem?_cons_succ, List.getElem?_cons_zero]; exact rfl)
    · exact fun _ _ _ h => h
    · first
        | (refine Or.inr ⟨by rfl, ?_⟩; exact rfl)
        | (refine Or.inl ⟨by rfl, ?_⟩
           intro w hSw
           (try dsimp only at hSw)
           (try go_split_ands)
           go_simp
           (first | done | with_reducible rfl))
    try simp only [Act.put, List.setIfInBounds_toArray, List.set_cons_zero, List.set_cons_succ]
    refine take_h 4 ⟨?_, ?_, ?_, by kernel_rfl, by kernel_rfl, by kernel_rfl, ?_, ?_, by assumption, ?_⟩
    rotate_left 2
    · (simp only [List.getElem?_toArray, List.getElem?_cons_succ, List.getElem?_cons_zero]; exact rfl)
    · exact fun _ _ _ h => h
    · first
        | (refine Or.inr ⟨by rfl, ?_⟩; exact rfl)
        | (refine Or.inl ⟨by rfl, ?_⟩
           intro w hSw
           (try dsimp only at hSw)
           (try go_split_ands)
           go_simp
           (first | done | with_reducible rfl))
    try simp only [Act.put, List.setIfInBounds_toArray, List.set_cons_zero, List.set_cons_succ]
    refine take_h 5 ⟨?_, ?_, ?_, by kernel_rfl, by kernel_rfl, by kernel_rfl, ?_, ?_, by assumption, ?_⟩
    rotate_left 2
    · (simp only [List.getElem?_toArray, List.getElem?_cons_succ, List.getElem?_cons_zero]; exact rfl)
    · exact fun _ _ _ h => h
    · first
        | (refine Or.inr ⟨by rfl, ?_⟩; exact rfl)
        | (refine Or.inl ⟨by rfl, ?_⟩
           intro w hSw
           (try dsimp only at hSw)
           (try go_split_ands)
           go_simp
           (first | done | with_reducible rfl))
    try simp only [Act.put, List.setIfInBounds_toArray, List.set_cons_zero, List.set_cons_succ]
    refine take_h 6 ⟨?_, ?_, ?_, by kernel_rfl, by kernel_rfl, by kernel_rfl, ?_, ?_, by assumption, ?_⟩
    rotate_left 2
    · (simp only [List.getElem?_toArray, List.getElem?_cons_succ, List.getElem?_cons_zero]; exact rfl)
    · exact fun _ _ _ h => h
    · first
        | (refine Or.inr ⟨by rfl, ?_⟩; exact rfl)
        | (refine Or.inl ⟨by rfl, ?_⟩
           intro w hSw
           (try dsimp only at hSw)
           (try go_split_ands)
           go_simp
           (first | done | with_reducible rfl))
    try simp only [Act.put, List.setIfInBounds_toArray, List.set_cons_zero, List.set_cons_succ]
    refine take_h 7 ⟨?_, ?_, ?_, by kernel_rfl, by kernel_rfl, by kernel_rfl, ?_, ?_, by assumption, ?_⟩
    rotate_left 2
    · (simp only [List.getElem?_toArray, List.getElem?_cons_succ, List.getElem?_cons_zero]; exact rfl)
    · exact fun _ _ _ h => h
    · first
        | (refine Or.inr ⟨by rfl, ?_⟩; exact rfl)
        | (refine Or.inl ⟨by rfl, ?_⟩
           intro w hSw
           (try dsimp only at hSw)
           (try go_split_ands)
           go_simp
           (first | done | with_reducible rfl))
    try simp only [Act.put, List.setIfInBounds_toArray, List.set_cons_zero, List.set_cons_succ]
    refine take_h 8 ⟨?_, ?_, ?_, by kernel_rfl, by kernel_rfl, by kernel_rfl, ?_, ?_, by assumption, ?_⟩
    rotate_left 2
    · (simp only [List.getElem?_toArray, List.getElem?_cons_succ, List.getElem?_cons_zero]; exact rfl)
    · exact fun _ _ _ h => h
    · first
        | (refine Or.inr ⟨by rfl, ?_⟩; exact rfl)
        | (refine Or.inl ⟨by rfl, ?_⟩
           intro w hSw
           (try dsimp only at hSw)
           (try go_split_ands)
           go_simp
           (first | done | with_reducible rfl))
    try simp only [Act.put, List.setIfInBounds_toArray, List.set_cons_zero, List.set_cons_succ]
    refine take_h 11 ⟨?_, ?_, ?_, by kernel_rfl, by kernel_rfl, by kernel_rfl, ?_, ?_, by assumption, ?_⟩
    rotate_left 2
    · (simp only [List.getElem?_toArray, List.getElem?_cons_succ, List.getElem?_cons_zero]; exact rfl)
    · exact fun _ _ _ h => h
    · first
        | (refine Or.inr ⟨by rfl, ?_⟩; exact rfl)
        | (refine Or.inl ⟨by rfl, ?_⟩
           intro w hSw
           (try dsimp only at hSw)
           (try go_split_ands)
           go_simp
           (first | done | with_reducible rfl))
    try simp only [Act.put, List.setIfInBounds_toArray, List.set_cons_zero, List.set_cons_succ]
    refine take_h 12 ⟨?_, ?_, ?_, by kernel_rfl, by kernel_rfl, by kernel_rfl, ?_, ?_, by assumption, ?_⟩
    rotate_left 2
    · (simp only [List.getElem?_toArray, List.getElem?_cons_succ, List.getElem?_cons_zero]; exact rfl)
    · exact fun _ _ _ h => h
    · first
        | (refine Or.inr ⟨by rfl, ?_⟩; exact rfl)
        | (refine Or.inl ⟨by rfl, ?_⟩
           intro w hSw
           (try dsimp only at hSw)
           (try go_split_ands)
           go_simp
           (first | done | with_reducible rfl))
    try simp only [Act.put, List.setIfInBounds_toArray, List.set_cons_zero, List.set_cons_succ]
    refine take_h 13 ⟨?_, ?_, ?_, by kernel_rfl, by kernel_rfl, by kernel_rfl, ?_, ?_, by assumption, ?_⟩
    rotate_left 2
    · (simp only [List.getElem?_toArray, List.getElem?_cons_succ, List.getElem?_cons_zero]; exact rfl)
    · exact fun _ _ _ h => h
    · first
        | (refine Or.inr ⟨by rfl, ?_⟩; exact rfl)
        | (refine Or.inl ⟨by rfl, ?_⟩
           intro w hSw
           (try dsimp only at hSw)
           (try go_split_ands)
           go_simp
           (first | done | with_reducible rfl))
    try simp only [Act.put, List.setIfInBounds_toArray, List.set_cons_zero, List.set_cons_succ]
    refine take_h 14 ⟨?_, ?_, ?_, by kernel_rfl, by kernel_rfl, by kernel_rfl, ?_, ?_, by assumption, ?_⟩
    rotate_left 2
    · (simp only [List.getElem?_toArray, List.getElem?_cons_succ, List.getElem?_cons_zero]; exact rfl)
    · exact fun _ _ _ h => h
    · first
        | (refine Or.inr ⟨by rfl, ?_⟩; exact rfl)
        | (refine Or.inl ⟨by rfl, ?_⟩
           intro w hSw
           (try dsimp only at hSw)
           (try go_split_ands)
           go_simp
           (first | done | with_reducible rfl))
    try simp only [Act.put, List.setIfInBounds_toArray, List.set_cons_zero, List.set_cons_succ]
    refine take_h 15 ⟨?_, ?_, ?_, by kernel_rfl, by kernel_rfl, by kernel_rfl, ?_, ?_, by assumption, ?_⟩
    rotate_left 2
    · (simp only [List.getElem?_toArray, List.getElem?_cons_succ, List.getElem?_cons_zero]; exact rfl)
    · exact fun _ _ _ h => h
    · first
        | (refine Or.inr ⟨by rfl, ?_⟩; exact rfl)
        | (refine Or.inl ⟨by rfl, ?_⟩
           intro w hSw
           (try dsimp only at hSw)
           (try go_split_ands)
           go_simp
           (first | done | with_reducible rfl))
    try simp only [Act.put, List.setIfInBounds_toArray, List.set_cons_zero, List.set_cons_succ]
    refine take_h 16 ⟨?_, ?_, ?_, by kernel_rfl, by kernel_rfl, by kernel_rfl, ?_, ?_, by assumption, ?_⟩
    rotate_left 2
    · (simp only [List.getElem?_toArray, List.getElem?_cons_succ, List.getElem?_cons_zero]; exact rfl)
    · exact fun _ _ _ h => h
    · first
        | (refine Or.inr ⟨by rfl, ?_⟩; exact rfl)
        | (refine Or.inl ⟨by rfl, ?_⟩
           intro w hSw
           (try dsimp only at hSw)
           (try go_split_ands)
           go_simp
           (first | done | with_reducible rfl))
    try simp only [Act.put, List.setIfInBounds_toArray, List.set_cons_zero, List.set_cons_succ]
    refine take_h 17 ⟨?_, ?_, ?_, by kernel_rfl, by kernel_rfl, by kernel_rfl, ?_, ?_, by assumption, ?_⟩
    rotate_left 2
    · (simp only [List.getElem?_toArray, List.getElem?_cons_succ, List.getElem?_cons_zero]; exact rfl)
    · exact fun _ _ _ h => h
    · first
        | (refine Or.inr ⟨by rfl, ?_⟩; exact rfl)
        | (refine Or.inl ⟨by rfl, ?_⟩
           intro w hSw
           (try dsimp only at hSw)
           (try go_split_ands)
           go_simp
           (first | done | with_reducible rfl))
    try simp only [Act.put, List.setIfInBounds_toArray, List.set_cons_zero, List.set_cons_succ]
    refine take_h 18 ⟨?_, ?_, ?_, by kernel_rfl, by kernel_rfl, by kernel_rfl, ?_, ?_, by assumption, ?_⟩
    rotate_left 2
    · (simp only [List.getElem?_toArray, List.getElem?_cons_succ, List.getElem?_cons_zero]; exact rfl)
    · exact fun _ _ _ h => h
    · first
        | (refine Or.inr ⟨by rfl, ?_⟩; exact rfl)
        | (refine Or.inl ⟨by rfl, ?_⟩
           intro w hSw
           (try dsimp only at hSw)
           (try go_split_ands)
           go_simp
           (first | done | with_reducible rfl))
    try simp only [Act.put, List.setIfInBounds_toArray, List.set_cons_zero, List.set_cons_succ]
    refine take_h 19 ⟨?_, ?_, ?_, by kernel_rfl, by kernel_rfl, by kernel_rfl, ?_, ?_, by assumption, ?_⟩
    rotate_left 2
    · (simp only [List.getElem?_toArray, List.getElem?_cons_succ, List.getElem?_cons_zero]; exact rfl)
    · exact fun _ _ _ h => h
    · first
        | (refine Or.inr ⟨by rfl, ?_⟩; exact rfl)
        | (refine Or.inl ⟨by rfl, ?_⟩
           intro w hSw
           (try dsimp only at hSw)
           (try go_split_ands)
           go_simp
           (first | done | with_reducible rfl))
    try simp only [Act.put, List.setIfInBounds_toArray, List.set_cons_zero, List.set_cons_succ]
    refine wpAnyH_ready (rs := [9]) (by kernel_rfl) (by simp) ?_
    refine call_h 9 ⟨?_, ?_, fun K hK => ?_⟩
    rotate_left 1
    · (simp only [List.getElem?_toArray, List.getElem?_cons_succ, List.getElem?_cons_zero]; exact rfl)
    go_simp
    (go_at_call 23; refine HC1.out.mono ?_; rintro e w2 ⟨rfl, hM, hl1⟩)
    go_wp2_with fail
    have hl1' : Left (PL s) w1 w2 := ⟨hl1.os, hl1.tape, hl1.output, hl1.size, hl1.block⟩
    have HB2 := Lib.hid (HBW.out.trans (HJW.out.belowP hl1'))
    have hz2 := hl1'.size
    have HM := Lib.hid hM
    have j0 := cell_left' i0 hl1' HNP.out
    have j3 := cell_left' i3 hl1' HNP.out
    have jb2 := cell_left' ib2 hl1' HPB.out
    have jb4 := cell_left' ib4 hl1' HPB.out
    clear hM hl1 hl1' i0 i3 ib2 ib4
    refine hK.out _ _ ⟨j0, j3, jb2, jb4⟩ (fun hHeld => ?_)
    clear hK K
    (try simp only [Act.put, List.setIfInBounds_toArray, List.set_cons_zero, List.set_cons_succ])
    refine wpAnyH_ready (rs := [10]) (by kernel_rfl) (by simp) ?_
    refine call_h 10 ⟨?_, ?_, fun K hK => ?_⟩
    rotate_left 1
    · (simp only [List.getElem?_toArray, List.getElem?_cons_succ, List.getElem?_cons_zero]; exact rfl)
    go_simp
    (go_at_call 16; refine (num2_any _ _).mono ?_; rintro e w' ⟨rfl, rfl⟩)
    go_wp2_with fail
    refine hK.out _ _ ⟨j0, j3, jb2, jb4⟩ (fun hHeld => ?_)
    clear hK K
    (try simp only [Act.put, List.setIfInBounds_toArray, List.set_cons_zero, List.set_cons_succ])
    refine wpAnyH_ready (rs := [20]) (by kernel_rfl) (by simp) ?_
    refine call_h 20 ⟨?_, ?_, fun K hK => ?_⟩
    rotate_left 1
    · (simp only [List.getElem?_toArray, List.getElem?_cons_succ, List.getElem?_cons_zero]; exact rfl)
    go_simp
    (go_at_call 27; refine (HC2.out w2 HM.out).mono ?_; rintro e w3 ⟨rfl, hJ3, hl2⟩)
    go_wp2_with fail
    have HJ3 := Lib.hid hJ3
    have HB3 := Lib.hid (HB2.out.trans (HJW.out.belowQ (Nat.le_trans hbw1 hz2) hl2))
    have l0 := cell_left' j0 hl2 HNQ.out
    have l3 := cell_left' j3 hl2 HNQ.out
    have lb2 := cell_left' jb2 hl2 HQB.out
    have lb4 := cell_left' jb4 hl2 HQB.out
    have hW3 := hJ3.hal.1
    have e1 : w3.cell? ⟨s 0, 1, none⟩ = some (.pointer (some ⟨s 1, 0, none⟩)) := by rw [hW3.cell]; rfl
    have e4 : w3.cell? ⟨s 0, 4, none⟩ = some (.pointer (some ⟨s 10, 0, none⟩)) := by rw [hW3.cell]; rfl
    clear hJ3 hl2 hW3 j0 j3 jb2 jb4
    refine hK.out _ _ ⟨l0, l3, lb2, lb4⟩ (fun hHeld => ?_)
    clear hK K l0 l3 lb2 lb4
    (try simp only [Act.put, List.setIfInBounds_toArray, List.set_cons_zero, List.set_cons_succ])
    refine take_h 21 ⟨?_, ?_, ?_, by kernel_rfl, by kernel_rfl, by kernel_rfl, ?_, ?_, by assumption, ?_⟩
    rotate_left 2
    · (simp only [List.getElem?_toArray, List.getElem?_cons_succ, List.getElem?_cons_zero]; exact rfl)
    · exact fun _ _ _ h => h
    · first
        | (refine Or.inr ⟨by rfl, ?_⟩; exact rfl)
        | (refine Or.inl ⟨by rfl, ?_⟩
           intro w hSw
           (try dsimp only at hSw)
           (try go_split_ands)
           go_simp
           (first | done | with_reducible rfl))
    try simp only [Act.put, List.setIfInBounds_toArray, List.set_cons_zero, List.set_cons_succ]
    refine wpAnyH_done (by kernel_rfl) ?_ _
    clear hHeld
    obtain ⟨fn, hf1, hf2⟩ := HJ3.out.free
    have HF1 := Lib.hid hf1
    have HF2 := Lib.hid hf2
    clear hf1 hf2
    go_wp2_with fail
    go_quiet ((first | (go_at_call 39; exact Calls.quiet_of_same (HF1.out _)) | (go_at_call 81; exact Calls.quiet_of_same (HF2.out _))))
    go_wp2
    go_ret
    exact ⟨rfl, ⟨_, _, HJ3.out.left0 ((Left.refl _ _).drewN _), by first | (simp; done) | (simp; omega)⟩, below_drewN HB3.out _⟩
  · go_enter Try.func48, Try.ntmps48
    go_wp2_with fail
    refine (Within_any _ _ 3 (by omega) (by omega)).mono ?_
    rintro e w' ⟨rfl, rfl⟩
    rw [HY.out]
    go_upto_region 34 with fail
    obtain ⟨w1, hw1⟩ : ∃ u, u = ((w.alloc (.cells #[.int .i64 dk, .int .i64 n, .int .i64 at_, lv, .int .u64 v] 77)).alloc (.cells #[.int .i64 1, .int .i64 2, .int .i64 4] 3)) := ⟨_, rfl⟩
    rw [← hw1]
    have ib2 : w1.cell? ⟨w.heap.size, 2, none⟩ = some (.int .i64 at_) := by rw [hw1]; simp
    have ib4 : w1.cell? ⟨w.heap.size, 4, none⟩ = some (.int .u64 v) := by rw [hw1]; simp
    have hJW := HJ1.out.left0 ((Left.refl _ _).alloc (.cells #[.int .i64 1, .int .i64 2, .int .i64 4] 3))
    rw [← hw1] at hJW
    have HBW : Hid (Below base w w1) := Lib.hid (hw1 ▸ HB1.out.alloc HJ1.out.base_le _)
    have hW7 := hJW.hal.1
    have i0 : w1.cell? ⟨s 0, 0, none⟩ = some (.pointer (some ⟨s 6, 0, none⟩)) := by rw [hW7.cell]; rfl
    have i3 : w1.cell? ⟨s 0, 3, none⟩ = some (.pointer (some ⟨s 8, 0, none⟩)) := by rw [hW7.cell]; rfl
    have hbw1 := hJW.base_le
    obtain ⟨er, M, hc1, hc2⟩ := (hJW.left0 (Left.refl [] _).drew).put at_ 4 v
    have HJW := Lib.hid hJW
    have HC1 := Lib.hid hc1
    have HC2 := Lib.hid hc2
    clear hc1 hc2 hW7 hJW hw1 c0 c1 c2 c3 c4 c5 c6
    refine wp_region_held_drew (S := fun wx => wx.cell? ⟨s 0, 0, none⟩ = some (.pointer (some ⟨s 6, 0, none⟩)) ∧ wx.cell? ⟨s 0, 3, none⟩ = some (.pointer (some ⟨s 8, 0, none⟩)) ∧ wx.cell? ⟨w.heap.size, 2, none⟩ = some (.int .i64 at_) ∧ wx.cell? ⟨w.heap.size, 4, none⟩ = some (.int .u64 v)) (by kernel_rfl) ⟨i0, i3, ib2, ib4⟩ (fun hHeld => ?_)
    refine take_h 0 ⟨?_, ?_, ?_, by kernel_rfl, by kernel_rfl, by kernel_rfl, ?_, ?_, by assumption, ?_⟩
    rotate_left 2
    · (simp only [List.getElem?_toArray, List.getElem?_cons_zero]; exact rfl)
    · exact fun _ _ _ h => h
    · first
        | (refine Or.inr ⟨by rfl, ?_⟩; exact rfl)
        | (refine Or.inl ⟨by rfl, ?_⟩
           intro w hSw
           (try dsimp only at hSw)
           (try go_split_ands)
           go_simp
           (first | done | with_reducible rfl))
    try simp only [Act.put, List.setIfInBounds_toArray, List.set_cons_zero, List.set_cons_succ]
    refine take_h 1 ⟨?_, ?_, ?_, by kernel_rfl, by kernel_rfl, by kernel_rfl, ?_, ?_, by assumption, ?_⟩
    rotate_left 2
    · (simp only [List.getElem?_toArray, List.getElem?_cons_succ, List.getElem?_cons_zero]; exact rfl)
    · exact fun _ _ _ h => h
    · first
        | (refine Or.inr ⟨by rfl, ?_⟩; exact rfl)
        | (refine Or.inl ⟨by rfl, ?_⟩
           intro w hSw
           (try dsimp only at hSw)
           (try go_split_ands)
           go_simp
           (first | done | with_reducible rfl))
    try simp only [Act.put, List.setIfInBounds_toArray, List.set_cons_zero, List.set_cons_succ]
    refine take_h 2 ⟨?_, ?_, ?_, by kernel_rfl, by kernel_rfl, by kernel_rfl, ?_, ?_, by assumption, ?_⟩
    rotate_left 2
    · (simp only [List.getElem?_toArray, List.getElem?_cons_succ, List.getElem?_cons_zero]; exact rfl)
    · exact fun _ _ _ h => h
    · first
        | (refine Or.inr ⟨by rfl, ?_⟩; exact rfl)
        | (refine Or.inl ⟨by rfl, ?_⟩
           intro w hSw
           (try dsimp only at hSw)
           (try go_split_ands)
           go_simp
           (first | done | with_reducible rfl))
    try simp only [Act.put, List.setIfInBounds_toArray, List.set_cons_zero, List.set_cons_succ]
    refine take_h 3 ⟨?_, ?_, ?_, by kernel_rfl, by kernel_rfl, by kernel_rfl, ?_, ?_, by assumption, ?_⟩
    rotate_left 2
    · (simp only [List.getElem?_toArray, List.getElem?_cons_succ, List.getElem?_cons_zero]; exact rfl)
    · exact fun _ _ _ h => h
    · first
        | (refine Or.inr ⟨by rfl, ?_⟩; exact rfl)
        | (refine Or.inl ⟨by rfl, ?_⟩
           intro w hSw
           (try dsimp only at hSw)
           (try go_split_ands)
           go_simp
           (first | done | with_reducible rfl))
    try simp only [Act.put, List.setIfInBounds_toArray, List.set_cons_zero, List.set_cons_succ]
    refine take_h 4 ⟨?_, ?_, ?_, by kernel_rfl, by kernel_rfl, by kernel_rfl, ?_, ?_, by assumption, ?_⟩
    rotate_left 2
    · (simp only [List.getElem?_toArray, List.getElem?_cons_succ, List.getElem?_cons_zero]; exact rfl)
    · exact fun _ _ _ h => h
    · first
        | (refine Or.inr ⟨by rfl, ?_⟩; exact rfl)
        | (refine Or.inl ⟨by rfl, ?_⟩
           intro w hSw
           (try dsimp only at hSw)
           (try go_split_ands)
           go_simp
           (first | done | with_reducible rfl))
    try simp only [Act.put, List.setIfInBounds_toArray, List.set_cons_zero, List.set_cons_succ]
    refine take_h 5 ⟨?_, ?_, ?_, by kernel_rfl, by kernel_rfl, by kernel_rfl, ?_, ?_, by assumption, ?_⟩
    rotate_left 2
    · (simp only [List.getElem?_toArray, List.getElem?_cons_succ, List.getElem?_cons_zero]; exact rfl)
    · exact fun _ _ _ h => h
    · first
        | (refine Or.inr ⟨by rfl, ?_⟩; exact rfl)
        | (refine Or.inl ⟨by rfl, ?_⟩
           intro w hSw
           (try dsimp only at hSw)
           (try go_split_ands)
           go_simp
           (first | done | with_reducible rfl))
    try simp only [Act.put, List.setIfInBounds_toArray, List.set_cons_zero, List.set_cons_succ]
    refine take_h 6 ⟨?_, ?_, ?_, by kernel_rfl, by kernel_rfl, by kernel_rfl, ?_, ?_, by assumption, ?_⟩
    rotate_left 2
    · (simp only [List.getElem?_toArray, List.getElem?_cons_succ, List.getElem?_cons_zero]; exact rfl)
    · exact fun _ _ _ h => h
    · first
        | (refine Or.inr ⟨by rfl, ?_⟩; exact rfl)
        | (refine Or.inl ⟨by rfl, ?_⟩
           intro w hSw
           (try dsimp only at hSw)
           (try go_split_ands)
           go_simp
           (first | done | with_reducible rfl))
    try simp only [Act.put, List.setIfInBounds_toArray, List.set_cons_zero, List.set_cons_succ]
    refine take_h 7 ⟨?_, ?_, ?_, by kernel_rfl, by kernel_rfl, by kernel_rfl, ?_, ?_, by assumption, ?_⟩
    rotate_left 2
    · (simp only [List.getElem?_toArray, List.getElem?_cons_succ, List.getElem?_cons_zero]; exact rfl)
    · exact fun _ _ _ h => h
    · first
        | (refine Or.inr ⟨by rfl, ?_⟩; exact rfl)
        | (refine Or.inl ⟨by rfl, ?_⟩
           intro w hSw
           (try dsimp only at hSw)
           (try go_split_ands)
           go_simp
           (first | done | with_reducible rfl))
    try simp only [Act.put, List.setIfInBounds_toArray, List.set_cons_zero, List.set_cons_succ]
    refine take_h 8 ⟨?_, ?_, ?_, by kernel_rfl, by kernel_rfl, by kernel_rfl, ?_, ?_, by assumption, ?_⟩
    rotate_left 2
    · (simp only [List.getElem?_toArray, List.getElem?_cons_succ, List.getElem?_cons_zero]; exact rfl)
    · exact fun _ _ _ h => h
    · first
        | (refine Or.inr ⟨by rfl, ?_⟩; exact rfl)
        | (refine Or.inl ⟨by rfl, ?_⟩
           intro w hSw
           (try dsimp only at hSw)
           (try go_split_ands)
           go_simp
           (first | done | with_reducible rfl))
    try simp only [Act.put, List.setIfInBounds_toArray, List.set_cons_zero, List.set_cons_succ]
    refine take_h 11 ⟨?_, ?_, ?_, by kernel_rfl, by kernel_rfl, by kernel_rfl, ?_, ?_, by assumption, ?_⟩
    rotate_left 2
    · (simp only [List.getElem?_toArray, List.getElem?_cons_succ, List.getElem?_cons_zero]; exact rfl)
    · exact fun _ _ _ h => h
    · first
        | (refine Or.inr ⟨by rfl, ?_⟩; exact rfl)
        | (refine Or.inl ⟨by rfl, ?_⟩
           intro w hSw
           (try dsimp only at hSw)
           (try go_split_ands)
           go_simp
           (first | done | with_reducible rfl))
    try simp only [Act.put, List.setIfInBounds_toArray, List.set_cons_zero, List.set_cons_succ]
    refine take_h 12 ⟨?_, ?_, ?_, by kernel_rfl, by kernel_rfl, by kernel_rfl, ?_, ?_, by assumption, ?_⟩
    rotate_left 2
    · (simp only [List.getElem?_toArray, List.getElem?_cons_succ, List.getElem?_cons_zero]; exact rfl)
    · exact fun _ _ _ h => h
    · first
        | (refine Or.inr ⟨by rfl, ?_⟩; exact rfl)
        | (refine Or.inl ⟨by rfl, ?_⟩
           intro w hSw
           (try dsimp only at hSw)
           (try go_split_ands)
           go_simp
           (first | done | with_reducible rfl))
    try simp only [Act.put, List.setIfInBounds_toArray, List.set_cons_zero, List.set_cons_succ]
    refine take_h 13 ⟨?_, ?_, ?_, by kernel_rfl, by kernel_rfl, by kernel_rfl, ?_, ?_, by assumption, ?_⟩
    rotate_left 2
    · (simp only [List.getElem?_toArray, List.getElem?_cons_succ, List.getElem?_cons_zero]; exact rfl)
    · exact fun _ _ _ h => h
    · first
        | (refine Or.inr ⟨by rfl, ?_⟩; exact rfl)
        | (refine Or.inl ⟨by rfl, ?_⟩
           intro w hSw
           (try dsimp only at hSw)
           (try go_split_ands)
           go_simp
           (first | done | with_reducible rfl))
    try simp only [Act.put, List.setIfInBounds_toArray, List.set_cons_zero, List.set_cons_succ]
    refine take_h 14 ⟨?_, ?_, ?_, by kernel_rfl, by kernel_rfl, by kernel_rfl, ?_, ?_, by assumption, ?_⟩
    rotate_left 2
    · (simp only [List.getElem?_toArray, List.getElem?_cons_succ, List.getElem?_cons_zero]; exact rfl)
    · exact fun _ _ _ h => h
    · first
        | (refine Or.inr ⟨by rfl, ?_⟩; exact rfl)
        | (refine Or.inl ⟨by rfl, ?_⟩
           intro w hSw
           (try dsimp only at hSw)
           (try go_split_ands)
           go_simp
           (first | done | with_reducible rfl))
    try simp only [Act.put, List.setIfInBounds_toArray, List.set_cons_zero, List.set_cons_succ]
    refine take_h 15 ⟨?_, ?_, ?_, by kernel_rfl, by kernel_rfl, by kernel_rfl, ?_, ?_, by assumption, ?_⟩
    rotate_left 2
    · (simp only [List.getElem?_toArray, List.getElem?_cons_succ, List.getElem?_cons_zero]; exact rfl)
    · exact fun _ _ _ h => h
    · first
        | (refine Or.inr ⟨by rfl, ?_⟩; exact rfl)
        | (refine Or.inl ⟨by rfl, ?_⟩
           intro w hSw
           (try dsimp only at hSw)
           (try go_split_ands)
           go_simp
           (first | done | with_reducible rfl))
    try simp only [Act.put, List.setIfInBounds_toArray, List.set_cons_zero, List.set_cons_succ]
    refine take_h 16 ⟨?_, ?_, ?_, by kernel_rfl, by kernel_rfl, by kernel_rfl, ?_, ?_, by assumption, ?_⟩
    rotate_left 2
    · (simp only [List.getElem?_toArray, List.getElem?_cons_succ, List.getElem?_cons_zero]; exact rfl)
    · exact fun _ _ _ h => h
    · first
        | (refine Or.inr ⟨by rfl, ?_⟩; exact rfl)
        | (refine Or.inl ⟨by rfl, ?_⟩
           intro w hSw
           (try dsimp only at hSw)
           (try go_split_ands)
           go_simp
           (first | done | with_reducible rfl))
    try simp only [Act.put, List.setIfInBounds_toArray, List.set_cons_zero, List.set_cons_succ]
    refine take_h 17 ⟨?_, ?_, ?_, by kernel_rfl, by kernel_rfl, by kernel_rfl, ?_, ?_, by assumption, ?_⟩
    rotate_left 2
    · (simp only [List.getElem?_toArray, List.getElem?_cons_succ, List.getElem?_cons_zero]; exact rfl)
    · exact fun _ _ _ h => h
    · first
        | (refine Or.inr ⟨by rfl, ?_⟩; exact rfl)
        | (refine Or.inl ⟨by rfl, ?_⟩
           intro w hSw
           (try dsimp only at hSw)
           (try go_split_ands)
           go_simp
           (first | done | with_reducible rfl))
    try simp only [Act.put, List.setIfInBounds_toArray, List.set_cons_zero, List.set_cons_succ]
    refine take_h 18 ⟨?_, ?_, ?_, by kernel_rfl, by kernel_rfl, by kernel_rfl, ?_, ?_, by assumption, ?_⟩
    rotate_left 2
    · (simp only [List.getElem?_toArray, List.getElem?_cons_succ, List.getElem?_cons_zero]; exact rfl)
    · exact fun _ _ _ h => h
    · first
        | (refine Or.inr ⟨by rfl, ?_⟩; exact rfl)
        | (refine Or.inl ⟨by rfl, ?_⟩
           intro w hSw
           (try dsimp only at hSw)
           (try go_split_ands)
           go_simp
           (first | done | with_reducible rfl))
    try simp only [Act.put, List.setIfInBounds_toArray, List.set_cons_zero, List.set_cons_succ]
    refine take_h 19 ⟨?_, ?_, ?_, by kernel_rfl, by kernel_rfl, by kernel_rfl, ?_, ?_, by assumption, ?_⟩
    rotate_left 2
    · (simp only [List.getElem?_toArray, List.getElem?_cons_succ, List.getElem?_cons_zero]; exact rfl)
    · exact fun _ _ _ h => h
    · first
        | (refine Or.inr ⟨by rfl, ?_⟩; exact rfl)
        | (refine Or.inl ⟨by rfl, ?_⟩
           intro w hSw
           (try dsimp only at hSw)
           (try go_split_ands)
           go_simp
           (first | done | with_reducible rfl))
    try simp only [Act.put, List.setIfInBounds_toArray, List.set_cons_zero, List.set_cons_succ]
    refine wpAnyH_ready (rs := [9]) (by kernel_rfl) (by simp) ?_
    refine call_h 9 ⟨?_, ?_, fun K hK => ?_⟩
    rotate_left 1
    · (simp only [List.getElem?_toArray, List.getElem?_cons_succ, List.getElem?_cons_zero]; exact rfl)
    go_simp
    (go_at_call 23; refine HC1.out.mono ?_; rintro e w2 ⟨rfl, hM, hl1⟩)
    go_wp2_with fail
    have hl1' : Left (PL s) w1 w2 := ⟨hl1.os, hl1.tape, hl1.output, hl1.size, hl1.block⟩
    have HB2 := Lib.hid (HBW.out.trans (HJW.out.belowP hl1'))
    have hz2 := hl1'.size
    have HM := Lib.hid hM
    have j0 := cell_left' i0 hl1' HNP.out
    have j3 := cell_left' i3 hl1' HNP.out
    have jb2 := cell_left' ib2 hl1' HPB.out
    have jb4 := cell_left' ib4 hl1' HPB.out
    clear hM hl1 hl1' i0 i3 ib2 ib4
    refine hK.out _ _ ⟨j0, j3, jb2, jb4⟩ (fun hHeld => ?_)
    clear hK K
    (try simp only [Act.put, List.setIfInBounds_toArray, List.set_cons_zero, List.set_cons_succ])
    refine wpAnyH_ready (rs := [10]) (by kernel_rfl) (by simp) ?_
    refine call_h 10 ⟨?_, ?_, fun K hK => ?_⟩
    rotate_left 1
    · (simp only [List.getElem?_toArray, List.getElem?_cons_succ, List.getElem?_cons_zero]; exact rfl)
    go_simp
    (go_at_call 16; refine (num2_any _ _).mono ?_; rintro e w' ⟨rfl, rfl⟩)
    go_wp2_with fail
    refine hK.out _ _ ⟨j0, j3, jb2, jb4⟩ (fun hHeld => ?_)
    clear hK K
    (try simp only [Act.put, List.setIfInBounds_toArray, List.set_cons_zero, List.set_cons_succ])
    refine wpAnyH_ready (rs := [20]) (by kernel_rfl) (by simp) ?_
    refine call_h 20 ⟨?_, ?_, fun K hK => ?_⟩
    rotate_left 1
    · (simp only [List.getElem?_toArray, List.getElem?_cons_succ, List.getElem?_cons_zero]; exact rfl)
    go_simp
    (go_at_call 27; refine (HC2.out w2 HM.out).mono ?_; rintro e w3 ⟨rfl, hJ3, hl2⟩)
    go_wp2_with fail
    have HJ3 := Lib.hid hJ3
    have HB3 := Lib.hid (HB2.out.trans (HJW.out.belowQ (Nat.le_trans hbw1 hz2) hl2))
    have l0 := cell_left' j0 hl2 HNQ.out
    have l3 := cell_left' j3 hl2 HNQ.out
    have lb2 := cell_left' jb2 hl2 HQB.out
    have lb4 := cell_left' jb4 hl2 HQB.out
    have hW3 := hJ3.hal.1
    have e1 : w3.cell? ⟨s 0, 1, none⟩ = some (.pointer (some ⟨s 1, 0, none⟩)) := by rw [hW3.cell]; rfl
    have e4 : w3.cell? ⟨s 0, 4, none⟩ = some (.pointer (some ⟨s 10, 0, none⟩)) := by rw [hW3.cell]; rfl
    clear hJ3 hl2 hW3 j0 j3 jb2 jb4
    refine hK.out _ _ ⟨l0, l3, lb2, lb4⟩ (fun hHeld => ?_)
    clear hK K l0 l3 lb2 lb4
    (try simp only [Act.put, List.setIfInBounds_toArray, List.set_cons_zero, List.set_cons_succ])
    refine take_h 21 ⟨?_, ?_, ?_, by kernel_rfl, by kernel_rfl, by kernel_rfl, ?_, ?_, by assumption, ?_⟩
    rotate_left 2
    · (simp only [List.getElem?_toArray, List.getElem?_cons_succ, List.getElem?_cons_zero]; exact rfl)
    · exact fun _ _ _ h => h
    · first
        | (refine Or.inr ⟨by rfl, ?_⟩; exact rfl)
        | (refine Or.inl ⟨by rfl, ?_⟩
           intro w hSw
           (try dsimp only at hSw)
           (try go_split_ands)
           go_simp
           (first | done | with_reducible rfl))
    try simp only [Act.put, List.setIfInBounds_toArray, List.set_cons_zero, List.set_cons_succ]
    refine wpAnyH_done (by kernel_rfl) ?_ _
    clear hHeld
    obtain ⟨fn, hf1, hf2⟩ := HJ3.out.free
    have HF1 := Lib.hid hf1
    have HF2 := Lib.hid hf2
    clear hf1 hf2
    go_wp2_with fail
    go_quiet ((first | (go_at_call 39; exact Calls.quiet_of_same (HF1.out _)) | (go_at_call 81; exact Calls.quiet_of_same (HF2.out _))))
    go_wp2
    go_ret
    exact ⟨rfl, ⟨_, _, HJ3.out.left0 ((Left.refl _ _).drewN _), by first | (simp; done) | (simp; omega)⟩, below_drewN HB3.out _⟩
end Go.Proofs.Ytfffehbipcikoaa
