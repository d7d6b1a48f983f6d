/- The law's act Add. -/




import Derived.Test.YtfffehbipcikoaaRgDoes5
namespace Go.Proofs.Ytfffehbipcikoaa
open Go.RowKit Go.MapKept
set_option maxRecDepth 20000 in
set_option maxHeartbeats 2000000 in
theorem does_add (w : World) (base : Nat) (s : Nat → Nat) (q : Nat) (hv : Value) (hs : List Nat) (dk n at_ : Int) (lv : Value) (v : Nat) (L : List Buf) (h : JX w base s q hv hs) (hlen : hs.length ≤ 100) (hL : Rd w base 3 lv L.length (bufCells L)) (hLl : L.length ≤ 3000) (kind : Int) (hk : kind = 0 ∨ kind = 1 ∨ kind = 2) :
    Calls Try.prog 48 #[.pointer (some ⟨s 0, 0, none⟩), actV dk n at_ lv v, .int .i64 kind] w (DoesH base s q hs w) := by
  obtain ⟨ao, cap, rfl, hcp, hcm⟩ := hL.form
  have hcm2 : cap ≤ 9223372036854775807 := by unfold maxLen at hcm; omega
  unfold actV
  have hb0 := h.base_le
  have hb1 : Below base w (w.alloc (.cells #[.int .i64 dk, .int .i64 n, .int .i64 at_, .slice ao L.length cap, .int .u64 v] 77)) := (Below.refl _ _).alloc hb0 _
  have hJ1 : JX (w.alloc (.cells #[.int .i64 dk, .int .i64 n, .int .i64 at_, .slice ao L.length cap, .int .u64 v] 77)) base s q hv hs := h.left0 ((Left.refl _ _).alloc _)
  obtain ⟨hW, hlt, _, hnp, hnq⟩ := h.hal
  have c0 : w.cell? ⟨s 0, 0, none⟩ = some (.pointer (some ⟨s 6, 0, none⟩)) := by rw [hW.cell]; rfl
  have c1 : w.cell? ⟨s 0, 1, none⟩ = some (.pointer (some ⟨s 1, 0, none⟩)) := by rw [hW.cell]; rfl
  have c2 : w.cell? ⟨s 0, 2, none⟩ = some (.pointer (some ⟨s 5, 0, none⟩)) := by rw [hW.cell]; rfl
  have c3 : w.cell? ⟨s 0, 3, none⟩ = some (.pointer (some ⟨s 8, 0, none⟩)) := by rw [hW.cell]; rfl
  have c4 : w.cell? ⟨s 0, 4, none⟩ = some (.pointer (some ⟨s 10, 0, none⟩)) := by rw [hW.cell]; rfl
  have c5 : w.cell? ⟨s 0, 5, none⟩ = some (.pointer (some ⟨s 14, 0, none⟩)) := by rw [hW.cell]; rfl
  have c6 : w.cell? ⟨s 0, 6, none⟩ = some hv := by rw [hW.cell]; rfl
  have HW0 := Lib.hid h
  have HJ1 := Lib.hid hJ1
  have HB1 := Lib.hid hb1
  have HW := Lib.hid hW
  have HNP := Lib.hid hnp
  have HNQ := Lib.hid hnq
  have HPB : Hid (w.heap.size ∉ PL s) := Lib.hid (fun hm => by obtain ⟨j, _, h2, e⟩ := PL_mem hm; obtain ⟨p, r, hJ, _⟩ := h; have := (hJ.old j (by omega)).2; omega)
  have HQB : Hid (w.heap.size ∉ QL s) := Lib.hid (fun hm => by obtain ⟨j, _, h2, e⟩ := QL_mem hm; obtain ⟨p, r, hJ, _⟩ := h; have := (hJ.old j (by omega)).2; omega)
  clear h hb1 hJ1 hW
  have HLT : Hid (∀ j, j < 18 → s j < (w.alloc (.cells #[.int .i64 dk, .int .i64 n, .int .i64 at_, .slice ao L.length cap, .int .u64 v] 77)).heap.size) := Lib.hid (fun j hj => by obtain ⟨p, r, hJ, _⟩ := HJ1.out; exact (hJ.old j hj).2)
  have HL0 := Lib.hid hL
  have HLD := Lib.hid (hL.below HB1.out)
  have hbA : base ≤ (w.alloc (.cells #[.int .i64 dk, .int .i64 n, .int .i64 at_, .slice ao L.length cap, .int .u64 v] 77)).heap.size := HJ1.out.base_le
  clear hL hcm
  rcases hk with rfl | rfl | rfl
  · go_enter Try.func48, Try.ntmps48
    go_wp2_with fail
    refine (CopyBufs_any (w.alloc (.cells #[.int .i64 dk, .int .i64 n, .int .i64 at_, .slice ao L.length cap, .int .u64 v] 77)) (.slice ao L.length cap) L base HLD.out hbA (by omega)).mono ?_
    rintro e w1 ⟨v1, rfl, hown, hb⟩
    have hJ2 := HJ1.out.left0 (Left.of_below hb [])
    have hz1 := hb.size
    have hOb := World.ownsRow.lt hown
    have hR2 := HLD.out.below (hb.mono hbA)
    obtain ⟨x, er, M, hc1, hc2⟩ := hJ2.add (Rd.of_own hown) (fun k hk i hi => by have h1 := (hOb k hk).1; have h2 := HLT.out i hi; omega) hR2
    have HB2 := Lib.hid (HB1.out.trans (hb.mono hbA))
    have HJ2 := Lib.hid hJ2
    have HO := Lib.hid hown
    have HR2 := Lib.hid hR2
    have HC1 := Lib.hid hc1
    have HC2 := Lib.hid hc2
    have hW2 := hJ2.hal.1
    have i1 : w1.cell? ⟨s 0, 1, none⟩ = some (.pointer (some ⟨s 1, 0, none⟩)) := by rw [hW2.cell]; rfl
    have i4 : w1.cell? ⟨s 0, 4, none⟩ = some (.pointer (some ⟨s 10, 0, none⟩)) := by rw [hW2.cell]; rfl
    have ib : w1.cell? ⟨w.heap.size, 3, none⟩ = some (.slice ao L.length cap) := by
      rw [hb.cell (p := ⟨w.heap.size, 3, none⟩) (by simp)]
      simp
    have hbw1 := hJ2.base_le
    obtain ⟨ao1, cap1, rfl, _, _⟩ := (Rd.of_own hown).form
    clear hJ2 hown hb hOb hR2 hc1 hc2 hW2 c0 c1 c2 c3 c4 c5 c6
    go_wp2_with fail
    refine HC1.out.mono ?_
    rintro e w2 ⟨rfl, hM, hl1⟩
    have HM := Lib.hid hM
    have HB3 := Lib.hid (HB2.out.trans (HJ2.out.belowP hl1))
    have hz2 := hl1.size
    have HO2 := Lib.hid (own_left HO.out hl1 (fun k hk => by obtain ⟨j, _, h2, rfl⟩ := PL_mem hk; exact HLT.out j (by omega)))
    have j1 := cell_left' i1 hl1 HNP.out
    have j4 := cell_left' i4 hl1 HNP.out
    have jb := cell_left' ib hl1 HPB.out
    clear hM hl1 i1 i4 ib
    go_upto_region 4 with fail
    have HCD := Lib.hid (HC2.out w2 w2.drew HM.out (Left.refl [] _).drew)
    refine wp_region_held_drew (S := fun wx => wx.cell? ⟨s 0, 4, none⟩ = some (.pointer (some ⟨s 10, 0, none⟩)) ∧ wx.cell? ⟨w.heap.size, 3, none⟩ = some (.slice ao L.length cap)) (by kernel_rfl) ⟨j4, jb⟩ (fun hHeld => ?_)
    refine take_h 0 ⟨?_, ?_, ?_, by kernel_rfl, by kernel_rfl, by kernel_rfl, ?_, ?_, by assumption, ?_⟩
    rotate_left 2
    · (simp only [List.getElem?_toArray, List.getElem?_cons_zero]; exact rfl)
    · exact fun _ _ _ h => h
    · first
        | (refine Or.inr ⟨by rfl, ?_⟩; exact rfl)
        | (refine Or.inl ⟨by rfl, ?_⟩
           intro w hSw
           (try dsimp only at hSw)
           (try go_split_ands)
           go_simp
           (first | done | with_reducible rfl))
    try simp only [Act.put, List.setIfInBounds_toArray, List.set_cons_zero, List.set_cons_succ]
    refine take_h 1 ⟨?_, ?_, ?_, by kernel_rfl, by kernel_rfl, by kernel_rfl, ?_, ?_, by assumption, ?_⟩
    rotate_left 2
    · (simp only [List.getElem?_toArray, List.getElem?_cons_succ, List.getElem?_cons_zero]; exact rfl)
    · exact fun _ _ _ h => h
    · first
        | (refine Or.inr ⟨by rfl, ?_⟩; exact rfl)
        | (refine Or.inl ⟨by rfl, ?_⟩
           intro w hSw
           (try dsimp only at hSw)
           (try go_split_ands)
           go_simp
           (first | done | with_reducible rfl))
    try simp only [Act.put, List.setIfInBounds_toArray, List.set_cons_zero, List.set_cons_succ]
    refine take_h 2 ⟨?_, ?_, ?_, by kernel_rfl, by kernel_rfl, by kernel_rfl, ?_, ?_, by assumption, ?_⟩
    rotate_left 2
    · (simp only [List.getElem?_toArray, List.getElem?_cons_succ, List.getElem?_cons_zero]; exact rfl)
    · exact fun _ _ _ h => h
    · first
        | (refine Or.inr ⟨by rfl, ?_⟩; exact rfl)
        | (refine Or.inl ⟨by rfl, ?_⟩
           intro w hSw
           (try dsimp only at hSw)
           (try go_split_ands)
           go_simp
           (first | done | with_reducible rfl))
    try simp only [Act.put, List.setIfInBounds_toArray, List.set_cons_zero, List.set_cons_succ]
    refine take_h 3 ⟨?_, ?_, ?_, by kernel_rfl, by kernel_rfl, by kernel_rfl, ?_, ?_, by assumption, ?_⟩
    rotate_left 2
    · (simp only [List.getElem?_toArray, List.getElem?_cons_succ, List.getElem?_cons_zero]; exact rfl)
    · exact fun _ _ _ h => h
    · first
        | (refine Or.inr ⟨by rfl, ?_⟩; exact rfl)
        | (refine Or.inl ⟨by rfl, ?_⟩
           intro w hSw
           (try dsimp only at hSw)
           (try go_split_ands)
           go_simp
           (first | done | with_reducible rfl))
    try simp only [Act.put, List.setIfInBounds_toArray, List.set_cons_zero, List.set_cons_succ]
    refine take_h 4 ⟨?_, ?_, ?_, by kernel_rfl, by kernel_rfl, by kernel_rfl, ?_, ?_, by assumption, ?_⟩
    rotate_left 2
    · (simp only [List.getElem?_toArray, List.getElem?_cons_succ, List.getElem?_cons_zero]; exact rfl)
    · exact fun _ _ _ h => h
    · first
        | (refine Or.inr ⟨by rfl, ?_⟩; exact rfl)
        | (refine Or.inl ⟨by rfl, ?_⟩
           intro w hSw
           (try dsimp only at hSw)
           (try go_split_ands)
           go_simp
           (first | done | with_reducible rfl))
    try simp only [Act.put, List.setIfInBounds_toArray, List.set_cons_zero, List.set_cons_succ]
    refine take_h 5 ⟨?_, ?_, ?_, by kernel_rfl, by kernel_rfl, by kernel_rfl, ?_, ?_, by assumption, ?_⟩
    rotate_left 2
    · (simp only [List.getElem?_toArray, List.getElem?_cons_succ, List.getElem?_cons_zero]; exact rfl)
    · exact fun _ _ _ h => h
    · first
        | (refine Or.inr ⟨by rfl, ?_⟩; exact rfl)
        | (refine Or.inl ⟨by rfl, ?_⟩
           intro w hSw
           (try dsimp only at hSw)
           (try go_split_ands)
           go_simp
           (first | done | with_reducible rfl))
    try simp only [Act.put, List.setIfInBounds_toArray, List.set_cons_zero, List.set_cons_succ]
    refine wpAnyH_ready (rs := [6]) (by kernel_rfl) (by simp) ?_
    refine call_h 6 ⟨?_, ?_, fun K hK => ?_⟩
    rotate_left 1
    · (simp only [List.getElem?_toArray, List.getElem?_cons_succ, List.getElem?_cons_zero]; exact rfl)
    go_simp
    (go_at_call 80; refine HCD.out.mono ?_; rintro e w3 ⟨rfl, hJ3, hl2⟩)
    go_wp2_with fail
    have HJ3 := Lib.hid hJ3
    have hl2' : Left (QL s) w2 w3 := ⟨hl2.os, hl2.tape, hl2.output, hl2.size, hl2.block⟩
    have HB4 := Lib.hid (HB3.out.trans (HJ2.out.belowQ (Nat.le_trans hbw1 hz2) hl2'))
    have hz3 := hl2'.size
    have HO3 := Lib.hid (own_left HO2.out hl2' (fun k hk => by obtain ⟨j, _, h2, rfl⟩ := QL_mem hk; exact HLT.out j h2))
    have l4 := cell_left' j4 hl2' HNQ.out
    have lb := cell_left' jb hl2' HQB.out
    have hW3 := hJ3.hal.1
    have e1 : w3.cell? ⟨s 0, 1, none⟩ = some (.pointer (some ⟨s 1, 0, none⟩)) := by rw [hW3.cell]; rfl
    have e4 : w3.cell? ⟨s 0, 4, none⟩ = some (.pointer (some ⟨s 10, 0, none⟩)) := by rw [hW3.cell]; rfl
    have HR3 := Lib.hid (HL0.out.below HB4.out)
    clear hJ3 hl2 hl2' hW3 j4 jb
    refine hK.out _ _ ⟨l4, lb⟩ (fun hHeld => ?_)
    clear hK K
    (try simp only [Act.put, List.setIfInBounds_toArray, List.set_cons_zero, List.set_cons_succ])
    refine take_h 7 ⟨?_, ?_, ?_, by kernel_rfl, by kernel_rfl, by kernel_rfl, ?_, ?_, by assumption, ?_⟩
    rotate_left 2
    · (simp only [List.getElem?_toArray, List.getElem?_cons_succ, List.getElem?_cons_zero]; exact rfl)
    · exact fun _ _ _ h => h
    · first
        | (refine Or.inr ⟨by rfl, ?_⟩; exact rfl)
        | (refine Or.inl ⟨by rfl, ?_⟩
           intro w hSw
           (try dsimp only at hSw)
           (try go_split_ands)
           go_simp
           (first | done | with_reducible rfl))
    try simp only [Act.put, List.setIfInBounds_toArray, List.set_cons_zero, List.set_cons_succ]
    refine take_h 8 ⟨?_, ?_, ?_, by kernel_rfl, by kernel_rfl, by kernel_rfl, ?_, ?_, by assumption, ?_⟩
    rotate_left 2
    · (simp only [List.getElem?_toArray, List.getElem?_cons_succ, List.getElem?_cons_zero]; exact rfl)
    · exact fun _ _ _ h => h
    · first
        | (refine Or.inr ⟨by rfl, ?_⟩; exact rfl)
        | (refine Or.inl ⟨by rfl, ?_⟩
           intro w hSw
           (try dsimp only at hSw)
           (try go_split_ands)
           go_simp
           (first | done | with_reducible rfl))
    try simp only [Act.put, List.setIfInBounds_toArray, List.set_cons_zero, List.set_cons_succ]
    refine take_h 9 ⟨?_, ?_, ?_, by kernel_rfl, by kernel_rfl, by kernel_rfl, ?_, ?_, by assumption, ?_⟩
    rotate_left 2
    · (simp only [List.getElem?_toArray, List.getElem?_cons_succ, List.getElem?_cons_zero]; exact rfl)
    · exact fun _ _ _ h => h
    · first
        | (refine Or.inr ⟨by rfl, ?_⟩; exact rfl)
        | (refine Or.inl ⟨by rfl, ?_⟩
           intro w hSw
           (try dsimp only at hSw)
           (try go_split_ands)
           go_simp
           (first | done | with_reducible rfl))
    try simp only [Act.put, List.setIfInBounds_toArray, List.set_cons_zero, List.set_cons_succ]
    refine take_h 10 ⟨?_, ?_, ?_, by kernel_rfl, by kernel_rfl, by kernel_rfl, ?_, ?_, by assumption, ?_⟩
    rotate_left 2
    · (simp only [List.getElem?_toArray, List.getElem?_cons_succ, List.getElem?_cons_zero]; exact rfl)
    · exact fun _ _ _ h => h
    · first
        | (refine Or.inr ⟨by rfl, ?_⟩; exact rfl)
        | (refine Or.inl ⟨by rfl, ?_⟩
           intro w hSw
           (try dsimp only at hSw)
           (try go_split_ands)
           go_simp
           (first | done | with_reducible rfl))
    try simp only [Act.put, List.setIfInBounds_toArray, List.set_cons_zero, List.set_cons_succ]
    refine take_h 11 ⟨?_, ?_, ?_, by kernel_rfl, by kernel_rfl, by kernel_rfl, ?_, ?_, by assumption, ?_⟩
    rotate_left 2
    · (simp only [List.getElem?_toArray, List.getElem?_cons_succ, List.getElem?_cons_zero]; exact rfl)
    · exact fun _ _ _ h => h
    · first
        | (refine Or.inr ⟨by rfl, ?_⟩; exact rfl)
        | (refine Or.inl ⟨by rfl, ?_⟩
           intro w hSw
           (try dsimp only at hSw)
           (try go_split_ands)
           go_simp
           (first | done | with_reducible rfl))
    try simp only [Act.put, List.setIfInBounds_toArray, List.set_cons_zero, List.set_cons_succ]
    refine wpAnyH_done (by kernel_rfl) ?_ _
    clear hHeld
    go_wp2_with (go_at_call 16; refine (num2_any _ _).mono ?_; rintro e w' ⟨rfl, rfl⟩)
    have hE := EqBufs_any w3 (.slice ao1 L.length cap1) (.slice ao L.length cap) L L _ _ (Rd.of_own HO3.out) HR3.out rfl
    refine hE.mono ?_
    rintro e w4 ⟨rfl, hl4⟩
    have HJ4 := Lib.hid (HJ3.out.left0 hl4)
    have HB5 := Lib.hid (HB4.out.trans (hl4.belowB (by omega) (by simp)))
    have hW4 := HJ4.out.hal.1
    have e1 : w4.cell? ⟨s 0, 1, none⟩ = some (.pointer (some ⟨s 1, 0, none⟩)) := by rw [hW4.cell]; rfl
    have e4 : w4.cell? ⟨s 0, 4, none⟩ = some (.pointer (some ⟨s 10, 0, none⟩)) := by rw [hW4.cell]; rfl
    clear hE hl4 hW4 lb l4
    obtain ⟨fn, hf1, hf2⟩ := HJ4.out.free
    have HF1 := Lib.hid hf1
    have HF2 := Lib.hid hf2
    clear hf1 hf2
    go_wp2_with fail
    go_quiet ((first | (go_at_call 39; exact Calls.quiet_of_same (HF1.out _)) | (go_at_call 81; exact Calls.quiet_of_same (HF2.out _))))
    go_wp2
    go_ret
    exact ⟨rfl, ⟨_, _, HJ4.out.left0 ((Left.refl _ _).drewN _), by first | (simp; done) | (simp; omega)⟩, below_drewN HB5.out _⟩
  · go_enter Try.func48, Try.ntmps48
    go_wp2_with fail
    refine (CopyBufs_any (w.alloc (.cells #[.int .i64 dk, .int .i64 n, .int .i64 at_, .slice ao L.length cap, .int .u64 v] 77)) (.slice ao L.length cap) L base HLD.out hbA (by omega)).mono ?_
    rintro e w1 ⟨v1, rfl, hown, hb⟩
    have hJ2 := HJ1.out.left0 (Left.of_below hb [])
    have hz1 := hb.size
    have hOb := World.ownsRow.lt hown
    have hR2 := HLD.out.below (hb.mono hbA)
    obtain ⟨x, er, M, hc1, hc2⟩ := hJ2.add (Rd.of_own hown) (fun k hk i hi => by have h1 := (hOb k hk).1; have h2 := HLT.out i hi; omega) hR2
    have HB2 := Lib.hid (HB1.out.trans (hb.mono hbA))
    have HJ2 := Lib.hid hJ2
    have HO := Lib.hid hown
    have HR2 := Lib.hid hR2
    have HC1 := Lib.hid hc1
    have HC2 := Lib.hid hc2
    have hW2 := hJ2.hal.1
    have i1 : w1.cell? ⟨s 0, 1, none⟩ = some (.pointer (some ⟨s 1, 0, none⟩)) := by rw [hW2.cell]; rfl
    have i4 : w1.cell? ⟨s 0, 4, none⟩ = some (.pointer (some ⟨s 10, 0, none⟩)) := by rw [hW2.cell]; rfl
    have ib : w1.cell? ⟨w.heap.size, 3, none⟩ = some (.slice ao L.length cap) := by
      rw [hb.cell (p := ⟨w.heap.size, 3, none⟩) (by simp)]
      simp
    have hbw1 := hJ2.base_le
    obtain ⟨ao1, cap1, rfl, _, _⟩ := (Rd.of_own hown).form
    clear hJ2 hown hb hOb hR2 hc1 hc2 hW2 c0 c1 c2 c3 c4 c5 c6
    go_wp2_with fail
    refine HC1.out.mono ?_
    rintro e w2 ⟨rfl, hM, hl1⟩
    have HM := Lib.hid hM
    have HB3 := Lib.hid (HB2.out.trans (HJ2.out.belowP hl1))
    have hz2 := hl1.size
    have HO2 := Lib.hid (own_left HO.out hl1 (fun k hk => by obtain ⟨j, _, h2, rfl⟩ := PL_mem hk; exact HLT.out j (by omega)))
    have j1 := cell_left' i1 hl1 HNP.out
    have j4 := cell_left' i4 hl1 HNP.out
    have jb := cell_left' ib hl1 HPB.out
    clear hM hl1 i1 i4 ib
    go_upto_region 4 with fail
    have HCD := Lib.hid (HC2.out w2 w2.drew HM.out (Left.refl [] _).drew)
    refine wp_region_held_drew (S := fun wx => wx.cell? ⟨s 0, 4, none⟩ = some (.pointer (some ⟨s 10, 0, none⟩)) ∧ wx.cell? ⟨w.heap.size, 3, none⟩ = some (.slice ao L.length cap)) (by kernel_rfl) ⟨j4, jb⟩ (fun hHeld => ?_)
    refine take_h 0 ⟨?_, ?_, ?_, by kernel_rfl, by kernel_rfl, by kernel_rfl, ?_, ?_, by assumption, ?_⟩
    rotate_left 2
    · (simp only [List.getElem?_toArray, List.getElem?_cons_zero]; exact rfl)
    · exact fun _ _ _ h => h
    · first
        | (refine Or.inr ⟨by rfl, ?_⟩; exact rfl)
        | (refine Or.inl ⟨by rfl, ?_⟩
           intro w hSw
           (try dsimp only at hSw)
           (try go_split_ands)
           go_simp
           (first | done | with_reducible rfl))
    try simp only [Act.put, List.setIfInBounds_toArray, List.set_cons_zero, List.set_cons_succ]
    refine take_h 1 ⟨?_, ?_, ?_, by kernel_rfl, by kernel_rfl, by kernel_rfl, ?_, ?_, by assumption, ?_⟩
    rotate_left 2
    · (simp only [List.getElem?_toArray, List.getElem?_cons_succ, List.getElem?_cons_zero]; exact rfl)
    · exact fun _ _ _ h => h
    · first
        | (refine Or.inr ⟨by rfl, ?_⟩; exact rfl)
        | (refine Or.inl ⟨by rfl, ?_⟩
           intro w hSw
           (try dsimp only at hSw)
           (try go_split_ands)
           go_simp
           (first | done | with_reducible rfl))
    try simp only [Act.put, List.setIfInBounds_toArray, List.set_cons_zero, List.set_cons_succ]
    refine take_h 2 ⟨?_, ?_, ?_, by kernel_rfl, by kernel_rfl, by kernel_rfl, ?_, ?_, by assumption, ?_⟩
    rotate_left 2
    · (simp only [List.getElem?_toArray, List.getElem?_cons_succ, List.getElem?_cons_zero]; exact rfl)
    · exact fun _ _ _ h => h
    · first
        | (refine Or.inr ⟨by rfl, ?_⟩; exact rfl)
        | (refine Or.inl ⟨by rfl, ?_⟩
           intro w hSw
           (try dsimp only at hSw)
           (try go_split_ands)
           go_simp
           (first | done | with_reducible rfl))
    try simp only [Act.put, List.setIfInBounds_toArray, List.set_cons_zero, List.set_cons_succ]
    refine take_h 3 ⟨?_, ?_, ?_, by kernel_rfl, by kernel_rfl, by kernel_rfl, ?_, ?_, by assumption, ?_⟩
    rotate_left 2
    · (simp only [List.getElem?_toArray, List.getElem?_cons_succ, List.getElem?_cons_zero]; exact rfl)
    · exact fun _ _ _ h => h
    · first
        | (refine Or.inr ⟨by rfl, ?_⟩; exact rfl)
        | (refine Or.inl ⟨by rfl, ?_⟩
           intro w hSw
           (try dsimp only at hSw)
           (try go_split_ands)
           go_simp
           (first | done | with_reducible rfl))
    try simp only [Act.put, List.setIfInBounds_toArray, List.set_cons_zero, List.set_cons_succ]
    refine take_h 4 ⟨?_, ?_, ?_, by kernel_rfl, by kernel_rfl, by kernel_rfl, ?_, ?_, by assumption, ?_⟩
    rotate_left 2
    · (simp only [List.getElem?_toArray, List.getElem?_cons_succ, List.getElem?_cons_zero]; exact rfl)
    · exact fun _ _ _ h => h
    · first
        | (refine Or.inr ⟨by rfl, ?_⟩; exact rfl)
        | (refine Or.inl ⟨by rfl, ?_⟩
           intro w hSw
           (try dsimp only at hSw)
           (try go_split_ands)
           go_simp
           (first | done | with_reducible rfl))
    try simp only [Act.put, List.setIfInBounds_toArray, List.set_cons_zero, List.set_cons_succ]
    refine take_h 5 ⟨?_, ?_, ?_, by kernel_rfl, by kernel_rfl, by kernel_rfl, ?_, ?_, by assumption, ?_⟩
    rotate_left 2
    · (simp only [List.getElem?_toArray, List.getElem?_cons_succ, List.getElem?_cons_zero]; exact rfl)
    · exact fun _ _ _ h => h
    · first
        | (refine Or.inr ⟨by rfl, ?_⟩; exact rfl)
        | (refine Or.inl ⟨by rfl, ?_⟩
           intro w hSw
           (try dsimp only at hSw)
           (try go_split_ands)
           go_simp
           (first | done | with_reducible rfl))
    try simp only [Act.put, List.setIfInBounds_toArray, List.set_cons_zero, List.set_cons_succ]
    refine wpAnyH_ready (rs := [6]) (by kernel_rfl) (by simp) ?_
    refine call_h 6 ⟨?_, ?_, fun K hK => ?_⟩
    rotate_left 1
    · (simp only [List.getElem?_toArray, List.getElem?_cons_succ, List.getElem?_cons_zero]; exact rfl)
    go_simp
    (go_at_call 80; refine HCD.out.mono ?_; rintro e w3 ⟨rfl, hJ3, hl2⟩)
    go_wp2_with fail
    have HJ3 := Lib.hid hJ3
    have hl2' : Left (QL s) w2 w3 := ⟨hl2.os, hl2.tape, hl2.output, hl2.size, hl2.block⟩
    have HB4 := Lib.hid (HB3.out.trans (HJ2.out.belowQ (Nat.le_trans hbw1 hz2) hl2'))
    have hz3 := hl2'.size
    have HO3 := Lib.hid (own_left HO2.out hl2' (fun k hk => by obtain ⟨j, _, h2, rfl⟩ := QL_mem hk; exact HLT.out j h2))
    have l4 := cell_left' j4 hl2' HNQ.out
    have lb := cell_left' jb hl2' HQB.out
    have hW3 := hJ3.hal.1
    have e1 : w3.cell? ⟨s 0, 1, none⟩ = some (.pointer (some ⟨s 1, 0, none⟩)) := by rw [hW3.cell]; rfl
    have e4 : w3.cell? ⟨s 0, 4, none⟩ = some (.pointer (some ⟨s 10, 0, none⟩)) := by rw [hW3.cell]; rfl
    have HR3 := Lib.hid (HL0.out.below HB4.out)
    clear hJ3 hl2 hl2' hW3 j4 jb
    refine hK.out _ _ ⟨l4, lb⟩ (fun hHeld => ?_)
    clear hK K
    (try simp only [Act.put, List.setIfInBounds_toArray, List.set_cons_zero, List.set_cons_succ])
    refine take_h 7 ⟨?_, ?_, ?_, by kernel_rfl, by kernel_rfl, by kernel_rfl, ?_, ?_, by assumption, ?_⟩
    rotate_left 2
    · (simp only [List.getElem?_toArray, List.getElem?_cons_succ, List.getElem?_cons_zero]; exact rfl)
    · exact fun _ _ _ h => h
    · first
        | (refine Or.inr ⟨by rfl, ?_⟩; exact rfl)
        | (refine Or.inl ⟨by rfl, ?_⟩
           intro w hSw
           (try dsimp only at hSw)
           (try go_split_ands)
           go_simp
           (first | done | with_reducible rfl))
    try simp only [Act.put, List.setIfInBounds_toArray, List.set_cons_zero, List.set_cons_succ]
    refine take_h 8 ⟨?_, ?_, ?_, by kernel_rfl, by kernel_rfl, by kernel_rfl, ?_, ?_, by assumption, ?_⟩
    rotate_left 2
    · (simp only [List.getElem?_toArray, List.getElem?_cons_succ, List.getElem?_cons_zero]; exact rfl)
    · exact fun _ _ _ h => h
    · first
        | (refine Or.inr ⟨by rfl, ?_⟩; exact rfl)
        | (refine Or.inl ⟨by rfl, ?_⟩
           intro w hSw
           (try dsimp only at hSw)
           (try go_split_ands)
           go_simp
           (first | done | with_reducible rfl))
    try simp only [Act.put, List.setIfInBounds_toArray, List.set_cons_zero, List.set_cons_succ]
    refine take_h 9 ⟨?_, ?_, ?_, by kernel_rfl, by kernel_rfl, by kernel_rfl, ?_, ?_, by assumption, ?_⟩
    rotate_left 2
    · (simp only [List.getElem?_toArray, List.getElem?_cons_succ, List.getElem?_cons_zero]; exact rfl)
    · exact fun _ _ _ h => h
    · first
        | (refine Or.inr ⟨by rfl, ?_⟩; exact rfl)
        | (refine Or.inl ⟨by rfl, ?_⟩
           intro w hSw
           (try dsimp only at hSw)
           (try go_split_ands)
           go_simp
           (first | done | with_reducible rfl))
    try simp only [Act.put, List.setIfInBounds_toArray, List.set_cons_zero, List.set_cons_succ]
    refine take_h 10 ⟨?_, ?_, ?_, by kernel_rfl, by kernel_rfl, by kernel_rfl, ?_, ?_, by assumption, ?_⟩
    rotate_left 2
    · (simp only [List.getElem?_toArray, List.getElem?_cons_succ, List.getElem?_cons_zero]; exact rfl)
    · exact fun _ _ _ h => h
    · first
        | (refine Or.inr ⟨by rfl, ?_⟩; exact rfl)
        | (refine Or.inl ⟨by rfl, ?_⟩
           intro w hSw
           (try dsimp only at hSw)
           (try go_split_ands)
           go_simp
           (first | done | with_reducible rfl))
    try simp only [Act.put, List.setIfInBounds_toArray, List.set_cons_zero, List.set_cons_succ]
    refine take_h 11 ⟨?_, ?_, ?_, by kernel_rfl, by kernel_rfl, by kernel_rfl, ?_, ?_, by assumption, ?_⟩
    rotate_left 2
    · (simp only [List.getElem?_toArray, List.getElem?_cons_succ, List.getElem?_cons_zero]; exact rfl)
    · exact fun _ _ _ h => h
    · first
        | (refine Or.inr ⟨by rfl, ?_⟩; exact rfl)
        | (refine Or.inl ⟨by rfl, ?_⟩
           intro w hSw
           (try dsimp only at hSw)
           (try go_split_ands)
           go_simp
           (first | done | with_reducible rfl))
    try simp only [Act.put, List.setIfInBounds_toArray, List.set_cons_zero, List.set_cons_succ]
    refine wpAnyH_done (by kernel_rfl) ?_ _
    clear hHeld
    go_wp2_with (go_at_call 16; refine (num2_any _ _).mono ?_; rintro e w' ⟨rfl, rfl⟩)
    have hE := EqBufs_any w3 (.slice ao1 L.length cap1) (.slice ao L.length cap) L L _ _ (Rd.of_own HO3.out) HR3.out rfl
    refine hE.mono ?_
    rintro e w4 ⟨rfl, hl4⟩
    have HJ4 := Lib.hid (HJ3.out.left0 hl4)
    have HB5 := Lib.hid (HB4.out.trans (hl4.belowB (by omega) (by simp)))
    have hW4 := HJ4.out.hal.1
    have e1 : w4.cell? ⟨s 0, 1, none⟩ = some (.pointer (some ⟨s 1, 0, none⟩)) := by rw [hW4.cell]; rfl
    have e4 : w4.cell? ⟨s 0, 4, none⟩ = some (.pointer (some ⟨s 10, 0, none⟩)) := by rw [hW4.cell]; rfl
    clear hE hl4 hW4 lb l4
    obtain ⟨fn, hf1, hf2⟩ := HJ4.out.free
    have HF1 := Lib.hid hf1
    have HF2 := Lib.hid hf2
    clear hf1 hf2
    go_wp2_with fail
    go_quiet ((first | (go_at_call 39; exact Calls.quiet_of_same (HF1.out _)) | (go_at_call 81; exact Calls.quiet_of_same (HF2.out _))))
    go_wp2
    go_ret
    exact ⟨rfl, ⟨_, _, HJ4.out.left0 ((Left.refl _ _).drewN _), by first | (simp; done) | (simp; omega)⟩, below_drewN HB5.out _⟩
  · go_enter Try.func48, Try.ntmps48
    go_wp2_with fail
    refine (CopyBufs_any (w.alloc (.cells #[.int .i64 dk, .int .i64 n, .int .i64 at_, .slice ao L.length cap, .int .u64 v] 77)) (.slice ao L.length cap) L base HLD.out hbA (by omega)).mono ?_
    rintro e w1 ⟨v1, rfl, hown, hb⟩
    have hJ2 := HJ1.out.left0 (Left.of_below hb [])
    have hz1 := hb.size
    have hOb := World.ownsRow.lt hown
    have hR2 := HLD.out.below (hb.mono hbA)
    obtain ⟨x, er, M, hc1, hc2⟩ := hJ2.add (Rd.of_own hown) (fun k hk i hi => by have h1 := (hOb k hk).1; have h2 := HLT.out i hi; omega) hR2
    have HB2 := Lib.hid (HB1.out.trans (hb.mono hbA))
    have HJ2 := Lib.hid hJ2
    have HO := Lib.hid hown
    have HR2 := Lib.hid hR2
    have HC1 := Lib.hid hc1
    have HC2 := Lib.hid hc2
    have hW2 := hJ2.hal.1
    have i1 : w1.cell? ⟨s 0, 1, none⟩ = some (.pointer (some ⟨s 1, 0, none⟩)) := by rw [hW2.cell]; rfl
    have i4 : w1.cell? ⟨s 0, 4, none⟩ = some (.pointer (some ⟨s 10, 0, none⟩)) := by rw [hW2.cell]; rfl
    have ib : w1.cell? ⟨w.heap.size, 3, none⟩ = some (.slice ao L.length cap) := by
      rw [hb.cell (p := ⟨w.heap.size, 3, none⟩) (by simp)]
      simp
    have hbw1 := hJ2.base_le
    obtain ⟨ao1, cap1, rfl, _, _⟩ := (Rd.of_own hown).form
    clear hJ2 hown hb hOb hR2 hc1 hc2 hW2 c0 c1 c2 c3 c4 c5 c6
    go_wp2_with fail
    refine HC1.out.mono ?_
    rintro e w2 ⟨rfl, hM, hl1⟩
    have HM := Lib.hid hM
    have HB3 := Lib.hid (HB2.out.trans (HJ2.out.belowP hl1))
    have hz2 := hl1.size
    have HO2 := Lib.hid (own_left HO.out hl1 (fun k hk => by obtain ⟨j, _, h2, rfl⟩ := PL_mem hk; exact HLT.out j (by omega)))
    have j1 := cell_left' i1 hl1 HNP.out
    have j4 := cell_left' i4 hl1 HNP.out
    have jb := cell_left' ib hl1 HPB.out
    clear hM hl1 i1 i4 ib
    go_upto_region 4 with fail
    have HCD := Lib.hid (HC2.out w2 w2.drew HM.out (Left.refl [] _).drew)
    refine wp_region_held_drew (S := fun wx => wx.cell? ⟨s 0, 4, none⟩ = some (.pointer (some ⟨s 10, 0, none⟩)) ∧ wx.cell? ⟨w.heap.size, 3, none⟩ = some (.slice ao L.length cap)) (by kernel_rfl) ⟨j4, jb⟩ (fun hHeld => ?_)
    refine take_h 0 ⟨?_, ?_, ?_, by kernel_rfl, by kernel_rfl, by kernel_rfl, ?_, ?_, by assumption, ?_⟩
    rotate_left 2
    · (simp only [List.getElem?_toArray, List.getElem?_cons_zero]; exact rfl)
    · exact fun _ _ _ h => h
    · first
        | (refine Or.inr ⟨by rfl, ?_⟩; exact rfl)
        | (refine Or.inl ⟨by rfl, ?_⟩
           intro w hSw
           (try dsimp only at hSw)
           (try go_split_ands)
           go_simp
           (first | done | with_reducible rfl))
    try simp only [Act.put, List.setIfInBounds_toArray, List.set_cons_zero, List.set_cons_succ]
    refine take_h 1 ⟨?_, ?_, ?_, by kernel_rfl, by kernel_rfl, by kernel_rfl, ?_, ?_, by assumption, ?_⟩
    rotate_left 2
    · (simp only [List.getElem?_toArray, List.getElem?_cons_succ, List.getElem?_cons_zero]; exact rfl)
    · exact fun _ _ _ h => h
    · first
        | (refine Or.inr ⟨by rfl, ?_⟩; exact rfl)
        | (refine Or.inl ⟨by rfl, ?_⟩
           intro w hSw
           (try dsimp only at hSw)
           (try go_split_ands)
           go_simp
           (first | done | with_reducible rfl))
    try simp only [Act.put, List.setIfInBounds_toArray, List.set_cons_zero, List.set_cons_succ]
    refine take_h 2 ⟨?_, ?_, ?_, by kernel_rfl, by kernel_rfl, by kernel_rfl, ?_, ?_, by assumption, ?_⟩
    rotate_left 2
    · (simp only [List.getElem?_toArray, List.getElem?_cons_succ, List.getElem?_cons_zero]; exact rfl)
    · exact fun _ _ _ h => h
    · first
        | (refine Or.inr ⟨by rfl, ?_⟩; exact rfl)
        | (refine Or.inl ⟨by rfl, ?_⟩
           intro w hSw
           (try dsimp only at hSw)
           (try go_split_ands)
           go_simp
           (first | done | with_reducible rfl))
    try simp only [Act.put, List.setIfInBounds_toArray, List.set_cons_zero, List.set_cons_succ]
    refine take_h 3 ⟨?_, ?_, ?_, by kernel_rfl, by kernel_rfl, by kernel_rfl, ?_, ?_, by assumption, ?_⟩
    rotate_left 2
    · (simp only [List.getElem?_toArray, List.getElem?_cons_succ, List.getElem?_cons_zero]; exact rfl)
    · exact fun _ _ _ h => h
    · first
        | (refine Or.inr ⟨by rfl, ?_⟩; exact rfl)
        | (refine Or.inl ⟨by rfl, ?_⟩
           intro w hSw
           (try dsimp only at hSw)
           (try go_split_ands)
           go_simp
           (first | done | with_reducible rfl))
    try simp only [Act.put, List.setIfInBounds_toArray, List.set_cons_zero, List.set_cons_succ]
    refine take_h 4 ⟨?_, ?_, ?_, by kernel_rfl, by kernel_rfl, by kernel_rfl, ?_, ?_, by assumption, ?_⟩
    rotate_left 2
    · (simp only [List.getElem?_toArray, List.getElem?_cons_succ, List.getElem?_cons_zero]; exact rfl)
    · exact fun _ _ _ h => h
    · first
        | (refine Or.inr ⟨by rfl, ?_⟩; exact rfl)
        | (refine Or.inl ⟨by rfl, ?_⟩
           intro w hSw
           (try dsimp only at hSw)
           (try go_split_ands)
           go_simp
           (first | done | with_reducible rfl))
    try simp only [Act.put, List.setIfInBounds_toArray, List.set_cons_zero, List.set_cons_succ]
    refine take_h 5 ⟨?_, ?_, ?_, by kernel_rfl, by kernel_rfl, by kernel_rfl, ?_, ?_, by assumption, ?_⟩
    rotate_left 2
    · (simp only [List.getElem?_toArray, List.getElem?_cons_succ, List.getElem?_cons_zero]; exact rfl)
    · exact fun _ _ _ h => h
    · first
        | (refine Or.inr ⟨by rfl, ?_⟩; exact rfl)
        | (refine Or.inl ⟨by rfl, ?_⟩
           intro w hSw
           (try dsimp only at hSw)
           (try go_split_ands)
           go_simp
           (first | done | with_reducible rfl))
    try simp only [Act.put, List.setIfInBounds_toArray, List.set_cons_zero, List.set_cons_succ]
    refine wpAnyH_ready (rs := [6]) (by kernel_rfl) (by simp) ?_
    refine call_h 6 ⟨?_, ?_, fun K hK => ?_⟩
    rotate_left 1
    · (simp only [List.getElem?_toArray, List.getElem?_cons_succ, List.getElem?_cons_zero]; exact rfl)
    go_simp
    (go_at_call 80; refine HCD.out.mono ?_; rintro e w3 ⟨rfl, hJ3, hl2⟩)
    go_wp2_with fail
    have HJ3 := Lib.hid hJ3
    have hl2' : Left (QL s) w2 w3 := ⟨hl2.os, hl2.tape, hl2.output, hl2.size, hl2.block⟩
    have HB4 := Lib.hid (HB3.out.trans (HJ2.out.belowQ (Nat.le_trans hbw1 hz2) hl2'))
    have hz3 := hl2'.size
    have HO3 := Lib.hid (own_left HO2.out hl2' (fun k hk => by obtain ⟨j, _, h2, rfl⟩ := QL_mem hk; exact HLT.out j h2))
    have l4 := cell_left' j4 hl2' HNQ.out
    have lb := cell_left' jb hl2' HQB.out
    have hW3 := hJ3.hal.1
    have e1 : w3.cell? ⟨s 0, 1, none⟩ = some (.pointer (some ⟨s 1, 0, none⟩)) := by rw [hW3.cell]; rfl
    have e4 : w3.cell? ⟨s 0, 4, none⟩ = some (.pointer (some ⟨s 10, 0, none⟩)) := by rw [hW3.cell]; rfl
    have HR3 := Lib.hid (HL0.out.below HB4.out)
    clear hJ3 hl2 hl2' hW3 j4 jb
    refine hK.out _ _ ⟨l4, lb⟩ (fun hHeld => ?_)
    clear hK K
    (try simp only [Act.put, List.setIfInBounds_toArray, List.set_cons_zero, List.set_cons_succ])
    refine take_h 7 ⟨?_, ?_, ?_, by kernel_rfl, by kernel_rfl, by kernel_rfl, ?_, ?_, by assumption, ?_⟩
    rotate_left 2
    · (simp only [List.getElem?_toArray, List.getElem?_cons_succ, List.getElem?_cons_zero]; exact rfl)
    · exact fun _ _ _ h => h
    · first
        | (refine Or.inr ⟨by rfl, ?_⟩; exact rfl)
        | (refine Or.inl ⟨by rfl, ?_⟩
           intro w hSw
           (try dsimp only at hSw)
           (try go_split_ands)
           go_simp
           (first | done | with_reducible rfl))
    try simp only [Act.put, List.setIfInBounds_toArray, List.set_cons_zero, List.set_cons_succ]
    refine take_h 8 ⟨?_, ?_, ?_, by kernel_rfl, by kernel_rfl, by kernel_rfl, ?_, ?_, by assumption, ?_⟩
    rotate_left 2
    · (simp only [List.getElem?_toArray, List.getElem?_cons_succ, List.getElem?_cons_zero]; exact rfl)
    · exact fun _ _ _ h => h
    · first
        | (refine Or.inr ⟨by rfl, ?_⟩; exact rfl)
        | (refine Or.inl ⟨by rfl, ?_⟩
           intro w hSw
           (try dsimp only at hSw)
           (try go_split_ands)
           go_simp
           (first | done | with_reducible rfl))
    try simp only [Act.put, List.setIfInBounds_toArray, List.set_cons_zero, List.set_cons_succ]
    refine take_h 9 ⟨?_, ?_, ?_, by kernel_rfl, by kernel_rfl, by kernel_rfl, ?_, ?_, by assumption, ?_⟩
    rotate_left 2
    · (simp only [List.getElem?_toArray, List.getElem?_cons_succ, List.getElem?_cons_zero]; exact rfl)
    · exact fun _ _ _ h => h
    · first
        | (refine Or.inr ⟨by rfl, ?_⟩; exact rfl)
        | (refine Or.inl ⟨by rfl, ?_⟩
           intro w hSw
           (try dsimp only at hSw)
           (try go_split_ands)
           go_simp
           (first | done | with_reducible rfl))
    try simp only [Act.put, List.setIfInBounds_toArray, List.set_cons_zero, List.set_cons_succ]
    refine take_h 10 ⟨?_, ?_, ?_, by kernel_rfl, by kernel_rfl, by kernel_rfl, ?_, ?_, by assumption, ?_⟩
    rotate_left 2
    · (simp only [List.getElem?_toArray, List.getElem?_cons_succ, List.getElem?_cons_zero]; exact rfl)
    · exact fun _ _ _ h => h
    · first
        | (refine Or.inr ⟨by rfl, ?_⟩; exact rfl)
        | (refine Or.inl ⟨by rfl, ?_⟩
           intro w hSw
           (try dsimp only at hSw)
           (try go_split_ands)
           go_simp
           (first | done | with_reducible rfl))
    try simp only [Act.put, List.setIfInBounds_toArray, List.set_cons_zero, List.set_cons_succ]
    refine take_h 11 ⟨?_, ?_, ?_, by kernel_rfl, by kernel_rfl, by kernel_rfl, ?_, ?_, by assumption, ?_⟩
    rotate_left 2
    · (simp only [List.getElem?_toArray, List.getElem?_cons_succ, List.getElem?_cons_zero]; exact rfl)
    · exact fun _ _ _ h => h
    · first
        | (refine Or.inr ⟨by rfl, ?_⟩; exact rfl)
        | (refine Or.inl ⟨by rfl, ?_⟩
           intro w hSw
           (try dsimp only at hSw)
           (try go_split_ands)
           go_simp
           (first | done | with_reducible rfl))
    try simp only [Act.put, List.setIfInBounds_toArray, List.set_cons_zero, List.set_cons_succ]
    refine wpAnyH_done (by kernel_rfl) ?_ _
    clear hHeld
    go_wp2_with (go_at_call 16; refine (num2_any _ _).mono ?_; rintro e w' ⟨rfl, rfl⟩)
    have hE := EqBufs_any w3 (.slice ao1 L.length cap1) (.slice ao L.length cap) L L _ _ (Rd.of_own HO3.out) HR3.out rfl
    refine hE.mono ?_
    rintro e w4 ⟨rfl, hl4⟩
    have HJ4 := Lib.hid (HJ3.out.left0 hl4)
    have HB5 := Lib.hid (HB4.out.trans (hl4.belowB (by omega) (by simp)))
    have hW4 := HJ4.out.hal.1
    have e1 : w4.cell? ⟨s 0, 1, none⟩ = some (.pointer (some ⟨s 1, 0, none⟩)) := by rw [hW4.cell]; rfl
    have e4 : w4.cell? ⟨s 0, 4, none⟩ = some (.pointer (some ⟨s 10, 0, none⟩)) := by rw [hW4.cell]; rfl
    clear hE hl4 hW4 lb l4
    obtain ⟨fn, hf1, hf2⟩ := HJ4.out.free
    have HF1 := Lib.hid hf1
    have HF2 := Lib.hid hf2
    clear hf1 hf2
    go_wp2_with fail
    go_quiet ((first | (go_at_call 39; exact Calls.quiet_of_same (HF1.out _)) | (go_at_call 81; exact Calls.quiet_of_same (HF2.out _))))
    go_wp2
    go_ret
    exact ⟨rfl, ⟨_, _, HJ4.out.left0 ((Left.refl _ _).drewN _), by first | (simp; done) | (simp; omega)⟩, below_drewN HB5.out _⟩
end Go.Proofs.Ytfffehbipcikoaa
