/- KeptLast: the walk. -/


import Derived.Test.YtimjbojoeacaeaaDoorKpLastP
import Derived.Test.YtimjbojoeacaeaaDoorKpHeavy
import Derived.Test.YtimjbojoeacaeaaDoorKpWakes
import Derived.Outline
import Derived.Deep.DeepCutAuto
namespace Go.Proofs.YtimjbojoeacaeaaDoor
open Go.RowKit Go.Shelf Go.Proofs

theorem msg_eq {z y : Msg1} (h1 : z.f.toList = y.f.toList) (h2 : z.p.toList = y.p.toList) (h3 : z.q = y.q) (h4 : z.r = y.r) : z = y := by
  have e1 : z.f = y.f := by rw [Lib.toList_data, Lib.toList_data] at h1; rw [← bs_of z.f, ← bs_of y.f, h1]
  have e2 : z.p = y.p := by rw [Lib.toList_data, Lib.toList_data] at h2; rw [← bs_of z.p, ← bs_of y.p, h2]
  cases z
  cases y
  simp only at e1 e2 h3 h4
  rw [e1, e2, h3, h4]

theorem eq_msg (w : World) (z y : Msg1) : (binOp .eql 55 (.agg #[.string z.f, .string z.p, .int .i64 z.q, .bool z.r]) (.agg #[.string y.f, .string y.p, .int .i64 y.q, .bool y.r])).run Tryd.prog w = .ok (.bool (decide (z = y))) w := by
  by_cases e1 : z.f.toList = y.f.toList
  · by_cases e2 : z.p.toList = y.p.toList
    · by_cases e3 : z.q = y.q
      · by_cases e4 : z.r = y.r
        · rw [decide_eq_true (msg_eq e1 e2 e3 e4)]
          go_simp
        · rw [decide_eq_false (fun e => e4 (by rw [e]))]
          go_simp
      · rw [decide_eq_false (fun e => e3 (by rw [e]))]
        go_simp
    · rw [decide_eq_false (fun e => e2 (by rw [e]))]
      go_simp
  · rw [decide_eq_false (fun e => e1 (by rw [e]))]
    go_simp

set_option maxRecDepth 20000 in
set_option maxHeartbeats 4000000 in
theorem KeptLast_any (w : World) (sv lv : Value) (L : List Msg1) (A : List SAct) (hL : Rd w w.heap.size 4 sv L.length (wCells L)) (hR : ReachW L) (hA : ActsAt w w.heap.size lv A) (hl : L.length * 48 ≤ reachBytes) (hE : Env w) :
    Calls Tryd.prog 7 #[.agg #[sv, lv]] w fun e w' => e = .returned (.bool true) ∧ Below w.heap.size w w' := by
  have hb0 := (Below.refl w.heap.size w).alloc (Nat.le_refl _) (.cells #[sv, lv] 52)
  have hE0 := hE.below hb0
  have hz0 := hb0.size
  obtain ⟨ao, cap, rfl, hc1, hc2⟩ := hL.form
  have hc3 : cap ≤ 9223372036854775807 := by unfold maxLen at hc2; omega
  have HA0 := Lib.hid ((hA.below hb0).more hz0)
  obtain ⟨bo, cap2, rfl, hd1, hd2, hacts⟩ := hA
  have HL := Lib.hid (hL.below hb0)
  have HA := Lib.hid hacts
  have HR := Lib.hid hR
  have Hl := Lib.hid hl
  clear hL hacts hR hc2 hl
  go_enter Tryd.func7, Tryd.ntmps7
  go_wp2_with fail
  refine (heavy_any _ _ _ L A (HL.out.more hz0) HR.out HA0.out Hl.out).mono ?_
  rintro e w1 ⟨hv, rfl, hlight, hb1⟩
  have hbb1 := bel_tr hb0 hb1
  have HLI := Lib.hid hlight
  clear hlight
  cases hv
  · have hlt := HLI.out rfl
    have HLT := Lib.hid hlt
    have D1 := Lib.hid (show w1.cell? ⟨w.heap.size, 1, none⟩ = some (.slice bo A.length cap2) from cell_bel (by simp) hb1)
    clear hlt HLI
    have hw2z : w.heap.size + 1 ≤ w1.heap.size := by
      have z1 := hb1.size
      simp at z1
      omega
    go_wp2
    go_loopw [3, 4, 5, 6, 7, 8, 9, 10, 11, 12] (fun s3 i _ _ _ _ _ _ _ _ wr => ∃ (k : Nat) (M : List Msg1), k ≤ A.length ∧ k ≤ 25 ∧ i = .int .i64 k ∧ Rd wr wr.heap.size 4 s3 M.length (wCells M) ∧ Hid (subsB M = true) ∧ Short M ∧ Below (w.heap.size + 1) w1 wr) (fun _ i _ _ _ _ _ _ _ _ _ => A.length - (intOf i).toNat)
    case atStart => exact ⟨0, [], by omega, by omega, rfl, Rd.nil_ _ _ _, Lib.hid rfl, (fun i x hx => by simp at hx), Below.refl _ _⟩
    case round =>
      obtain ⟨k, M, hk1, hk2, rfl, hM, HSB, hSM, hbr⟩ := hrel
      have HM' := Lib.hid hM
      have HSM := Lib.hid hSM
      have hM16 := subsB_len HSB.out
      obtain ⟨ao3, cap3, rfl, hc31, hc32⟩ := hM.form
      have hc33 : cap3 ≤ 9223372036854775807 := by unfold maxLen at hc32; omega
      clear hM hSM hc32
      have e1 := (hbr.cell (p := ⟨w.heap.size, 1, none⟩) (by simp)).trans D1.out
      have hbw := hbb1.trans (hbr.mono (Nat.le_succ _))
      have hzr := hbr.size
      by_cases hlt : k < A.length ∧ k < 25
      · obtain ⟨hlt1, hlt2⟩ := hlt
        obtain ⟨a, ha⟩ : ∃ a, A[k]? = some a := ⟨_, List.getElem?_eq_getElem hlt1⟩
        obtain ⟨b, o, rfl, hbl, ⟨_, hc1', hc2', hc3', hc4', _⟩, _, _, _, _, _⟩ := HA.out k a ha
        obtain ⟨hfl, hpl, _⟩ := HLT.out.2.2.2 k a ha
        obtain ⟨_, ⟨mf, mp, mq, mr⟩, _⟩ := a
        simp only at hc1' hc2' hc3' hc4' hfl hpl
        have c1 := (hbw.cell (p := ⟨b, o + k * 6 + 1, none⟩) hbl).trans hc1'
        have c2 := (hbw.cell (p := ⟨b, o + k * 6 + 2, none⟩) hbl).trans hc2'
        have c3 := (hbw.cell (p := ⟨b, o + k * 6 + 3, none⟩) hbl).trans hc3'
        have c4 := (hbw.cell (p := ⟨b, o + k * 6 + 4, none⟩) hbl).trans hc4'
        clear hc1' hc2' hc3' hc4' ha
        go_upto_region 8 with fail
        obtain ⟨wa, hwa⟩ : ∃ wa, wa = wr.alloc (.cells #[.string mf, .string mp, .int .i64 mq, .bool mr] 55) := ⟨_, rfl⟩
        rw [← hwa]
        have hba : Below wr.heap.size wr wa := hwa ▸ (Below.refl wr.heap.size wr).alloc (Nat.le_refl _) _
        obtain ⟨g0, hg0⟩ : ∃ g0, g0 = wr.heap.size := ⟨_, rfl⟩
        have f0 : wa.cell? ⟨g0, 0, none⟩ = some (.string mf) := by rw [hwa, hg0]; simp
        have f1 : wa.cell? ⟨g0, 1, none⟩ = some (.string mp) := by rw [hwa, hg0]; simp
        have f2 : wa.cell? ⟨g0, 2, none⟩ = some (.int .i64 mq) := by rw [hwa, hg0]; simp
        have f3 : wa.cell? ⟨g0, 3, none⟩ = some (.bool mr) := by rw [hwa, hg0]; simp
        rw [← hg0]
        have hbA := bel_to hbr hba (by omega)
        have HMa := Lib.hid ((HM'.out.below hba).more hba.size)
        have hEa := hE.below (bel_tr hbw hba)
        clear hwa hg0 c1 c2 c3 c4
        obtain ⟨X, b', hXb⟩ : ∃ X b', putL M ⟨mf, mp, mq, mr⟩ = (X, b') := ⟨_, _, rfl⟩
        have HXB := Lib.hid hXb
        clear hXb
        go_wp2_with fail
        refine (Put_any _ _ M ⟨mf, mp, mq, mr⟩ HMa.out HSM.out (by show mf.size ≤ 100000; omega) (by show mp.size ≤ 100000; omega) hEa).mono ?_
        rintro e we ⟨v6, rfl, ho6, hb6⟩
        rw [HXB.out] at ho6 ⊢
        have hae := bel_to hbA hb6 (by have := hbA.size; omega)
        have HMe := Lib.hid ((HMa.out.below hb6).more hb6.size)
        by_cases hb0' : b' = 0
        · subst hb0'
          obtain ⟨p1, p2, p3, p4, p5⟩ := put_last HXB.out
          have hX16 := subsB_len p1
          have HX := Lib.hid (Rd.of_own ho6)
          have HX1 := Lib.hid p1
          have HXS := Lib.hid p2
          have HCN := Lib.hid p3
          have HXL := Lib.hid p4
          have HSO := Lib.hid (sorted_of p1)
          have HXR : Hid (Short X) := Lib.hid (short_of (short_cons (x := ⟨mf, mp, mq, mr⟩) HSM.out ⟨by show mf.size ≤ 100000; omega, by show mp.size ≤ 100000; omega⟩) (fun y hy => by
            rcases p5 y hy with h | h
            · subst h; exact List.mem_cons_self
            · exact List.mem_cons_of_mem _ h))
          have h0 := cell_bel f0 hb6
          have h1 := cell_bel f1 hb6
          have h2 := cell_bel f2 hb6
          have h3 := cell_bel f3 hb6
          obtain ⟨aox, capx, rfl, hcx1, hcx2⟩ := (Rd.of_own ho6).form
          have hcx3 : capx ≤ 9223372036854775807 := by unfold maxLen at hcx2; omega
          simp only at p3
          clear ho6 p1 p2 p3 p4 p5 f0 f1 f2 f3 hcx2
          go_wp2_with (go_at_call 28; refine (num_any _ _).mono ?_; rintro e w' ⟨rfl, rfl⟩)
          go_loopw [8, 9] (fun n i wq => ∃ k : Nat, k ≤ X.length ∧ i = .int .i64 k ∧ n = .int .i64 ((X.take k).countP (isF mf) : Nat) ∧ Below we.heap.size we wq) (fun _ i _ => X.length - (intOf i).toNat)
          case atStart => exact ⟨0, by omega, rfl, rfl, Below.refl _ _⟩
          case round =>
            obtain ⟨t, ht, rfl, rfl, hbA⟩ := hrel
            have q0 := cell_bel h0 hbA
            have q1 := cell_bel h1 hbA
            have q2 := cell_bel h2 hbA
            have q3 := cell_bel h3 hbA
            have hcl : (X.take t).countP (isF mf) ≤ 16 := Nat.le_trans List.countP_le_length (by rw [List.length_take]; omega)
            by_cases htl : t < X.length
            · obtain ⟨y, hy⟩ : ∃ y, X[t]? = some y := ⟨_, List.getElem?_eq_getElem htl⟩
              obtain ⟨bx, ox, rfl, hbx, y0, y1, y2, y3⟩ := wish_cell (HX.out.below hbA) rfl hy
              have HY := Lib.hid hy
              have HCS := Lib.hid (countP_snoc (isF mf) hy)
              clear hy
              go_upto_region 14 with fail
              go_cut [68] (fun s wx => s = .bool false ∧ wx = wr.drew)
              case first =>
                by_cases ht0 : t = 0
                · have hi0 : decide ((0 : Int) < (t : Int)) = false := decide_eq_false (by omega)
                  have hi0' : ¬ (0 < t) := by omega
                  have hi0'' : decide (0 < t) = false := decide_eq_false hi0'
                  clear ht0
                  refine wp_region_held_drew (S := fun wx => wx.cell? ⟨bx, ox + t * 4, none⟩ = some (.string y.f)) (by kernel_rfl) y0 (fun hHeld => ?_)
                  refine take_h 0 ⟨?_, ?_, ?_, by kernel_rfl, by kernel_rfl, by kernel_rfl, ?_, ?_, by assumption, ?_⟩
                  rotate_left 2
                  · (simp only [List.getElem?_toArray, List.getElem?_cons_succ, List.getElem?_cons_zero]; exact rfl)
                  · exact fun _ _ _ h => h
                  · first
                      | (refine Or.inr ⟨by rfl, ?_⟩; exact rfl)
                      | (refine Or.inl ⟨by rfl, ?_⟩
                         intro w hSw
                         (try dsimp only at hSw)
                         (try go_split_ands)
                         go_simp
                         (first | done | with_reducible rfl))
                  try simp only [Act.put, List.setIfInBounds_toArray, List.set_cons_zero, List.set_cons_succ]
                  refine take_h 1 ⟨?_, ?_, ?_, by kernel_rfl, by kernel_rfl, by kernel_rfl, ?_, ?_, by assumption, ?_⟩
                  rotate_left 2
                  · (simp only [List.getElem?_toArray, List.getElem?_cons_succ, List.getElem?_cons_zero]; exact rfl)
                  · exact fun _ _ _ h => h
                  · first
                      | (refine Or.inr ⟨by rfl, ?_⟩; exact rfl)
                      | (refine Or.inl ⟨by rfl, ?_⟩
                         intro w hSw
                         (try dsimp only at hSw)
                         (try go_split_ands)
                         go_simp
                         (first | done | with_reducible rfl))
                  try simp only [Act.put, List.setIfInBounds_toArray, List.set_cons_zero, List.set_cons_succ]
                  refine take_h 2 ⟨?_, ?_, ?_, by kernel_rfl, by kernel_rfl, by kernel_rfl, ?_, ?_, by assumption, ?_⟩
                  rotate_left 2
                  · (simp only [List.getElem?_toArray, List.getElem?_cons_succ, List.getElem?_cons_zero]; exact rfl)
                  · exact fun _ _ _ h => h
                  · first
                      | (refine Or.inr ⟨by rfl, ?_⟩; exact rfl)
                      | (refine Or.inl ⟨by rfl, ?_⟩
                         intro w hSw
                         (try dsimp only at hSw)
                         (try go_split_ands)
                         go_simp
                         (first | done | with_reducible rfl))
                  try simp only [Act.put, List.setIfInBounds_toArray, List.set_cons_zero, List.set_cons_succ]
                  refine take_h 3 ⟨?_, ?_, ?_, by kernel_rfl, by kernel_rfl, by kernel_rfl, ?_, ?_, by assumption, ?_⟩
                  rotate_left 2
                  · (simp only [List.getElem?_toArray, List.getElem?_cons_succ, List.getElem?_cons_zero]; exact rfl)
                  · exact fun _ _ _ h => h
                  · first
                      | (refine Or.inr ⟨by rfl, ?_⟩; exact rfl)
                      | (refine Or.inl ⟨by rfl, ?_⟩
                         intro w hSw
                         (try dsimp only at hSw)
                         (try go_split_ands)
                         go_simp
                         (first | done | with_reducible rfl))
                  try simp only [Act.put, List.setIfInBounds_toArray, List.set_cons_zero, List.set_cons_succ]
                  refine take_h 4 ⟨?_, ?_, ?_, by kernel_rfl, by kernel_rfl, by kernel_rfl, ?_, ?_, by assumption, ?_⟩
                  rotate_left 2
                  · (simp only [List.getElem?_toArray, List.getElem?_cons_succ, List.getElem?_cons_zero]; exact rfl)
                  · exact fun _ _ _ h => h
                  · first
                      | (refine Or.inr ⟨by rfl, ?_⟩; exact rfl)
                      | (refine Or.inl ⟨by rfl, ?_⟩
                         intro w hSw
                         (try dsimp only at hSw)
                         (try go_split_ands)
                         go_simp
                         (first | done | with_reducible rfl))
                  try simp only [Act.put, List.setIfInBounds_toArray, List.set_cons_zero, List.set_cons_succ]
                  refine take_h 5 ⟨?_, ?_, ?_, by kernel_rfl, by kernel_rfl, by kernel_rfl, ?_, ?_, by assumption, ?_⟩
                  rotate_left 2
                  · (simp only [List.getElem?_toArray, List.getElem?_cons_succ, List.getElem?_cons_zero]; exact rfl)
                  · exact fun _ _ _ h => h
                  · first
                      | (refine Or.inr ⟨by rfl, ?_⟩; exact rfl)
                      | (refine Or.inl ⟨by rfl, ?_⟩
                         intro w hSw
                         (try dsimp only at hSw)
                         (try go_split_ands)
                         go_simp
                         (first | done | with_reducible rfl))
                  try simp only [Act.put, List.setIfInBounds_toArray, List.set_cons_zero, List.set_cons_succ]
                  refine take_h 6 ⟨?_, ?_, ?_, by kernel_rfl, by kernel_rfl, by kernel_rfl, ?_, ?_, by assumption, ?_⟩
                  rotate_left 2
                  · (simp only [List.getElem?_toArray, List.getElem?_cons_succ, List.getElem?_cons_zero]; exact rfl)
                  · exact fun _ _ _ h => h
                  · first
                      | (refine Or.inr ⟨by rfl, ?_⟩; exact rfl)
                      | (refine Or.inl ⟨by rfl, ?_⟩
                         intro w hSw
                         (try dsimp only at hSw)
                         (try go_split_ands)
                         go_simp
                         (first | done | with_reducible rfl))
                  try simp only [Act.put, List.setIfInBounds_toArray, List.set_cons_zero, List.set_cons_succ]
                  refine take_h 7 ⟨?_, ?_, ?_, by kernel_rfl, by kernel_rfl, by kernel_rfl, ?_, ?_, by assumption, ?_⟩
                  rotate_left 2
                  · (simp only [List.getElem?_toArray, List.getElem?_cons_succ, List.getElem?_cons_zero]; exact rfl)
                  · exact fun _ _ _ h => h
                  · first
                      | (refine Or.inr ⟨by rfl, ?_⟩; exact rfl)
                      | (refine Or.inl ⟨by rfl, ?_⟩
                         intro w hSw
                         (try dsimp only at hSw)
                         (try go_split_ands)
                         go_simp
                         (first | done | with_reducible rfl))
                  try simp only [Act.put, List.setIfInBounds_toArray, List.set_cons_zero, List.set_cons_succ]
                  refine take_h 8 ⟨?_, ?_, ?_, by kernel_rfl, by kernel_rfl, by kernel_rfl, ?_, ?_, by assumption, ?_⟩
                  rotate_left 2
                  · (simp only [List.getElem?_toArray, List.getElem?_cons_succ, List.getElem?_cons_zero]; exact rfl)
                  · exact fun _ _ _ h => h
                  · first
                      | (refine Or.inr ⟨by rfl, ?_⟩; exact rfl)
                      | (refine Or.inl ⟨by rfl, ?_⟩
                         intro w hSw
                         (try dsimp only at hSw)
                         (try go_split_ands)
                         go_simp
                         (first | done | with_reducible rfl))
                  try simp only [Act.put, List.setIfInBounds_toArray, List.set_cons_zero, List.set_cons_succ]
                  refine take_h 9 ⟨?_, ?_, ?_, by kernel_rfl, by kernel_rfl, by kernel_rfl, ?_, ?_, by assumption, ?_⟩
                  rotate_left 2
                  · (simp only [List.getElem?_toArray, List.getElem?_cons_succ, List.getElem?_cons_zero]; exact rfl)
                  · exact fun _ _ _ h => h
                  · first
                      | (refine Or.inr ⟨by rfl, ?_⟩; exact rfl)
                      | (refine Or.inl ⟨by rfl, ?_⟩
                         intro w hSw
                         (try dsimp only at hSw)
                         (try go_split_ands)
                         go_simp
                         (first | done | with_reducible rfl))
                  try simp only [Act.put, List.setIfInBounds_toArray, List.set_cons_zero, List.set_cons_succ]
                  refine take_h 10 ⟨?_, ?_, ?_, by kernel_rfl, by kernel_rfl, by kernel_rfl, ?_, ?_, by assumption, ?_⟩
                  rotate_left 2
                  · (simp only [List.getElem?_toArray, List.getElem?_cons_succ, List.getElem?_cons_zero]; exact rfl)
                  · exact fun _ _ _ h => h
                  · first
                      | (refine Or.inr ⟨by rfl, ?_⟩; exact rfl)
                      | (refine Or.inl ⟨by rfl, ?_⟩
                         intro w hSw
                         (try dsimp only at hSw)
                         (try go_split_ands)
                         go_simp
                         (first | done | with_reducible rfl))
                  try simp only [Act.put, List.setIfInBounds_toArray, List.set_cons_zero, List.set_cons_succ]
                  refine take_h 11 ⟨?_, ?_, ?_, by kernel_rfl, by kernel_rfl, by kernel_rfl, ?_, ?_, by assumption, ?_⟩
                  rotate_left 2
                  · (simp only [List.getElem?_toArray, List.getElem?_cons_succ, List.getElem?_cons_zero]; exact rfl)
                  · exact fun _ _ _ h => h
                  · first
                      | (refine Or.inr ⟨by rfl, ?_⟩; exact rfl)
                      | (refine Or.inl ⟨by rfl, ?_⟩
                         intro w hSw
                         (try dsimp only at hSw)
                         (try go_split_ands)
                         go_simp
                         (first | done | with_reducible rfl))
                  try simp only [Act.put, List.setIfInBounds_toArray, List.set_cons_zero, List.set_cons_succ]
                  refine take_h 12 ⟨?_, ?_, ?_, by kernel_rfl, by kernel_rfl, by kernel_rfl, ?_, ?_, by assumption, ?_⟩
                  rotate_left 2
                  · (simp only [List.getElem?_toArray, List.getElem?_cons_succ, List.getElem?_cons_zero]; exact rfl)
                  · exact fun _ _ _ h => h
                  · first
                      | (refine Or.inr ⟨by rfl, ?_⟩; exact rfl)
                      | (refine Or.inl ⟨by rfl, ?_⟩
                         intro w hSw
                         (try dsimp only at hSw)
                         (try go_split_ands)
                         go_simp
                         (first | done | with_reducible rfl))
                  try simp only [Act.put, List.setIfInBounds_toArray, List.set_cons_zero, List.set_cons_succ]
                  refine take_h 13 ⟨?_, ?_, ?_, by kernel_rfl, by kernel_rfl, by kernel_rfl, ?_, ?_, by assumption, ?_⟩
                  rotate_left 2
                  · (simp only [List.getElem?_toArray, List.getElem?_cons_succ, List.getElem?_cons_zero]; exact rfl)
                  · exact fun _ _ _ h => h
                  · first
                      | (refine Or.inr ⟨by rfl, ?_⟩; exact rfl)
                      | (refine Or.inl ⟨by rfl, ?_⟩
                         intro w hSw
                         (try dsimp only at hSw)
                         (try go_split_ands)
                         go_simp
                         (first | done | with_reducible rfl))
                  try simp only [Act.put, List.setIfInBounds_toArray, List.set_cons_zero, List.set_cons_succ]
                  refine take_h 14 ⟨?_, ?_, ?_, by kernel_rfl, by kernel_rfl, by kernel_rfl, ?_, ?_, by assumption, ?_⟩
                  rotate_left 2
                  · (simp only [List.getElem?_toArray, List.getElem?_cons_succ, List.getElem?_cons_zero]; exact rfl)
                  · exact fun _ _ _ h => h
                  · first
                      | (refine Or.inr ⟨by rfl, ?_⟩; exact rfl)
                      | (refine Or.inl ⟨by rfl, ?_⟩
                         intro w hSw
                         (try dsimp only at hSw)
                         (try go_split_ands)
                         go_simp
                         (first | done | with_reducible rfl))
                  try simp only [Act.put, List.setIfInBounds_toArray, List.set_cons_zero, List.set_cons_succ]
                  refine take_h 15 ⟨?_, ?_, ?_, by kernel_rfl, by kernel_rfl, by kernel_rfl, ?_, ?_, by assumption, ?_⟩
                  rotate_left 2
                  · (simp only [List.getElem?_toArray, List.getElem?_cons_succ, List.getElem?_cons_zero]; exact rfl)
                  · exact fun _ _ _ h => h
                  · first
                      | (refine Or.inr ⟨by rfl, ?_⟩; exact rfl)
                      | (refine Or.inl ⟨by rfl, ?_⟩
                         intro w hSw
                         (try dsimp only at hSw)
                         (try go_split_ands)
                         go_simp
                         (first | done | with_reducible rfl))
                  try simp only [Act.put, List.setIfInBounds_toArray, List.set_cons_zero, List.set_cons_succ]
                  refine wpAnyH_done (by kernel_rfl) ?_ _
                  clear hHeld
                  go_wp2
                  go_meet
                  exact ⟨rfl, rfl⟩
                · obtain ⟨t', ht'⟩ : ∃ t', t = t' + 1 := ⟨t - 1, by omega⟩
                  obtain ⟨z, hz⟩ : ∃ z, X[t']? = some z := ⟨_, List.getElem?_eq_getElem (by omega)⟩
                  obtain ⟨bx', ox', hE', _, z0, _, _, _⟩ := wish_cell (HX.out.below hbA) rfl hz
                  injection hE' with hE'
                  injection hE' with hE1 hE2
                  subst hE1 hE2
                  have hzy : lessB z.f y.f = true := HSO.out t' t z y (by omega) hz HY.out
                  have hl2 : Op.bytesLess z.f.toList y.f.toList = true := hzy
                  have hi0 : decide ((0 : Int) < (t : Int)) = true := decide_eq_true (by omega)
                  have hi0' : 0 < t := by omega
                  have hi0'' : decide (0 < t) = true := decide_eq_true hi0'
                  have hj0 : (0 : Int) ≤ (t' : Int) := by omega
                  have hjl : (t' : Int) < (X.length : Int) := by omega
                  have hw1 : IntKind.i64.wrap ((t : Int) - 1) = (t' : Int) := by
                    have : (t : Int) - 1 = t' := by omega
                    rw [this]; exact IntWalk.i64_in _ ⟨by omega, by omega⟩
                  clear ht' hz hzy ht0
                  refine wp_region_held_drew (S := fun wx => wx.cell? ⟨bx, ox + t' * 4, none⟩ = some (.string z.f) ∧ wx.cell? ⟨bx, ox + t * 4, none⟩ = some (.string y.f)) (by kernel_rfl) ⟨z0, y0⟩ (fun hHeld => ?_)
                  refine take_h 0 ⟨?_, ?_, ?_, by kernel_rfl, by kernel_rfl, by kernel_rfl, ?_, ?_, by assumption, ?_⟩
                  rotate_left 2
                  · (simp only [List.getElem?_toArray, List.getElem?_cons_succ, List.getElem?_cons_zero]; exact rfl)
                  · exact fun _ _ _ h => h
                  · first
                      | (refine Or.inr ⟨by rfl, ?_⟩; exact rfl)
                      | (refine Or.inl ⟨by rfl, ?_⟩
                         intro w hSw
                         (try dsimp only at hSw)
                         (try go_split_ands)
                         go_simp
                         (first | done | with_reducible rfl))
                  try simp only [Act.put, List.setIfInBounds_toArray, List.set_cons_zero, List.set_cons_succ]
                  refine take_h 1 ⟨?_, ?_, ?_, by kernel_rfl, by kernel_rfl, by kernel_rfl, ?_, ?_, by assumption, ?_⟩
                  rotate_left 2
                  · (simp only [List.getElem?_toArray, List.getElem?_cons_succ, List.getElem?_cons_zero]; exact rfl)
                  · exact fun _ _ _ h => h
                  · first
                      | (refine Or.inr ⟨by rfl, ?_⟩; exact rfl)
                      | (refine Or.inl ⟨by rfl, ?_⟩
                         intro w hSw
                         (try dsimp only at hSw)
                         (try go_split_ands)
                         go_simp
                         (first | done | with_reducible rfl))
                  try simp only [Act.put, List.setIfInBounds_toArray, List.set_cons_zero, List.set_cons_succ]
                  refine take_h 2 ⟨?_, ?_, ?_, by kernel_rfl, by kernel_rfl, by kernel_rfl, ?_, ?_, by assumption, ?_⟩
                  rotate_left 2
                  · (simp only [List.getElem?_toArray, List.getElem?_cons_succ, List.getElem?_cons_zero]; exact rfl)
                  · exact fun _ _ _ h => h
                  · first
                      | (refine Or.inr ⟨by rfl, ?_⟩; exact rfl)
                      | (refine Or.inl ⟨by rfl, ?_⟩
                         intro w hSw
                         (try dsimp only at hSw)
                         (try go_split_ands)
                         go_simp
                         (first | done | with_reducible rfl))
                  try simp only [Act.put, List.setIfInBounds_toArray, List.set_cons_zero, List.set_cons_succ]
                  refine take_h 3 ⟨?_, ?_, ?_, by kernel_rfl, by kernel_rfl, by kernel_rfl, ?_, ?_, by assumption, ?_⟩
                  rotate_left 2
                  · (simp only [List.getElem?_toArray, List.getElem?_cons_succ, List.getElem?_cons_zero]; exact rfl)
                  · exact fun _ _ _ h => h
                  · first
                      | (refine Or.inr ⟨by rfl, ?_⟩; exact rfl)
                      | (refine Or.inl ⟨by rfl, ?_⟩
                         intro w hSw
                         (try dsimp only at hSw)
                         (try go_split_ands)
                         go_simp
                         (first | done | with_reducible rfl))
                  try simp only [Act.put, List.setIfInBounds_toArray, List.set_cons_zero, List.set_cons_succ]
                  refine take_h 4 ⟨?_, ?_, ?_, by kernel_rfl, by kernel_rfl, by kernel_rfl, ?_, ?_, by assumption, ?_⟩
                  rotate_left 2
                  · (simp only [List.getElem?_toArray, List.getElem?_cons_succ, List.getElem?_cons_zero]; exact rfl)
                  · exact fun _ _ _ h => h
                  · first
                      | (refine Or.inr ⟨by rfl, ?_⟩; exact rfl)
                      | (refine Or.inl ⟨by rfl, ?_⟩
                         intro w hSw
                         (try dsimp only at hSw)
                         (try go_split_ands)
                         go_simp
                         (first | done | with_reducible rfl))
                  try simp only [Act.put, List.setIfInBounds_toArray, List.set_cons_zero, List.set_cons_succ]
                  refine take_h 5 ⟨?_, ?_, ?_, by kernel_rfl, by kernel_rfl, by kernel_rfl, ?_, ?_, by assumption, ?_⟩
                  rotate_left 2
                  · (simp only [List.getElem?_toArray, List.getElem?_cons_succ, List.getElem?_cons_zero]; exact rfl)
                  · exact fun _ _ _ h => h
                  · first
                      | (refine Or.inr ⟨by rfl, ?_⟩; exact rfl)
                      | (refine Or.inl ⟨by rfl, ?_⟩
                         intro w hSw
                         (try dsimp only at hSw)
                         (try go_split_ands)
                         go_simp
                         (first | done | with_reducible rfl))
                  try simp only [Act.put, List.setIfInBounds_toArray, List.set_cons_zero, List.set_cons_succ]
                  refine take_h 6 ⟨?_, ?_, ?_, by kernel_rfl, by kernel_rfl, by kernel_rfl, ?_, ?_, by assumption, ?_⟩
                  rotate_left 2
                  · (simp only [List.getElem?_toArray, List.getElem?_cons_succ, List.getElem?_cons_zero]; exact rfl)
                  · exact fun _ _ _ h => h
                  · first
                      | (refine Or.inr ⟨by rfl, ?_⟩; exact rfl)
                      | (refine Or.inl ⟨by rfl, ?_⟩
                         intro w hSw
                         (try dsimp only at hSw)
                         (try go_split_ands)
                         go_simp
                         (first | done | with_reducible rfl))
                  try simp only [Act.put, List.setIfInBounds_toArray, List.set_cons_zero, List.set_cons_succ]
                  refine take_h 7 ⟨?_, ?_, ?_, by kernel_rfl, by kernel_rfl, by kernel_rfl, ?_, ?_, by assumption, ?_⟩
                  rotate_left 2
                  · (simp only [List.getElem?_toArray, List.getElem?_cons_succ, List.getElem?_cons_zero]; exact rfl)
                  · exact fun _ _ _ h => h
                  · first
                      | (refine Or.inr ⟨by rfl, ?_⟩; exact rfl)
                      | (refine Or.inl ⟨by rfl, ?_⟩
                         intro w hSw
                         (try dsimp only at hSw)
                         (try go_split_ands)
                         go_simp
                         (first | done | with_reducible rfl))
                  try simp only [Act.put, List.setIfInBounds_toArray, List.set_cons_zero, List.set_cons_succ]
                  refine take_h 8 ⟨?_, ?_, ?_, by kernel_rfl, by kernel_rfl, by kernel_rfl, ?_, ?_, by assumption, ?_⟩
                  rotate_left 2
                  · (simp only [List.getElem?_toArray, List.getElem?_cons_succ, List.getElem?_cons_zero]; exact rfl)
                  · exact fun _ _ _ h => h
                  · first
                      | (refine Or.inr ⟨by rfl, ?_⟩; exact rfl)
                      | (refine Or.inl ⟨by rfl, ?_⟩
                         intro w hSw
                         (try dsimp only at hSw)
                         (try go_split_ands)
                         go_simp
                         (first | done | with_reducible rfl))
                  try simp only [Act.put, List.setIfInBounds_toArray, List.set_cons_zero, List.set_cons_succ]
                  refine take_h 9 ⟨?_, ?_, ?_, by kernel_rfl, by kernel_rfl, by kernel_rfl, ?_, ?_, by assumption, ?_⟩
                  rotate_left 2
                  · (simp only [List.getElem?_toArray, List.getElem?_cons_succ, List.getElem?_cons_zero]; exact rfl)
                  · exact fun _ _ _ h => h
                  · first
                      | (refine Or.inr ⟨by rfl, ?_⟩; exact rfl)
                      | (refine Or.inl ⟨by rfl, ?_⟩
                         intro w hSw
                         (try dsimp only at hSw)
                         (try go_split_ands)
                         go_simp
                         (first | done | with_reducible rfl))
                  try simp only [Act.put, List.setIfInBounds_toArray, List.set_cons_zero, List.set_cons_succ]
                  refine take_h 10 ⟨?_, ?_, ?_, by kernel_rfl, by kernel_rfl, by kernel_rfl, ?_, ?_, by assumption, ?_⟩
                  rotate_left 2
                  · (simp only [List.getElem?_toArray, List.getElem?_cons_succ, List.getElem?_cons_zero]; exact rfl)
                  · exact fun _ _ _ h => h
                  · first
                      | (refine Or.inr ⟨by rfl, ?_⟩; exact rfl)
                      | (refine Or.inl ⟨by rfl, ?_⟩
                         intro w hSw
                         (try dsimp only at hSw)
                         (try go_split_ands)
                         go_simp
                         (first | done | with_reducible rfl))
                  try simp only [Act.put, List.setIfInBounds_toArray, List.set_cons_zero, List.set_cons_succ]
                  refine take_h 11 ⟨?_, ?_, ?_, by kernel_rfl, by kernel_rfl, by kernel_rfl, ?_, ?_, by assumption, ?_⟩
                  rotate_left 2
                  · (simp only [List.getElem?_toArray, List.getElem?_cons_succ, List.getElem?_cons_zero]; exact rfl)
                  · exact fun _ _ _ h => h
                  · first
                      | (refine Or.inr ⟨by rfl, ?_⟩; exact rfl)
                      | (refine Or.inl ⟨by rfl, ?_⟩
                         intro w hSw
                         (try dsimp only at hSw)
                         (try go_split_ands)
                         go_simp
                         (first | done | with_reducible rfl))
                  try simp only [Act.put, List.setIfInBounds_toArray, List.set_cons_zero, List.set_cons_succ]
                  refine take_h 12 ⟨?_, ?_, ?_, by kernel_rfl, by kernel_rfl, by kernel_rfl, ?_, ?_, by assumption, ?_⟩
                  rotate_left 2
                  · (simp only [List.getElem?_toArray, List.getElem?_cons_succ, List.getElem?_cons_zero]; exact rfl)
                  · exact fun _ _ _ h => h
                  · first
                      | (refine Or.inr ⟨by rfl, ?_⟩; exact rfl)
                      | (refine Or.inl ⟨by rfl, ?_⟩
                         intro w hSw
                         (try dsimp only at hSw)
                         (try go_split_ands)
                         go_simp
                         (first | done | with_reducible rfl))
                  try simp only [Act.put, List.setIfInBounds_toArray, List.set_cons_zero, List.set_cons_succ]
                  refine take_h 13 ⟨?_, ?_, ?_, by kernel_rfl, by kernel_rfl, by kernel_rfl, ?_, ?_, by assumption, ?_⟩
                  rotate_left 2
                  · (simp only [List.getElem?_toArray, List.getElem?_cons_succ, List.getElem?_cons_zero]; exact rfl)
                  · exact fun _ _ _ h => h
                  · first
                      | (refine Or.inr ⟨by rfl, ?_⟩; exact rfl)
                      | (refine Or.inl ⟨by rfl, ?_⟩
                         intro w hSw
                         (try dsimp only at hSw)
                         (try go_split_ands)
                         go_simp
                         (first | done | with_reducible rfl))
                  try simp only [Act.put, List.setIfInBounds_toArray, List.set_cons_zero, List.set_cons_succ]
                  refine take_h 14 ⟨?_, ?_, ?_, by kernel_rfl, by kernel_rfl, by kernel_rfl, ?_, ?_, by assumption, ?_⟩
                  rotate_left 2
                  · (simp only [List.getElem?_toArray, List.getElem?_cons_succ, List.getElem?_cons_zero]; exact rfl)
                  · exact fun _ _ _ h => h
                  · first
                      | (refine Or.inr ⟨by rfl, ?_⟩; exact rfl)
                      | (refine Or.inl ⟨by rfl, ?_⟩
                         intro w hSw
                         (try dsimp only at hSw)
                         (try go_split_ands)
                         go_simp
                         (first | done | with_reducible rfl))
                  try simp only [Act.put, List.setIfInBounds_toArray, List.set_cons_zero, List.set_cons_succ]
                  refine take_h 15 ⟨?_, ?_, ?_, by kernel_rfl, by kernel_rfl, by kernel_rfl, ?_, ?_, by assumption, ?_⟩
                  rotate_left 2
                  · (simp only [List.getElem?_toArray, List.getElem?_cons_succ, List.getElem?_cons_zero]; exact rfl)
                  · exact fun _ _ _ h => h
                  · first
                      | (refine Or.inr ⟨by rfl, ?_⟩; exact rfl)
                      | (refine Or.inl ⟨by rfl, ?_⟩
                         intro w hSw
                         (try dsimp only at hSw)
                         (try go_split_ands)
                         go_simp
                         (first | done | with_reducible rfl))
                  try simp only [Act.put, List.setIfInBounds_toArray, List.set_cons_zero, List.set_cons_succ]
                  refine wpAnyH_done (by kernel_rfl) ?_ _
                  clear hHeld hl2
                  go_wp2
                  go_meet
                  exact ⟨rfl, rfl⟩
              case rest =>
                obtain ⟨rfl, hcw⟩ := hcut
                subst hcw
                cases he : (y.f.toList == mf.toList)
                · have HC : Hid ((X.take (t + 1)).countP (isF mf) = (X.take t).countP (isF mf)) := Lib.hid (by rw [HCS.out, if_neg (by unfold isF; rw [he]; decide), Nat.add_zero])
                  go_wp2
                  refine wp_region_held_drew (S := fun wx => wx.cell? ⟨bx, ox + t * 4, none⟩ = some (.string y.f) ∧ wx.cell? ⟨g0, 0, none⟩ = some (.string mf)) (by kernel_rfl) ⟨y0, q0⟩ (fun hHeld => ?_)
                  refine take_h 0 ⟨?_, ?_, ?_, by kernel_rfl, by kernel_rfl, by kernel_rfl, ?_, ?_, by assumption, ?_⟩
                  rotate_left 2
                  · (simp only [List.getElem?_toArray, List.getElem?_cons_succ, List.getElem?_cons_zero]; exact rfl)
                  · exact fun _ _ _ h => h
                  · first
                      | (refine Or.inr ⟨by rfl, ?_⟩; exact rfl)
                      | (refine Or.inl ⟨by rfl, ?_⟩
                         intro w hSw
                         (try dsimp only at hSw)
                         (try go_split_ands)
                         go_simp
                         (first | done | with_reducible rfl))
                  try simp only [Act.put, List.setIfInBounds_toArray, List.set_cons_zero, List.set_cons_succ]
                  refine take_h 1 ⟨?_, ?_, ?_, by kernel_rfl, by kernel_rfl, by kernel_rfl, ?_, ?_, by assumption, ?_⟩
                  rotate_left 2
                  · (simp only [List.getElem?_toArray, List.getElem?_cons_succ, List.getElem?_cons_zero]; exact rfl)
                  · exact fun _ _ _ h => h
                  · first
                      | (refine Or.inr ⟨by rfl, ?_⟩; exact rfl)
                      | (refine Or.inl ⟨by rfl, ?_⟩
                         intro w hSw
                         (try dsimp only at hSw)
                         (try go_split_ands)
                         go_simp
                         (first | done | with_reducible rfl))
                  try simp only [Act.put, List.setIfInBounds_toArray, List.set_cons_zero, List.set_cons_succ]
                  refine take_h 2 ⟨?_, ?_, ?_, by kernel_rfl, by kernel_rfl, by kernel_rfl, ?_, ?_, by assumption, ?_⟩
                  rotate_left 2
                  · (simp only [List.getElem?_toArray, List.getElem?_cons_succ, List.getElem?_cons_zero]; exact rfl)
                  · exact fun _ _ _ h => h
                  · first
                      | (refine Or.inr ⟨by rfl, ?_⟩; exact rfl)
                      | (refine Or.inl ⟨by rfl, ?_⟩
                         intro w hSw
                         (try dsimp only at hSw)
                         (try go_split_ands)
                         go_simp
                         (first | done | with_reducible rfl))
                  try simp only [Act.put, List.setIfInBounds_toArray, List.set_cons_zero, List.set_cons_succ]
                  refine take_h 3 ⟨?_, ?_, ?_, by kernel_rfl, by kernel_rfl, by kernel_rfl, ?_, ?_, by assumption, ?_⟩
                  rotate_left 2
                  · (simp only [List.getElem?_toArray, List.getElem?_cons_succ, List.getElem?_cons_zero]; exact rfl)
                  · exact fun _ _ _ h => h
                  · first
                      | (refine Or.inr ⟨by rfl, ?_⟩; exact rfl)
                      | (refine Or.inl ⟨by rfl, ?_⟩
                         intro w hSw
                         (try dsimp only at hSw)
                         (try go_split_ands)
                         go_simp
                         (first | done | with_reducible rfl))
                  try simp only [Act.put, List.setIfInBounds_toArray, List.set_cons_zero, List.set_cons_succ]
                  refine take_h 4 ⟨?_, ?_, ?_, by kernel_rfl, by kernel_rfl, by kernel_rfl, ?_, ?_, by assumption, ?_⟩
                  rotate_left 2
                  · (simp only [List.getElem?_toArray, List.getElem?_cons_succ, List.getElem?_cons_zero]; exact rfl)
                  · exact fun _ _ _ h => h
                  · first
                      | (refine Or.inr ⟨by rfl, ?_⟩; exact rfl)
                      | (refine Or.inl ⟨by rfl, ?_⟩
                         intro w hSw
                         (try dsimp only at hSw)
                         (try go_split_ands)
                         go_simp
                         (first | done | with_reducible rfl))
                  try simp only [Act.put, List.setIfInBounds_toArray, List.set_cons_zero, List.set_cons_succ]
                  refine take_h 5 ⟨?_, ?_, ?_, by kernel_rfl, by kernel_rfl, by kernel_rfl, ?_, ?_, by assumption, ?_⟩
                  rotate_left 2
                  · (simp only [List.getElem?_toArray, List.getElem?_cons_succ, List.getElem?_cons_zero]; exact rfl)
                  · exact fun _ _ _ h => h
                  · first
                      | (refine Or.inr ⟨by rfl, ?_⟩; exact rfl)
                      | (refine Or.inl ⟨by rfl, ?_⟩
                         intro w hSw
                         (try dsimp only at hSw)
                         (try go_split_ands)
                         go_simp
                         (first | done | with_reducible rfl))
                  try simp only [Act.put, List.setIfInBounds_toArray, List.set_cons_zero, List.set_cons_succ]
                  refine take_h 6 ⟨?_, ?_, ?_, by kernel_rfl, by kernel_rfl, by kernel_rfl, ?_, ?_, by assumption, ?_⟩
                  rotate_left 2
                  · (simp only [List.getElem?_toArray, List.getElem?_cons_succ, List.getElem?_cons_zero]; exact rfl)
                  · exact fun _ _ _ h => h
                  · first
                      | (refine Or.inr ⟨by rfl, ?_⟩; exact rfl)
                      | (refine Or.inl ⟨by rfl, ?_⟩
                         intro w hSw
                         (try dsimp only at hSw)
                         (try go_split_ands)
                         go_simp
                         (first | done | with_reducible rfl))
                  try simp only [Act.put, List.setIfInBounds_toArray, List.set_cons_zero, List.set_cons_succ]
                  refine take_h 7 ⟨?_, ?_, ?_, by kernel_rfl, by kernel_rfl, by kernel_rfl, ?_, ?_, by assumption, ?_⟩
                  rotate_left 2
                  · (simp only [List.getElem?_toArray, List.getElem?_cons_succ, List.getElem?_cons_zero]; exact rfl)
                  · exact fun _ _ _ h => h
                  · first
                      | (refine Or.inr ⟨by rfl, ?_⟩; exact rfl)
                      | (refine Or.inl ⟨by rfl, ?_⟩
                         intro w hSw
                         (try dsimp only at hSw)
                         (try go_split_ands)
                         go_simp
                         (first | done | with_reducible rfl))
                  try simp only [Act.put, List.setIfInBounds_toArray, List.set_cons_zero, List.set_cons_succ]
                  refine wpAnyH_done (by kernel_rfl) ?_ _
                  clear hHeld
                  go_wp2
                  go_roundw
                  case rel => exact ⟨t + 1, by omega, by go_num, by rw [HC.out], hbA.drew.drew⟩
                  case measure => simp [intOf]; omega
                · have hyf : y.f = mf := isF_iff.1 he
                  obtain ⟨hym, hpn⟩ := HXS.out y (List.mem_of_getElem? HY.out) hyf
                  have hpb : (mp.toList == []) = false := beq_eq_false_iff_ne.2 hpn
                  have HC : Hid ((X.take (t + 1)).countP (isF mf) = (X.take t).countP (isF mf) + 1) := Lib.hid (by rw [HCS.out, if_pos (by unfold isF; rw [he])])
                  subst hym
                  simp only at y0 y1 y2 y3 he
                  clear hyf
                  go_wp2
                  refine wp_region_held_drew (S := fun wx => wx.cell? ⟨bx, ox + t * 4, none⟩ = some (.string mf) ∧ wx.cell? ⟨g0, 0, none⟩ = some (.string mf)) (by kernel_rfl) ⟨y0, q0⟩ (fun hHeld => ?_)
                  refine take_h 0 ⟨?_, ?_, ?_, by kernel_rfl, by kernel_rfl, by kernel_rfl, ?_, ?_, by assumption, ?_⟩
                  rotate_left 2
                  · (simp only [List.getElem?_toArray, List.getElem?_cons_succ, List.getElem?_cons_zero]; exact rfl)
                  · exact fun _ _ _ h => h
                  · first
                      | (refine Or.inr ⟨by rfl, ?_⟩; exact rfl)
                      | (refine Or.inl ⟨by rfl, ?_⟩
                         intro w hSw
                         (try dsimp only at hSw)
                         (try go_split_ands)
                         go_simp
                         (first | done | with_reducible rfl))
                  try simp only [Act.put, List.setIfInBounds_toArray, List.set_cons_zero, List.set_cons_succ]
                  refine take_h 1 ⟨?_, ?_, ?_, by kernel_rfl, by kernel_rfl, by kernel_rfl, ?_, ?_, by assumption, ?_⟩
                  rotate_left 2
                  · (simp only [List.getElem?_toArray, List.getElem?_cons_succ, List.getElem?_cons_zero]; exact rfl)
                  · exact fun _ _ _ h => h
                  · first
                      | (refine Or.inr ⟨by rfl, ?_⟩; exact rfl)
                      | (refine Or.inl ⟨by rfl, ?_⟩
                         intro w hSw
                         (try dsimp only at hSw)
                         (try go_split_ands)
                         go_simp
                         (first | done | with_reducible rfl))
                  try simp only [Act.put, List.setIfInBounds_toArray, List.set_cons_zero, List.set_cons_succ]
                  refine take_h 2 ⟨?_, ?_, ?_, by kernel_rfl, by kernel_rfl, by kernel_rfl, ?_, ?_, by assumption, ?_⟩
                  rotate_left 2
                  · (simp only [List.getElem?_toArray, List.getElem?_cons_succ, List.getElem?_cons_zero]; exact rfl)
                  · exact fun _ _ _ h => h
                  · first
                      | (refine Or.inr ⟨by rfl, ?_⟩; exact rfl)
                      | (refine Or.inl ⟨by rfl, ?_⟩
                         intro w hSw
                         (try dsimp only at hSw)
                         (try go_split_ands)
                         go_simp
                         (first | done | with_reducible rfl))
                  try simp only [Act.put, List.setIfInBounds_toArray, List.set_cons_zero, List.set_cons_succ]
                  refine take_h 3 ⟨?_, ?_, ?_, by kernel_rfl, by kernel_rfl, by kernel_rfl, ?_, ?_, by assumption, ?_⟩
                  rotate_left 2
                  · (simp only [List.getElem?_toArray, List.getElem?_cons_succ, List.getElem?_cons_zero]; exact rfl)
                  · exact fun _ _ _ h => h
                  · first
                      | (refine Or.inr ⟨by rfl, ?_⟩; exact rfl)
                      | (refine Or.inl ⟨by rfl, ?_⟩
                         intro w hSw
                         (try dsimp only at hSw)
                         (try go_split_ands)
                         go_simp
                         (first | done | with_reducible rfl))
                  try simp only [Act.put, List.setIfInBounds_toArray, List.set_cons_zero, List.set_cons_succ]
                  refine take_h 4 ⟨?_, ?_, ?_, by kernel_rfl, by kernel_rfl, by kernel_rfl, ?_, ?_, by assumption, ?_⟩
                  rotate_left 2
                  · (simp only [List.getElem?_toArray, List.getElem?_cons_succ, List.getElem?_cons_zero]; exact rfl)
                  · exact fun _ _ _ h => h
                  · first
                      | (refine Or.inr ⟨by rfl, ?_⟩; exact rfl)
                      | (refine Or.inl ⟨by rfl, ?_⟩
                         intro w hSw
                         (try dsimp only at hSw)
                         (try go_split_ands)
                         go_simp
                         (first | done | with_reducible rfl))
                  try simp only [Act.put, List.setIfInBounds_toArray, List.set_cons_zero, List.set_cons_succ]
                  refine take_h 5 ⟨?_, ?_, ?_, by kernel_rfl, by kernel_rfl, by kernel_rfl, ?_, ?_, by assumption, ?_⟩
                  rotate_left 2
                  · (simp only [List.getElem?_toArray, List.getElem?_cons_succ, List.getElem?_cons_zero]; exact rfl)
                  · exact fun _ _ _ h => h
                  · first
                      | (refine Or.inr ⟨by rfl, ?_⟩; exact rfl)
                      | (refine Or.inl ⟨by rfl, ?_⟩
                         intro w hSw
                         (try dsimp only at hSw)
                         (try go_split_ands)
                         go_simp
                         (first | done | with_reducible rfl))
                  try simp only [Act.put, List.setIfInBounds_toArray, List.set_cons_zero, List.set_cons_succ]
                  refine take_h 6 ⟨?_, ?_, ?_, by kernel_rfl, by kernel_rfl, by kernel_rfl, ?_, ?_, by assumption, ?_⟩
                  rotate_left 2
                  · (simp only [List.getElem?_toArray, List.getElem?_cons_succ, List.getElem?_cons_zero]; exact rfl)
                  · exact fun _ _ _ h => h
                  · first
                      | (refine Or.inr ⟨by rfl, ?_⟩; exact rfl)
                      | (refine Or.inl ⟨by rfl, ?_⟩
                         intro w hSw
                         (try dsimp only at hSw)
                         (try go_split_ands)
                         go_simp
                         (first | done | with_reducible rfl))
                  try simp only [Act.put, List.setIfInBounds_toArray, List.set_cons_zero, List.set_cons_succ]
                  refine take_h 7 ⟨?_, ?_, ?_, by kernel_rfl, by kernel_rfl, by kernel_rfl, ?_, ?_, by assumption, ?_⟩
                  rotate_left 2
                  · (simp only [List.getElem?_toArray, List.getElem?_cons_succ, List.getElem?_cons_zero]; exact rfl)
                  · exact fun _ _ _ h => h
                  · first
                      | (refine Or.inr ⟨by rfl, ?_⟩; exact rfl)
                      | (refine Or.inl ⟨by rfl, ?_⟩
                         intro w hSw
                         (try dsimp only at hSw)
                         (try go_split_ands)
                         go_simp
                         (first | done | with_reducible rfl))
                  try simp only [Act.put, List.setIfInBounds_toArray, List.set_cons_zero, List.set_cons_succ]
                  refine wpAnyH_done (by kernel_rfl) ?_ _
                  clear hHeld
                  go_wp2
                  refine wp_region_held_drew (S := fun wx => wx.cell? ⟨bx, ox + t * 4, none⟩ = some (.string mf) ∧ wx.cell? ⟨bx, ox + t * 4 + 1, none⟩ = some (.string mp) ∧ wx.cell? ⟨bx, ox + t * 4 + 2, none⟩ = some (.int .i64 mq) ∧ wx.cell? ⟨bx, ox + t * 4 + 3, none⟩ = some (.bool mr) ∧ wx.cell? ⟨g0, 0, none⟩ = some (.string mf) ∧ wx.cell? ⟨g0, 1, none⟩ = some (.string mp) ∧ wx.cell? ⟨g0, 2, none⟩ = some (.int .i64 mq) ∧ wx.cell? ⟨g0, 3, none⟩ = some (.bool mr)) (by kernel_rfl) ⟨y0, y1, y2, y3, q0, q1, q2, q3⟩ (fun hHeld => ?_)
                  refine take_h 0 ⟨?_, ?_, ?_, by kernel_rfl, by kernel_rfl, by kernel_rfl, ?_, ?_, by assumption, ?_⟩
                  rotate_left 2
                  · (simp only [List.getElem?_toArray, List.getElem?_cons_succ, List.getElem?_cons_zero]; exact rfl)
                  · exact fun _ _ _ h => h
                  · first
                      | (refine Or.inr ⟨by rfl, ?_⟩; exact rfl)
                      | (refine Or.inl ⟨by rfl, ?_⟩
                         intro w hSw
                         (try dsimp only at hSw)
                         (try go_split_ands)
                         go_simp
                         (first | done | with_reducible rfl))
                  try simp only [Act.put, List.setIfInBounds_toArray, List.set_cons_zero, List.set_cons_succ]
                  refine take_h 1 ⟨?_, ?_, ?_, by kernel_rfl, by kernel_rfl, by kernel_rfl, ?_, ?_, by assumption, ?_⟩
                  rotate_left 2
                  · (simp only [List.getElem?_toArray, List.getElem?_cons_succ, List.getElem?_cons_zero]; exact rfl)
                  · exact fun _ _ _ h => h
                  · first
                      | (refine Or.inr ⟨by rfl, ?_⟩; exact rfl)
                      | (refine Or.inl ⟨by rfl, ?_⟩
                         intro w hSw
                         (try dsimp only at hSw)
                         (try go_split_ands)
                         go_simp
                         (first | done | with_reducible rfl))
                  try simp only [Act.put, List.setIfInBounds_toArray, List.set_cons_zero, List.set_cons_succ]
                  refine take_h 2 ⟨?_, ?_, ?_, by kernel_rfl, by kernel_rfl, by kernel_rfl, ?_, ?_, by assumption, ?_⟩
                  rotate_left 2
                  · (simp only [List.getElem?_toArray, List.getElem?_cons_succ, List.getElem?_cons_zero]; exact rfl)
                  · exact fun _ _ _ h => h
                  · first
                      | (refine Or.inr ⟨by rfl, ?_⟩; exact rfl)
                      | (refine Or.inl ⟨by rfl, ?_⟩
                         intro w hSw
                         (try dsimp only at hSw)
                         (try go_split_ands)
                         go_simp
                         (first | done | with_reducible rfl))
                  try simp only [Act.put, List.setIfInBounds_toArray, List.set_cons_zero, List.set_cons_succ]
                  refine take_h 3 ⟨?_, ?_, ?_, by kernel_rfl, by kernel_rfl, by kernel_rfl, ?_, ?_, by assumption, ?_⟩
                  rotate_left 2
                  · (simp only [List.getElem?_toArray, List.getElem?_cons_succ, List.getElem?_cons_zero]; exact rfl)
                  · exact fun _ _ _ h => h
                  · first
                      | (refine Or.inr ⟨by rfl, ?_⟩; exact rfl)
                      | (refine Or.inl ⟨by rfl, ?_⟩
                         intro w hSw
                         (try dsimp only at hSw)
                         (try go_split_ands)
                         go_simp
                         (first | done | with_reducible rfl))
                  try simp only [Act.put, List.setIfInBounds_toArray, List.set_cons_zero, List.set_cons_succ]
                  refine take_h 4 ⟨?_, ?_, ?_, by kernel_rfl, by kernel_rfl, by kernel_rfl, ?_, ?_, by assumption, ?_⟩
                  rotate_left 2
                  · (simp only [List.getElem?_toArray, List.getElem?_cons_succ, List.getElem?_cons_zero]; exact rfl)
                  · exact fun _ _ _ h => h
                  · first
                      | (refine Or.inr ⟨by rfl, ?_⟩; exact rfl)
                      | (refine Or.inl ⟨by rfl, ?_⟩
                         intro w hSw
                         (try dsimp only at hSw)
                         (try go_split_ands)
                         go_simp
                         (first | done | with_reducible rfl))
                  try simp only [Act.put, List.setIfInBounds_toArray, List.set_cons_zero, List.set_cons_succ]
                  refine take_h 5 ⟨?_, ?_, ?_, by kernel_rfl, by kernel_rfl, by kernel_rfl, ?_, ?_, by assumption, ?_⟩
                  rotate_left 2
                  · (simp only [List.getElem?_toArray, List.getElem?_cons_succ, List.getElem?_cons_zero]; exact rfl)
                  · exact fun _ _ _ h => h
                  · first
                      | (refine Or.inr ⟨by rfl, ?_⟩; exact rfl)
                      | (refine Or.inl ⟨by rfl, ?_⟩
                         intro w hSw
                         (try dsimp only at hSw)
                         (try go_split_ands)
                         go_simp
                         (first | done | with_reducible rfl))
                  try simp only [Act.put, List.setIfInBounds_toArray, List.set_cons_zero, List.set_cons_succ]
                  refine take_h 6 ⟨?_, ?_, ?_, by kernel_rfl, by kernel_rfl, by kernel_rfl, ?_, ?_, by assumption, ?_⟩
                  rotate_left 2
                  · (simp only [List.getElem?_toArray, List.getElem?_cons_succ, List.getElem?_cons_zero]; exact rfl)
                  · exact fun _ _ _ h => h
                  · first
                      | (refine Or.inr ⟨by rfl, ?_⟩; exact rfl)
                      | (refine Or.inl ⟨by rfl, ?_⟩
                         intro w hSw
                         (try dsimp only at hSw)
                         (try go_split_ands)
                         go_simp
                         (first | done | with_reducible rfl))
                  try simp only [Act.put, List.setIfInBounds_toArray, List.set_cons_zero, List.set_cons_succ]
                  refine take_h 7 ⟨?_, ?_, ?_, by kernel_rfl, by kernel_rfl, by kernel_rfl, ?_, ?_, by assumption, ?_⟩
                  rotate_left 2
                  · (simp only [List.getElem?_toArray, List.getElem?_cons_succ, List.getElem?_cons_zero]; exact rfl)
                  · exact fun _ _ _ h => h
                  · first
                      | (refine Or.inr ⟨by rfl, ?_⟩; exact rfl)
                      | (refine Or.inl ⟨by rfl, ?_⟩
                         intro w hSw
                         (try dsimp only at hSw)
                         (try go_split_ands)
                         go_simp
                         (first | done | with_reducible rfl))
                  try simp only [Act.put, List.setIfInBounds_toArray, List.set_cons_zero, List.set_cons_succ]
                  refine take_h 8 ⟨?_, ?_, ?_, by kernel_rfl, by kernel_rfl, by kernel_rfl, ?_, ?_, by assumption, ?_⟩
                  rotate_left 2
                  · (simp only [List.getElem?_toArray, List.getElem?_cons_succ, List.getElem?_cons_zero]; exact rfl)
                  · exact fun _ _ _ h => h
                  · first
                      | (refine Or.inr ⟨by rfl, ?_⟩; exact rfl)
                      | (refine Or.inl ⟨by rfl, ?_⟩
                         intro w hSw
                         (try dsimp only at hSw)
                         (try go_split_ands)
                         go_simp
                         (first | done | with_reducible rfl))
                  try simp only [Act.put, List.setIfInBounds_toArray, List.set_cons_zero, List.set_cons_succ]
                  refine take_h 9 ⟨?_, ?_, ?_, by kernel_rfl, by kernel_rfl, by kernel_rfl, ?_, ?_, by assumption, ?_⟩
                  rotate_left 2
                  · (simp only [List.getElem?_toArray, List.getElem?_cons_succ, List.getElem?_cons_zero]; exact rfl)
                  · exact fun _ _ _ h => h
                  · first
                      | (refine Or.inr ⟨by rfl, ?_⟩; exact rfl)
                      | (refine Or.inl ⟨by rfl, ?_⟩
                         intro w hSw
                         (try dsimp only at hSw)
                         (try go_split_ands)
                         go_simp
                         (first | done | with_reducible rfl))
                  try simp only [Act.put, List.setIfInBounds_toArray, List.set_cons_zero, List.set_cons_succ]
                  refine take_h 10 ⟨?_, ?_, ?_, by kernel_rfl, by kernel_rfl, by kernel_rfl, ?_, ?_, by assumption, ?_⟩
                  rotate_left 2
                  · (simp only [List.getElem?_toArray, List.getElem?_cons_succ, List.getElem?_cons_zero]; exact rfl)
                  · exact fun _ _ _ h => h
                  · first
                      | (refine Or.inr ⟨by rfl, ?_⟩; exact rfl)
                      | (refine Or.inl ⟨by rfl, ?_⟩
                         intro w hSw
                         (try dsimp only at hSw)
                         (try go_split_ands)
                         go_simp
                         (first | done | with_reducible rfl))
                  try simp only [Act.put, List.setIfInBounds_toArray, List.set_cons_zero, List.set_cons_succ]
                  refine wpAnyH_done (by kernel_rfl) ?_ _
                  clear hHeld
                  go_wp2
                  go_roundw
                  case rel => exact ⟨t + 1, by omega, by go_num, by rw [HC.out]; go_num, hbA.drew.drew.drew⟩
                  case measure => simp [intOf]; omega
            · have htX : t = X.length := by omega
              subst htX
              rw [List.take_length, HCN.out]
              obtain ⟨c, hc⟩ : ∃ c : Nat, c = (if mp.toList = [] then 0 else 1) := ⟨_, rfl⟩
              have HC := Lib.hid hc
              simp only [← hc]
              clear hcl ht htl hc
              go_upto_region 20 with fail
              go_cut [105] (fun s wx => s = .bool false ∧ wx = wr)
              case first =>
                by_cases hp0 : mp.toList = []
                · have hpb : (mp.toList == []) = true := beq_iff_eq.2 hp0
                  have hc : c = 0 := by rw [HC.out, if_pos hp0]
                  have hc1 : ((c : Int) != 1) = true := bne_iff_ne.2 (by omega)
                  have hc0 : ((c : Int) != 0) = false := by rw [hc]; rfl
                  clear hc
                  go_wp2
                  go_meet
                  exact ⟨rfl, rfl⟩
                · have hpb : (mp.toList == []) = false := beq_eq_false_iff_ne.2 hp0
                  have hc : c = 1 := by rw [HC.out, if_neg hp0]
                  have hc1 : ((c : Int) != 1) = false := by rw [hc]; rfl
                  have hc0 : ((c : Int) != 0) = true := bne_iff_ne.2 (by omega)
                  clear hc
                  go_wp2
                  go_meet
                  exact ⟨rfl, rfl⟩
              case rest =>
                obtain ⟨rfl, hcw⟩ := hcut
                subst hcw
                go_wp2
                go_loopw [10, 11, 12] (fun i _ _ wq => ∃ t : Nat, t ≤ M.length ∧ i = .int .i64 t ∧ Below we.heap.size we wq) (fun i _ _ _ => M.length - (intOf i).toNat)
                case atStart => exact ⟨0, by omega, rfl, hbA⟩
                case round =>
                  obtain ⟨t, ht, rfl, hbB⟩ := hrel
                  by_cases htl : t < M.length
                  · obtain ⟨y, hy⟩ : ∃ y, M[t]? = some y := ⟨_, List.getElem?_eq_getElem htl⟩
                    obtain ⟨b3, o3, rfl, hb3, y0, y1, y2, y3⟩ := wish_cell (HMe.out.below hbB) rfl hy
                    have q0 := cell_bel h0 hbB
                    have HFO : Hid (isF mf y = true ∨ y ∈ X) := Lib.hid (by
                      rcases HXL.out y (List.mem_of_getElem? hy) with h | h
                      · exact .inl (isF_iff.2 h)
                      · exact .inr h)
                    have HY := Lib.hid hy
                    clear hy
                    go_wp2
                    refine wp_region_held_drew (S := fun wx => wx.cell? ⟨b3, o3 + t * 4, none⟩ = some (.string y.f) ∧ wx.cell? ⟨g0, 0, none⟩ = some (.string mf)) (by kernel_rfl) ⟨y0, q0⟩ (fun hHeld => ?_)
                    refine take_h 0 ⟨?_, ?_, ?_, by kernel_rfl, by kernel_rfl, by kernel_rfl, ?_, ?_, by assumption, ?_⟩
                    rotate_left 2
                    · (simp only [List.getElem?_toArray, List.getElem?_cons_succ, List.getElem?_cons_zero]; exact rfl)
                    · exact fun _ _ _ h => h
                    · first
                        | (refine Or.inr ⟨by rfl, ?_⟩; exact rfl)
                        | (refine Or.inl ⟨by rfl, ?_⟩
                           intro w hSw
                           (try dsimp only at hSw)
                           (try go_split_ands)
                           go_simp
                           (first | done | with_reducible rfl))
                    try simp only [Act.put, List.setIfInBounds_toArray, List.set_cons_zero, List.set_cons_succ]
                    refine take_h 1 ⟨?_, ?_, ?_, by kernel_rfl, by kernel_rfl, by kernel_rfl, ?_, ?_, by assumption, ?_⟩
                    rotate_left 2
                    · (simp only [List.getElem?_toArray, List.getElem?_cons_succ, List.getElem?_cons_zero]; exact rfl)
                    · exact fun _ _ _ h => h
                    · first
                        | (refine Or.inr ⟨by rfl, ?_⟩; exact rfl)
                        | (refine Or.inl ⟨by rfl, ?_⟩
                           intro w hSw
                           (try dsimp only at hSw)
                           (try go_split_ands)
                           go_simp
                           (first | done | with_reducible rfl))
                    try simp only [Act.put, List.setIfInBounds_toArray, List.set_cons_zero, List.set_cons_succ]
                    refine take_h 2 ⟨?_, ?_, ?_, by kernel_rfl, by kernel_rfl, by kernel_rfl, ?_, ?_, by assumption, ?_⟩
                    rotate_left 2
                    · (simp only [List.getElem?_toArray, List.getElem?_cons_succ, List.getElem?_cons_zero]; exact rfl)
                    · exact fun _ _ _ h => h
                    · first
                        | (refine Or.inr ⟨by rfl, ?_⟩; exact rfl)
                        | (refine Or.inl ⟨by rfl, ?_⟩
                           intro w hSw
                           (try dsimp only at hSw)
                           (try go_split_ands)
                           go_simp
                           (first | done | with_reducible rfl))
                    try simp only [Act.put, List.setIfInBounds_toArray, List.set_cons_zero, List.set_cons_succ]
                    refine take_h 3 ⟨?_, ?_, ?_, by kernel_rfl, by kernel_rfl, by kernel_rfl, ?_, ?_, by assumption, ?_⟩
                    rotate_left 2
                    · (simp only [List.getElem?_toArray, List.getElem?_cons_succ, List.getElem?_cons_zero]; exact rfl)
                    · exact fun _ _ _ h => h
                    · first
                        | (refine Or.inr ⟨by rfl, ?_⟩; exact rfl)
                        | (refine Or.inl ⟨by rfl, ?_⟩
                           intro w hSw
                           (try dsimp only at hSw)
                           (try go_split_ands)
                           go_simp
                           (first | done | with_reducible rfl))
                    try simp only [Act.put, List.setIfInBounds_toArray, List.set_cons_zero, List.set_cons_succ]
                    refine take_h 4 ⟨?_, ?_, ?_, by kernel_rfl, by kernel_rfl, by kernel_rfl, ?_, ?_, by assumption, ?_⟩
                    rotate_left 2
                    · (simp only [List.getElem?_toArray, List.getElem?_cons_succ, List.getElem?_cons_zero]; exact rfl)
                    · exact fun _ _ _ h => h
                    · first
                        | (refine Or.inr ⟨by rfl, ?_⟩; exact rfl)
                        | (refine Or.inl ⟨by rfl, ?_⟩
                           intro w hSw
                           (try dsimp only at hSw)
                           (try go_split_ands)
                           go_simp
                           (first | done | with_reducible rfl))
                    try simp only [Act.put, List.setIfInBounds_toArray, List.set_cons_zero, List.set_cons_succ]
                    refine take_h 5 ⟨?_, ?_, ?_, by kernel_rfl, by kernel_rfl, by kernel_rfl, ?_, ?_, by assumption, ?_⟩
                    rotate_left 2
                    · (simp only [List.getElem?_toArray, List.getElem?_cons_succ, List.getElem?_cons_zero]; exact rfl)
                    · exact fun _ _ _ h => h
                    · first
                        | (refine Or.inr ⟨by rfl, ?_⟩; exact rfl)
                        | (refine Or.inl ⟨by rfl, ?_⟩
                           intro w hSw
                           (try dsimp only at hSw)
                           (try go_split_ands)
                           go_simp
                           (first | done | with_reducible rfl))
                    try simp only [Act.put, List.setIfInBounds_toArray, List.set_cons_zero, List.set_cons_succ]
                    refine take_h 6 ⟨?_, ?_, ?_, by kernel_rfl, by kernel_rfl, by kernel_rfl, ?_, ?_, by assumption, ?_⟩
                    rotate_left 2
                    · (simp only [List.getElem?_toArray, List.getElem?_cons_succ, List.getElem?_cons_zero]; exact rfl)
                    · exact fun _ _ _ h => h
                    · first
                        | (refine Or.inr ⟨by rfl, ?_⟩; exact rfl)
                        | (refine Or.inl ⟨by rfl, ?_⟩
                           intro w hSw
                           (try dsimp only at hSw)
                           (try go_split_ands)
                           go_simp
                           (first | done | with_reducible rfl))
                    try simp only [Act.put, List.setIfInBounds_toArray, List.set_cons_zero, List.set_cons_succ]
                    refine take_h 7 ⟨?_, ?_, ?_, by kernel_rfl, by kernel_rfl, by kernel_rfl, ?_, ?_, by assumption, ?_⟩
                    rotate_left 2
                    · (simp only [List.getElem?_toArray, List.getElem?_cons_succ, List.getElem?_cons_zero]; exact rfl)
                    · exact fun _ _ _ h => h
                    · first
                        | (refine Or.inr ⟨by rfl, ?_⟩; exact rfl)
                        | (refine Or.inl ⟨by rfl, ?_⟩
                           intro w hSw
                           (try dsimp only at hSw)
                           (try go_split_ands)
                           go_simp
                           (first | done | with_reducible rfl))
                    try simp only [Act.put, List.setIfInBounds_toArray, List.set_cons_zero, List.set_cons_succ]
                    refine take_h 8 ⟨?_, ?_, ?_, by kernel_rfl, by kernel_rfl, by kernel_rfl, ?_, ?_, by assumption, ?_⟩
                    rotate_left 2
                    · (simp only [List.getElem?_toArray, List.getElem?_cons_succ, List.getElem?_cons_zero]; exact rfl)
                    · exact fun _ _ _ h => h
                    · first
                        | (refine Or.inr ⟨by rfl, ?_⟩; exact rfl)
                        | (refine Or.inl ⟨by rfl, ?_⟩
                           intro w hSw
                           (try dsimp only at hSw)
                           (try go_split_ands)
                           go_simp
                           (first | done | with_reducible rfl))
                    try simp only [Act.put, List.setIfInBounds_toArray, List.set_cons_zero, List.set_cons_succ]
                    refine wpAnyH_done (by kernel_rfl) ?_ _
                    clear hHeld
                    go_wp2
                    have hbB2 := hbB.drew
                    clear q0
                    go_loopw [11, 12] (fun fb j wq => ∃ u : Nat, u ≤ X.length ∧ j = .int .i64 u ∧ fb = .bool (isF mf y || (X.take u).any (fun z => decide (z = y))) ∧ Below we.heap.size we wq) (fun _ j _ => X.length - (intOf j).toNat)
                    case atStart => exact ⟨0, by omega, rfl, by simp [isF], hbB2⟩
                    case round =>
                      obtain ⟨u, hu, rfl, rfl, hbC⟩ := hrel
                      by_cases hul : u < X.length
                      · obtain ⟨z, hz⟩ : ∃ z, X[u]? = some z := ⟨_, List.getElem?_eq_getElem hul⟩
                        obtain ⟨bx, ox, rfl, hbx, z0, z1, z2, z3⟩ := wish_cell (HX.out.below hbC) rfl hz
                        have HNX : Hid ((isF mf y || (X.take (u + 1)).any (fun z => decide (z = y))) = ((isF mf y || (X.take u).any (fun z => decide (z = y))) || decide (z = y))) := Lib.hid (by rw [wtake_snoc X u z hz, List.any_append]; simp [Bool.or_assoc])
                        clear hz
                        obtain ⟨fb, hfb⟩ : ∃ fb, fb = (isF mf y || (X.take u).any (fun z => decide (z = y))) := ⟨_, rfl⟩
                        rw [← hfb] at HNX ⊢
                        clear hfb
                        have hbBC : Below we.heap.size we wr := hbC
                        obtain ⟨c0, c1, c2, c3⟩ : wr.cell? ⟨b3, o3 + t * 4, none⟩ = some (.string y.f) ∧ wr.cell? ⟨b3, o3 + t * 4 + 1, none⟩ = some (.string y.p) ∧ wr.cell? ⟨b3, o3 + t * 4 + 2, none⟩ = some (.int .i64 y.q) ∧ wr.cell? ⟨b3, o3 + t * 4 + 3, none⟩ = some (.bool y.r) := by
                          obtain ⟨b', o', e', _, k0, k1, k2, k3⟩ := wish_cell (HMe.out.below hbC) rfl HY.out
                          injection e' with e'
                          injection e' with e1 e2
                          subst e1 e2
                          exact ⟨k0, k1, k2, k3⟩
                        cases fb
                        · have hcmp : ∀ wq : World, (binOp .eql 55 (.agg #[.string z.f, .string z.p, .int .i64 z.q, .bool z.r]) (.agg #[.string y.f, .string y.p, .int .i64 y.q, .bool y.r])).run Tryd.prog wq = .ok (.bool (decide (z = y))) wq := fun wq => eq_msg wq z y
                          go_wp2
                          refine wp_region_held_drew (S := fun wx => wx.cell? ⟨b3, o3 + t * 4, none⟩ = some (.string y.f) ∧ wx.cell? ⟨b3, o3 + t * 4 + 1, none⟩ = some (.string y.p) ∧ wx.cell? ⟨b3, o3 + t * 4 + 2, none⟩ = some (.int .i64 y.q) ∧ wx.cell? ⟨b3, o3 + t * 4 + 3, none⟩ = some (.bool y.r) ∧ wx.cell? ⟨bx, ox + u * 4, none⟩ = some (.string z.f) ∧ wx.cell? ⟨bx, ox + u * 4 + 1, none⟩ = some (.string z.p) ∧ wx.cell? ⟨bx, ox + u * 4 + 2, none⟩ = some (.int .i64 z.q) ∧ wx.cell? ⟨bx, ox + u * 4 + 3, none⟩ = some (.bool z.r)) (by kernel_rfl) ⟨c0, c1, c2, c3, z0, z1, z2, z3⟩ (fun hHeld => ?_)
                          refine take_h 0 ⟨?_, ?_, ?_, by kernel_rfl, by kernel_rfl, by kernel_rfl, ?_, ?_, by assumption, ?_⟩
                          rotate_left 2
                          · (simp only [List.getElem?_toArray, List.getElem?_cons_succ, List.getElem?_cons_zero]; exact rfl)
                          · exact fun _ _ _ h => h
                          · first
                              | (refine Or.inr ⟨by rfl, ?_⟩; exact rfl)
                              | (refine Or.inl ⟨by rfl, ?_⟩
                                 intro w hSw
                                 (try dsimp only at hSw)
                                 (try go_split_ands)
                                 go_simp
                                 (first | done | with_reducible rfl))
                          try simp only [Act.put, List.setIfInBounds_toArray, List.set_cons_zero, List.set_cons_succ]
                          refine take_h 1 ⟨?_, ?_, ?_, by kernel_rfl, by kernel_rfl, by kernel_rfl, ?_, ?_, by assumption, ?_⟩
                          rotate_left 2
                          · (simp only [List.getElem?_toArray, List.getElem?_cons_succ, List.getElem?_cons_zero]; exact rfl)
                          · exact fun _ _ _ h => h
                          · first
                              | (refine Or.inr ⟨by rfl, ?_⟩; exact rfl)
                              | (refine Or.inl ⟨by rfl, ?_⟩
                                 intro w hSw
                                 (try dsimp only at hSw)
                                 (try go_split_ands)
                                 go_simp
                                 (first | done | with_reducible rfl))
                          try simp only [Act.put, List.setIfInBounds_toArray, List.set_cons_zero, List.set_cons_succ]
                          refine take_h 2 ⟨?_, ?_, ?_, by kernel_rfl, by kernel_rfl, by kernel_rfl, ?_, ?_, by assumption, ?_⟩
                          rotate_left 2
                          · (simp only [List.getElem?_toArray, List.getElem?_cons_succ, List.getElem?_cons_zero]; exact rfl)
                          · exact fun _ _ _ h => h
                          · first
                              | (refine Or.inr ⟨by rfl, ?_⟩; exact rfl)
                              | (refine Or.inl ⟨by rfl, ?_⟩
                                 intro w hSw
                                 (try dsimp only at hSw)
                                 (try go_split_ands)
                                 go_simp
                                 (first | done | with_reducible rfl))
                          try simp only [Act.put, List.setIfInBounds_toArray, List.set_cons_zero, List.set_cons_succ]
                          refine take_h 3 ⟨?_, ?_, ?_, by kernel_rfl, by kernel_rfl, by kernel_rfl, ?_, ?_, by assumption, ?_⟩
                          rotate_left 2
                          · (simp only [List.getElem?_toArray, List.getElem?_cons_succ, List.getElem?_cons_zero]; exact rfl)
                          · exact fun _ _ _ h => h
                          · first
                              | (refine Or.inr ⟨by rfl, ?_⟩; exact rfl)
                              | (refine Or.inl ⟨by rfl, ?_⟩
                                 intro w hSw
                                 (try dsimp only at hSw)
                                 (try go_split_ands)
                                 go_simp
                                 (first | done | with_reducible rfl))
                          try simp only [Act.put, List.setIfInBounds_toArray, List.set_cons_zero, List.set_cons_succ]
                          refine take_h 4 ⟨?_, ?_, ?_, by kernel_rfl, by kernel_rfl, by kernel_rfl, ?_, ?_, by assumption, ?_⟩
                          rotate_left 2
                          · (simp only [List.getElem?_toArray, List.getElem?_cons_succ, List.getElem?_cons_zero]; exact rfl)
                          · exact fun _ _ _ h => h
                          · first
                              | (refine Or.inr ⟨by rfl, ?_⟩; exact rfl)
                              | (refine Or.inl ⟨by rfl, ?_⟩
                                 intro w hSw
                                 (try dsimp only at hSw)
                                 (try go_split_ands)
                                 go_simp
                                 (first | done | with_reducible rfl))
                          try simp only [Act.put, List.setIfInBounds_toArray, List.set_cons_zero, List.set_cons_succ]
                          refine take_h 5 ⟨?_, ?_, ?_, by kernel_rfl, by kernel_rfl, by kernel_rfl, ?_, ?_, by assumption, ?_⟩
                          rotate_left 2
                          · (simp only [List.getElem?_toArray, List.getElem?_cons_succ, List.getElem?_cons_zero]; exact rfl)
                          · exact fun _ _ _ h => h
                          · first
                              | (refine Or.inr ⟨by rfl, ?_⟩; exact rfl)
                              | (refine Or.inl ⟨by rfl, ?_⟩
                                 intro w hSw
                                 (try dsimp only at hSw)
                                 (try go_split_ands)
                                 go_simp
                                 (first | done | with_reducible rfl))
                          try simp only [Act.put, List.setIfInBounds_toArray, List.set_cons_zero, List.set_cons_succ]
                          refine take_h 6 ⟨?_, ?_, ?_, by kernel_rfl, by kernel_rfl, by kernel_rfl, ?_, ?_, by assumption, ?_⟩
                          rotate_left 2
                          · (simp only [List.getElem?_toArray, List.getElem?_cons_succ, List.getElem?_cons_zero]; exact rfl)
                          · exact fun _ _ _ h => h
                          · first
                              | (refine Or.inr ⟨by rfl, ?_⟩; exact rfl)
                              | (refine Or.inl ⟨by rfl, ?_⟩
                                 intro w hSw
                                 (try dsimp only at hSw)
                                 (try go_split_ands)
                                 go_simp
                                 (first | done | with_reducible rfl))
                          try simp only [Act.put, List.setIfInBounds_toArray, List.set_cons_zero, List.set_cons_succ]
                          refine take_h 7 ⟨?_, ?_, ?_, by kernel_rfl, by kernel_rfl, by kernel_rfl, ?_, ?_, by assumption, ?_⟩
                          rotate_left 2
                          · (simp only [List.getElem?_toArray, List.getElem?_cons_succ, List.getElem?_cons_zero]; exact rfl)
                          · exact fun _ _ _ h => h
                          · first
                              | (refine Or.inr ⟨by rfl, ?_⟩; exact rfl)
                              | (refine Or.inl ⟨by rfl, ?_⟩
                                 intro w hSw
                                 (try dsimp only at hSw)
                                 (try go_split_ands)
                                 go_simp
                                 (first | done | with_reducible rfl))
                          try simp only [Act.put, List.setIfInBounds_toArray, List.set_cons_zero, List.set_cons_succ]
                          refine take_h 8 ⟨?_, ?_, ?_, by kernel_rfl, by kernel_rfl, by kernel_rfl, ?_, ?_, by assumption, ?_⟩
                          rotate_left 2
                          · (simp only [List.getElem?_toArray, List.getElem?_cons_succ, List.getElem?_cons_zero]; exact rfl)
                          · exact fun _ _ _ h => h
                          · first
                              | (refine Or.inr ⟨by rfl, ?_⟩; exact rfl)
                              | (refine Or.inl ⟨by rfl, ?_⟩
                                 intro w hSw
                                 (try dsimp only at hSw)
                                 (try go_split_ands)
                                 go_simp
                                 (first | done | with_reducible rfl))
                          try simp only [Act.put, List.setIfInBounds_toArray, List.set_cons_zero, List.set_cons_succ]
                          refine take_h 9 ⟨?_, ?_, ?_, by kernel_rfl, by kernel_rfl, by kernel_rfl, ?_, ?_, by assumption, ?_⟩
                          rotate_left 2
                          · (simp only [List.getElem?_toArray, List.getElem?_cons_succ, List.getElem?_cons_zero]; exact rfl)
                          · exact fun _ _ _ h => h
                          · first
                              | (refine Or.inr ⟨by rfl, ?_⟩; exact rfl)
                              | (refine Or.inl ⟨by rfl, ?_⟩
                                 intro w hSw
                                 (try dsimp only at hSw)
                                 (try go_split_ands)
                                 go_simp
                                 (first | done | with_reducible rfl))
                          try simp only [Act.put, List.setIfInBounds_toArray, List.set_cons_zero, List.set_cons_succ]
                          refine take_h 10 ⟨?_, ?_, ?_, by kernel_rfl, by kernel_rfl, by kernel_rfl, ?_, ?_, by assumption, ?_⟩
                          rotate_left 2
                          · (simp only [List.getElem?_toArray, List.getElem?_cons_succ, List.getElem?_cons_zero]; exact rfl)
                          · exact fun _ _ _ h => h
                          · first
                              | (refine Or.inr ⟨by rfl, ?_⟩; exact rfl)
                              | (refine Or.inl ⟨by rfl, ?_⟩
                                 intro w hSw
                                 (try dsimp only at hSw)
                                 (try go_split_ands)
                                 go_simp
                                 (first | done | with_reducible rfl))
                          try simp only [Act.put, List.setIfInBounds_toArray, List.set_cons_zero, List.set_cons_succ]
                          refine take_h 11 ⟨?_, ?_, ?_, by kernel_rfl, by kernel_rfl, by kernel_rfl, ?_, ?_, by assumption, ?_⟩
                          rotate_left 2
                          · (simp only [List.getElem?_toArray, List.getElem?_cons_succ, List.getElem?_cons_zero]; exact rfl)
                          · exact fun _ _ _ h => h
                          · first
                              | (refine Or.inr ⟨by rfl, ?_⟩; exact rfl)
                              | (refine Or.inl ⟨by rfl, ?_⟩
                                 intro w hSw
                                 (try dsimp only at hSw)
                                 (try go_split_ands)
                                 go_simp
                                 (first | done | with_reducible rfl))
                          try simp only [Act.put, List.setIfInBounds_toArray, List.set_cons_zero, List.set_cons_succ]
                          refine take_h 12 ⟨?_, ?_, ?_, by kernel_rfl, by kernel_rfl, by kernel_rfl, ?_, ?_, by assumption, ?_⟩
                          rotate_left 2
                          · (simp only [List.getElem?_toArray, List.getElem?_cons_succ, List.getElem?_cons_zero]; exact rfl)
                          · exact fun _ _ _ h => h
                          · first
                              | (refine Or.inr ⟨by rfl, ?_⟩; exact rfl)
                              | (refine Or.inl ⟨by rfl, ?_⟩
                                 intro w hSw
                                 (try dsimp only at hSw)
                                 (try go_split_ands)
                                 go_simp
                                 (first | done | with_reducible rfl))
                          try simp only [Act.put, List.setIfInBounds_toArray, List.set_cons_zero, List.set_cons_succ]
                          refine wpAnyH_done (by kernel_rfl) ?_ _
                          clear hHeld
                          go_wp2
                          go_roundw
                          case rel => exact ⟨u + 1, by omega, by go_num, by rw [HNX.out]; rfl, hbC.drew⟩
                          case measure => simp [intOf]; omega
                        · go_wp2
                          refine wp_region_held_drew (S := fun wx => True) (by kernel_rfl) trivial (fun hHeld => ?_)
                          refine take_h 0 ⟨?_, ?_, ?_, by kernel_rfl, by kernel_rfl, by kernel_rfl, ?_, ?_, by assumption, ?_⟩
                          rotate_left 2
                          · (simp only [List.getElem?_toArray, List.getElem?_cons_succ, List.getElem?_cons_zero]; exact rfl)
                          · exact fun _ _ _ h => h
                          · first
                              | (refine Or.inr ⟨by rfl, ?_⟩; exact rfl)
                              | (refine Or.inl ⟨by rfl, ?_⟩
                                 intro w hSw
                                 (try dsimp only at hSw)
                                 (try go_split_ands)
                                 go_simp
                                 (first | done | with_reducible rfl))
                          try simp only [Act.put, List.setIfInBounds_toArray, List.set_cons_zero, List.set_cons_succ]
                          refine take_h 1 ⟨?_, ?_, ?_, by kernel_rfl, by kernel_rfl, by kernel_rfl, ?_, ?_, by assumption, ?_⟩
                          rotate_left 2
                          · (simp only [List.getElem?_toArray, List.getElem?_cons_succ, List.getElem?_cons_zero]; exact rfl)
                          · exact fun _ _ _ h => h
                          · first
                              | (refine Or.inr ⟨by rfl, ?_⟩; exact rfl)
                              | (refine Or.inl ⟨by rfl, ?_⟩
                                 intro w hSw
                                 (try dsimp only at hSw)
                                 (try go_split_ands)
                                 go_simp
                                 (first | done | with_reducible rfl))
                          try simp only [Act.put, List.setIfInBounds_toArray, List.set_cons_zero, List.set_cons_succ]
                          refine take_h 2 ⟨?_, ?_, ?_, by kernel_rfl, by kernel_rfl, by kernel_rfl, ?_, ?_, by assumption, ?_⟩
                          rotate_left 2
                          · (simp only [List.getElem?_toArray, List.getElem?_cons_succ, List.getElem?_cons_zero]; exact rfl)
                          · exact fun _ _ _ h => h
                          · first
                              | (refine Or.inr ⟨by rfl, ?_⟩; exact rfl)
                              | (refine Or.inl ⟨by rfl, ?_⟩
                                 intro w hSw
                                 (try dsimp only at hSw)
                                 (try go_split_ands)
                                 go_simp
                                 (first | done | with_reducible rfl))
                          try simp only [Act.put, List.setIfInBounds_toArray, List.set_cons_zero, List.set_cons_succ]
                          refine take_h 3 ⟨?_, ?_, ?_, by kernel_rfl, by kernel_rfl, by kernel_rfl, ?_, ?_, by assumption, ?_⟩
                          rotate_left 2
                          · (simp only [List.getElem?_toArray, List.getElem?_cons_succ, List.getElem?_cons_zero]; exact rfl)
                          · exact fun _ _ _ h => h
                          · first
                              | (refine Or.inr ⟨by rfl, ?_⟩; exact rfl)
                              | (refine Or.inl ⟨by rfl, ?_⟩
                                 intro w hSw
                                 (try dsimp only at hSw)
                                 (try go_split_ands)
                                 go_simp
                                 (first | done | with_reducible rfl))
                          try simp only [Act.put, List.setIfInBounds_toArray, List.set_cons_zero, List.set_cons_succ]
                          refine take_h 4 ⟨?_, ?_, ?_, by kernel_rfl, by kernel_rfl, by kernel_rfl, ?_, ?_, by assumption, ?_⟩
                          rotate_left 2
                          · (simp only [List.getElem?_toArray, List.getElem?_cons_succ, List.getElem?_cons_zero]; exact rfl)
                          · exact fun _ _ _ h => h
                          · first
                              | (refine Or.inr ⟨by rfl, ?_⟩; exact rfl)
                              | (refine Or.inl ⟨by rfl, ?_⟩
                                 intro w hSw
                                 (try dsimp only at hSw)
                                 (try go_split_ands)
                                 go_simp
                                 (first | done | with_reducible rfl))
                          try simp only [Act.put, List.setIfInBounds_toArray, List.set_cons_zero, List.set_cons_succ]
                          refine take_h 5 ⟨?_, ?_, ?_, by kernel_rfl, by kernel_rfl, by kernel_rfl, ?_, ?_, by assumption, ?_⟩
                          rotate_left 2
                          · (simp only [List.getElem?_toArray, List.getElem?_cons_succ, List.getElem?_cons_zero]; exact rfl)
                          · exact fun _ _ _ h => h
                          · first
                              | (refine Or.inr ⟨by rfl, ?_⟩; exact rfl)
                              | (refine Or.inl ⟨by rfl, ?_⟩
                                 intro w hSw
                                 (try dsimp only at hSw)
                                 (try go_split_ands)
                                 go_simp
                                 (first | done | with_reducible rfl))
                          try simp only [Act.put, List.setIfInBounds_toArray, List.set_cons_zero, List.set_cons_succ]
                          refine take_h 6 ⟨?_, ?_, ?_, by kernel_rfl, by kernel_rfl, by kernel_rfl, ?_, ?_, by assumption, ?_⟩
                          rotate_left 2
                          · (simp only [List.getElem?_toArray, List.getElem?_cons_succ, List.getElem?_cons_zero]; exact rfl)
                          · exact fun _ _ _ h => h
                          · first
                              | (refine Or.inr ⟨by rfl, ?_⟩; exact rfl)
                              | (refine Or.inl ⟨by rfl, ?_⟩
                                 intro w hSw
                                 (try dsimp only at hSw)
                                 (try go_split_ands)
                                 go_simp
                                 (first | done | with_reducible rfl))
                          try simp only [Act.put, List.setIfInBounds_toArray, List.set_cons_zero, List.set_cons_succ]
                          refine take_h 7 ⟨?_, ?_, ?_, by kernel_rfl, by kernel_rfl, by kernel_rfl, ?_, ?_, by assumption, ?_⟩
                          rotate_left 2
                          · (simp only [List.getElem?_toArray, List.getElem?_cons_succ, List.getElem?_cons_zero]; exact rfl)
                          · exact fun _ _ _ h => h
                          · first
                              | (refine Or.inr ⟨by rfl, ?_⟩; exact rfl)
                              | (refine Or.inl ⟨by rfl, ?_⟩
                                 intro w hSw
                                 (try dsimp only at hSw)
                                 (try go_split_ands)
                                 go_simp
                                 (first | done | with_reducible rfl))
                          try simp only [Act.put, List.setIfInBounds_toArray, List.set_cons_zero, List.set_cons_succ]
                          refine take_h 8 ⟨?_, ?_, ?_, by kernel_rfl, by kernel_rfl, by kernel_rfl, ?_, ?_, by assumption, ?_⟩
                          rotate_left 2
                          · (simp only [List.getElem?_toArray, List.getElem?_cons_succ, List.getElem?_cons_zero]; exact rfl)
                          · exact fun _ _ _ h => h
                          · first
                              | (refine Or.inr ⟨by rfl, ?_⟩; exact rfl)
                              | (refine Or.inl ⟨by rfl, ?_⟩
                                 intro w hSw
                                 (try dsimp only at hSw)
                                 (try go_split_ands)
                                 go_simp
                                 (first | done | with_reducible rfl))
                          try simp only [Act.put, List.setIfInBounds_toArray, List.set_cons_zero, List.set_cons_succ]
                          refine take_h 9 ⟨?_, ?_, ?_, by kernel_rfl, by kernel_rfl, by kernel_rfl, ?_, ?_, by assumption, ?_⟩
                          rotate_left 2
                          · (simp only [List.getElem?_toArray, List.getElem?_cons_succ, List.getElem?_cons_zero]; exact rfl)
                          · exact fun _ _ _ h => h
                          · first
                              | (refine Or.inr ⟨by rfl, ?_⟩; exact rfl)
                              | (refine Or.inl ⟨by rfl, ?_⟩
                                 intro w hSw
                                 (try dsimp only at hSw)
                                 (try go_split_ands)
                                 go_simp
                                 (first | done | with_reducible rfl))
                          try simp only [Act.put, List.setIfInBounds_toArray, List.set_cons_zero, List.set_cons_succ]
                          refine take_h 10 ⟨?_, ?_, ?_, by kernel_rfl, by kernel_rfl, by kernel_rfl, ?_, ?_, by assumption, ?_⟩
                          rotate_left 2
                          · (simp only [List.getElem?_toArray, List.getElem?_cons_succ, List.getElem?_cons_zero]; exact rfl)
                          · exact fun _ _ _ h => h
                          · first
                              | (refine Or.inr ⟨by rfl, ?_⟩; exact rfl)
                              | (refine Or.inl ⟨by rfl, ?_⟩
                                 intro w hSw
                                 (try dsimp only at hSw)
                                 (try go_split_ands)
                                 go_simp
                                 (first | done | with_reducible rfl))
                          try simp only [Act.put, List.setIfInBounds_toArray, List.set_cons_zero, List.set_cons_succ]
                          refine take_h 11 ⟨?_, ?_, ?_, by kernel_rfl, by kernel_rfl, by kernel_rfl, ?_, ?_, by assumption, ?_⟩
                          rotate_left 2
                          · (simp only [List.getElem?_toArray, List.getElem?_cons_succ, List.getElem?_cons_zero]; exact rfl)
                          · exact fun _ _ _ h => h
                          · first
                              | (refine Or.inr ⟨by rfl, ?_⟩; exact rfl)
                              | (refine Or.inl ⟨by rfl, ?_⟩
                                 intro w hSw
                                 (try dsimp only at hSw)
                                 (try go_split_ands)
                                 go_simp
                                 (first | done | with_reducible rfl))
                          try simp only [Act.put, List.setIfInBounds_toArray, List.set_cons_zero, List.set_cons_succ]
                          refine take_h 12 ⟨?_, ?_, ?_, by kernel_rfl, by kernel_rfl, by kernel_rfl, ?_, ?_, by assumption, ?_⟩
                          rotate_left 2
                          · (simp only [List.getElem?_toArray, List.getElem?_cons_succ, List.getElem?_cons_zero]; exact rfl)
                          · exact fun _ _ _ h => h
                          · first
                              | (refine Or.inr ⟨by rfl, ?_⟩; exact rfl)
                              | (refine Or.inl ⟨by rfl, ?_⟩
                                 intro w hSw
                                 (try dsimp only at hSw)
                                 (try go_split_ands)
                                 go_simp
                                 (first | done | with_reducible rfl))
                          try simp only [Act.put, List.setIfInBounds_toArray, List.set_cons_zero, List.set_cons_succ]
                          refine wpAnyH_done (by kernel_rfl) ?_ _
                          clear hHeld
                          go_wp2
                          go_roundw
                          case rel => exact ⟨u + 1, by omega, by go_num, by rw [HNX.out]; rfl, hbC.drew⟩
                          case measure => simp [intOf]; omega
                      · have huX : u = X.length := by omega
                        subst huX
                        have hfound : (isF mf y || (X.take X.length).any (fun z => decide (z = y))) = true := by
                          rw [List.take_length]
                          rcases HFO.out with h | h
                          · rw [h]; rfl
                          · rw [List.any_eq_true.2 ⟨y, h, by simp⟩, Bool.or_true]
                        rw [hfound]
                        clear hfound
                        go_wp2
                        go_roundw
                        case rel => exact ⟨t + 1, by omega, by go_num, hbC⟩
                        case measure => simp [intOf]; omega
                  · have htM : t = M.length := by omega
                    subst htM
                    have HX2 := Lib.hid ((HX.out.below hbB).more hbB.size)
                    go_wp2
                    go_roundw
                    case rel => exact ⟨k + 1, X, by omega, by omega, by go_num, HX2.out, HX1, HXR.out, bel_to hae hbB (by have := hae.size; omega)⟩
                    case measure => simp [intOf]; omega
        · have hbn : (b' == 0) = false := beq_eq_false_iff_ne.2 hb0'
          have hbn2 : (b' != 0) = true := bne_iff_ne.2 hb0'
          clear hb0' ho6
          go_wp2_with (go_at_call 28; refine (num_any _ _).mono ?_; rintro e w' ⟨rfl, rfl⟩)
          go_roundw
          case rel => exact ⟨k + 1, M, by omega, by omega, by go_num, HMe.out, HSB, HSM.out, hae⟩
          case measure => simp [intOf]; omega
      · by_cases hk : k < A.length
        · have hk25 : k = 25 := by omega
          subst hk25
          clear hlt
          have HMH : Hid (matchM M ⟨#[35]⟩ = (hits ⟨#[35]⟩ M, 0)) := Lib.hid (match_yes HSB.out (by decide +kernel))
          go_wp2_with fail
          refine (Match_any _ _ M ⟨#[35]⟩ HM'.out HSM.out (by decide) (hE.below hbw)).mono ?_
          rintro e w2 ⟨v13, rfl, ho13, hb2⟩
          rw [HMH.out] at ho13 ⊢
          have HHH := Lib.hid (hits_hash M)
          obtain ⟨n13, hn13⟩ : ∃ n13, (hits ⟨#[35]⟩ M).length = n13 := ⟨_, rfl⟩
          simp only at ho13
          rw [hn13] at ho13 HHH
          obtain ⟨a13, cap13, rfl, _, _⟩ := (Rd.of_own ho13).form
          have hbw2 := bel_tr hbw hb2
          have HM2 := Lib.hid ((HM'.out.below hb2).more hb2.size)
          clear ho13 hn13
          go_wp2
          go_loopw [15, 16, 17, 18] (fun dl i _ _ wq => ∃ t : Nat, t ≤ M.length ∧ i = .int .i64 t ∧ dl = .int .i64 ((M.take t).countP dolW : Nat) ∧ Below w2.heap.size w2 wq) (fun _ i _ _ _ => M.length - (intOf i).toNat)
          case atStart => exact ⟨0, by omega, rfl, rfl, Below.refl _ _⟩
          case round =>
            obtain ⟨t, ht, rfl, rfl, hbC⟩ := hrel
            have hbwC := bel_tr hbw2 hbC
            have hct : (M.take t).countP dolW ≤ 16 := Nat.le_trans List.countP_le_length (by rw [List.length_take]; omega)
            by_cases htl : t < M.length
            · obtain ⟨y, hy⟩ : ∃ y, M[t]? = some y := ⟨_, List.getElem?_eq_getElem htl⟩
              obtain ⟨b, o, rfl, hbl, y0, y1, y2, y3⟩ := wish_cell (HM2.out.below hbC) rfl hy
              have hyf := (nm_len (mayW_nm (mayK_may (subsB_q HSB.out t y hy)).1)).1
              have hy0 : 0 < y.f.size := hyf
              have hyl := (HSM.out t y hy).1
              have HY := Lib.hid hy
              have HMY : Hid (matchM M y.f = ([y], 0)) := Lib.hid (by rw [match_yes HSB.out (ft_name (mayW_nm (mayK_may (subsB_q HSB.out t y hy)).1)), hits_one HSB.out hy])
              have HCS := Lib.hid (countP_snoc dolW hy)
              have hhead := head_byte hy0
              clear hy
              cases hdo : dolW y
              · have HC : Hid ((M.take (t + 1)).countP dolW = (M.take t).countP dolW) := Lib.hid (by rw [HCS.out, hdo]; rfl)
                have hb36 : ((y.f[0].toNat : Int) == 36) = false := by
                  unfold dolW at hdo
                  rw [hhead] at hdo
                  exact beq_eq_false_iff_ne.2 (fun e => by
                    have e2 : y.f[0] = 36 := UInt8.toNat_inj.1 (by show y.f[0].toNat = 36; omega)
                    rw [e2] at hdo
                    simp at hdo)
                clear hdo hhead
                go_wp2_with fail
                refine (Match_any _ _ M y.f ((HM2.out.below hbC).more hbC.size) HSM.out hyl (hE.below hbwC)).mono ?_
                rintro e w3 ⟨v17, rfl, ho17, hb3⟩
                rw [HMY.out] at ho17 ⊢
                have hrd := Rd.of_own ho17
                obtain ⟨a17, cap17, rfl, hc17, hc17'⟩ := hrd.form
                obtain ⟨bz, oz, rfl, _, z0, z1, z2, z3⟩ := wish_cell (i := 0) hrd rfl rfl
                have hc171 : 1 ≤ cap17 := hc17
                have hc172 : cap17 ≤ 9223372036854775807 := by unfold maxLen at hc17'; omega
                simp only [Nat.zero_mul, Nat.add_zero] at z0 z1 z2 z3
                have hbD := bel_tr hbC hb3
                have k0 := cell_bel y0 hb3
                have k1 := cell_bel y1 hb3
                have k2 := cell_bel y2 hb3
                have k3 := cell_bel y3 hb3
                clear ho17 hrd hc17 hc17' y0 y1 y2 y3
                go_wp2
                refine wp_region_held_drew (S := fun wx => wx.cell? ⟨b, o + t * 4, none⟩ = some (.string y.f) ∧ wx.cell? ⟨b, o + t * 4 + 1, none⟩ = some (.string y.p) ∧ wx.cell? ⟨b, o + t * 4 + 2, none⟩ = some (.int .i64 y.q) ∧ wx.cell? ⟨b, o + t * 4 + 3, none⟩ = some (.bool y.r) ∧ wx.cell? ⟨bz, oz, none⟩ = some (.string y.f) ∧ wx.cell? ⟨bz, oz + 1, none⟩ = some (.string y.p) ∧ wx.cell? ⟨bz, oz + 2, none⟩ = some (.int .i64 y.q) ∧ wx.cell? ⟨bz, oz + 3, none⟩ = some (.bool y.r) ∧ Below w2.heap.size w2 wx) (by kernel_rfl) ⟨k0, k1, k2, k3, z0, z1, z2, z3, hbD.drew⟩ (fun hHeld => ?_)
                refine take_h 0 ⟨?_, ?_, ?_, by kernel_rfl, by kernel_rfl, by kernel_rfl, ?_, ?_, by assumption, ?_⟩
                rotate_left 2
                · (simp only [List.getElem?_toArray, List.getElem?_cons_succ, List.getElem?_cons_zero]; exact rfl)
                · exact fun _ _ _ h => h
                · first
                    | (refine Or.inr ⟨by rfl, ?_⟩; exact rfl)
                    | (refine Or.inl ⟨by rfl, ?_⟩
                       intro w hSw
                       (try dsimp only at hSw)
                       (try go_split_ands)
                       go_simp
                       (first | done | with_reducible rfl))
                try simp only [Act.put, List.setIfInBounds_toArray, List.set_cons_zero, List.set_cons_succ]
                refine wpAnyH_ready (rs := [1]) (by kernel_rfl) (by simp) ?_
                refine call_h 1 ⟨?_, ?_, fun K hK => ?_⟩
                rotate_left 1
                · (simp only [List.getElem?_toArray, List.getElem?_cons_succ, List.getElem?_cons_zero]; exact rfl)
                go_simp
                (go_at_call 28; refine (num_any _ _).mono ?_; rintro e w' ⟨rfl, rfl⟩)
                go_wp2_with fail
                refine hK.out _ _ hHeld (fun hHeld => ?_)
                clear hK K
                (try simp only [Act.put, List.setIfInBounds_toArray, List.set_cons_zero, List.set_cons_succ])
                refine take_h 2 ⟨?_, ?_, ?_, by kernel_rfl, by kernel_rfl, by kernel_rfl, ?_, ?_, by assumption, ?_⟩
                rotate_left 2
                · (simp only [List.getElem?_toArray, List.getElem?_cons_succ, List.getElem?_cons_zero]; exact rfl)
                · exact fun _ _ _ h => h
                · first
                    | (refine Or.inr ⟨by rfl, ?_⟩; exact rfl)
                    | (refine Or.inl ⟨by rfl, ?_⟩
                       intro w hSw
                       (try dsimp only at hSw)
                       (try go_split_ands)
                       go_simp
                       (first | done | with_reducible rfl))
                try simp only [Act.put, List.setIfInBounds_toArray, List.set_cons_zero, List.set_cons_succ]
                refine take_h 3 ⟨?_, ?_, ?_, by kernel_rfl, by kernel_rfl, by kernel_rfl, ?_, ?_, by assumption, ?_⟩
                rotate_left 2
                · (simp only [List.getElem?_toArray, List.getElem?_cons_succ, List.getElem?_cons_zero]; exact rfl)
                · exact fun _ _ _ h => h
                · first
                    | (refine Or.inr ⟨by rfl, ?_⟩; exact rfl)
                    | (refine Or.inl ⟨by rfl, ?_⟩
                       intro w hSw
                       (try dsimp only at hSw)
                       (try go_split_ands)
                       go_simp
                       (first | done | with_reducible rfl))
                try simp only [Act.put, List.setIfInBounds_toArray, List.set_cons_zero, List.set_cons_succ]
                refine take_h 4 ⟨?_, ?_, ?_, by kernel_rfl, by kernel_rfl, by kernel_rfl, ?_, ?_, by assumption, ?_⟩
                rotate_left 2
                · (simp only [List.getElem?_toArray, List.getElem?_cons_succ, List.getElem?_cons_zero]; exact rfl)
                · exact fun _ _ _ h => h
                · first
                    | (refine Or.inr ⟨by rfl, ?_⟩; exact rfl)
                    | (refine Or.inl ⟨by rfl, ?_⟩
                       intro w hSw
                       (try dsimp only at hSw)
                       (try go_split_ands)
                       go_simp
                       (first | done | with_reducible rfl))
                try simp only [Act.put, List.setIfInBounds_toArray, List.set_cons_zero, List.set_cons_succ]
                refine take_h 5 ⟨?_, ?_, ?_, by kernel_rfl, by kernel_rfl, by kernel_rfl, ?_, ?_, by assumption, ?_⟩
                rotate_left 2
                · (simp only [List.getElem?_toArray, List.getElem?_cons_succ, List.getElem?_cons_zero]; exact rfl)
                · exact fun _ _ _ h => h
                · first
                    | (refine Or.inr ⟨by rfl, ?_⟩; exact rfl)
                    | (refine Or.inl ⟨by rfl, ?_⟩
                       intro w hSw
                       (try dsimp only at hSw)
                       (try go_split_ands)
                       go_simp
                       (first | done | with_reducible rfl))
                try simp only [Act.put, List.setIfInBounds_toArray, List.set_cons_zero, List.set_cons_succ]
                refine take_h 6 ⟨?_, ?_, ?_, by kernel_rfl, by kernel_rfl, by kernel_rfl, ?_, ?_, by assumption, ?_⟩
                rotate_left 2
                · (simp only [List.getElem?_toArray, List.getElem?_cons_succ, List.getElem?_cons_zero]; exact rfl)
                · exact fun _ _ _ h => h
                · first
                    | (refine Or.inr ⟨by rfl, ?_⟩; exact rfl)
                    | (refine Or.inl ⟨by rfl, ?_⟩
                       intro w hSw
                       (try dsimp only at hSw)
                       (try go_split_ands)
                       go_simp
                       (first | done | with_reducible rfl))
                try simp only [Act.put, List.setIfInBounds_toArray, List.set_cons_zero, List.set_cons_succ]
                refine take_h 7 ⟨?_, ?_, ?_, by kernel_rfl, by kernel_rfl, by kernel_rfl, ?_, ?_, by assumption, ?_⟩
                rotate_left 2
                · (simp only [List.getElem?_toArray, List.getElem?_cons_succ, List.getElem?_cons_zero]; exact rfl)
                · exact fun _ _ _ h => h
                · first
                    | (refine Or.inr ⟨by rfl, ?_⟩; exact rfl)
                    | (refine Or.inl ⟨by rfl, ?_⟩
                       intro w hSw
                       (try dsimp only at hSw)
                       (try go_split_ands)
                       go_simp
                       (first | done | with_reducible rfl))
                try simp only [Act.put, List.setIfInBounds_toArray, List.set_cons_zero, List.set_cons_succ]
                refine take_h 8 ⟨?_, ?_, ?_, by kernel_rfl, by kernel_rfl, by kernel_rfl, ?_, ?_, by assumption, ?_⟩
                rotate_left 2
                · (simp only [List.getElem?_toArray, List.getElem?_cons_succ, List.getElem?_cons_zero]; exact rfl)
                · exact fun _ _ _ h => h
                · first
                    | (refine Or.inr ⟨by rfl, ?_⟩; exact rfl)
                    | (refine Or.inl ⟨by rfl, ?_⟩
                       intro w hSw
                       (try dsimp only at hSw)
                       (try go_split_ands)
                       go_simp
                       (first | done | with_reducible rfl))
                try simp only [Act.put, List.setIfInBounds_toArray, List.set_cons_zero, List.set_cons_succ]
                refine take_h 9 ⟨?_, ?_, ?_, by kernel_rfl, by kernel_rfl, by kernel_rfl, ?_, ?_, by assumption, ?_⟩
                rotate_left 2
                · (simp only [List.getElem?_toArray, List.getElem?_cons_succ, List.getElem?_cons_zero]; exact rfl)
                · exact fun _ _ _ h => h
                · first
                    | (refine Or.inr ⟨by rfl, ?_⟩; exact rfl)
                    | (refine Or.inl ⟨by rfl, ?_⟩
                       intro w hSw
                       (try dsimp only at hSw)
                       (try go_split_ands)
                       go_simp
                       (first | done | with_reducible rfl))
                try simp only [Act.put, List.setIfInBounds_toArray, List.set_cons_zero, List.set_cons_succ]
                refine take_h 10 ⟨?_, ?_, ?_, by kernel_rfl, by kernel_rfl, by kernel_rfl, ?_, ?_, by assumption, ?_⟩
                rotate_left 2
                · (simp only [List.getElem?_toArray, List.getElem?_cons_succ, List.getElem?_cons_zero]; exact rfl)
                · exact fun _ _ _ h => h
                · first
                    | (refine Or.inr ⟨by rfl, ?_⟩; exact rfl)
                    | (refine Or.inl ⟨by rfl, ?_⟩
                       intro w hSw
                       (try dsimp only at hSw)
                       (try go_split_ands)
                       go_simp
                       (first | done | with_reducible rfl))
                try simp only [Act.put, List.setIfInBounds_toArray, List.set_cons_zero, List.set_cons_succ]
                refine take_h 11 ⟨?_, ?_, ?_, by kernel_rfl, by kernel_rfl, by kernel_rfl, ?_, ?_, by assumption, ?_⟩
                rotate_left 2
                · (simp only [List.getElem?_toArray, List.getElem?_cons_succ, List.getElem?_cons_zero]; exact rfl)
                · exact fun _ _ _ h => h
                · first
                    | (refine Or.inr ⟨by rfl, ?_⟩; exact rfl)
                    | (refine Or.inl ⟨by rfl, ?_⟩
                       intro w hSw
                       (try dsimp only at hSw)
                       (try go_split_ands)
                       go_simp
                       (first | done | with_reducible rfl))
                try simp only [Act.put, List.setIfInBounds_toArray, List.set_cons_zero, List.set_cons_succ]
                refine take_h 12 ⟨?_, ?_, ?_, by kernel_rfl, by kernel_rfl, by kernel_rfl, ?_, ?_, by assumption, ?_⟩
                rotate_left 2
                · (simp only [List.getElem?_toArray, List.getElem?_cons_succ, List.getElem?_cons_zero]; exact rfl)
                · exact fun _ _ _ h => h
                · first
                    | (refine Or.inr ⟨by rfl, ?_⟩; exact rfl)
                    | (refine Or.inl ⟨by rfl, ?_⟩
                       intro w hSw
                       (try dsimp only at hSw)
                       (try go_split_ands)
                       go_simp
                       (first | done | with_reducible rfl))
                try simp only [Act.put, List.setIfInBounds_toArray, List.set_cons_zero, List.set_cons_succ]
                refine take_h 13 ⟨?_, ?_, ?_, by kernel_rfl, by kernel_rfl, by kernel_rfl, ?_, ?_, by assumption, ?_⟩
                rotate_left 2
                · (simp only [List.getElem?_toArray, List.getElem?_cons_succ, List.getElem?_cons_zero]; exact rfl)
                · exact fun _ _ _ h => h
                · first
                    | (refine Or.inr ⟨by rfl, ?_⟩; exact rfl)
                    | (refine Or.inl ⟨by rfl, ?_⟩
                       intro w hSw
                       (try dsimp only at hSw)
                       (try go_split_ands)
                       go_simp
                       (first | done | with_reducible rfl))
                try simp only [Act.put, List.setIfInBounds_toArray, List.set_cons_zero, List.set_cons_succ]
                refine take_h 14 ⟨?_, ?_, ?_, by kernel_rfl, by kernel_rfl, by kernel_rfl, ?_, ?_, by assumption, ?_⟩
                rotate_left 2
                · (simp only [List.getElem?_toArray, List.getElem?_cons_succ, List.getElem?_cons_zero]; exact rfl)
                · exact fun _ _ _ h => h
                · first
                    | (refine Or.inr ⟨by rfl, ?_⟩; exact rfl)
                    | (refine Or.inl ⟨by rfl, ?_⟩
                       intro w hSw
                       (try dsimp only at hSw)
                       (try go_split_ands)
                       go_simp
                       (first | done | with_reducible rfl))
                try simp only [Act.put, List.setIfInBounds_toArray, List.set_cons_zero, List.set_cons_succ]
                refine take_h 15 ⟨?_, ?_, ?_, by kernel_rfl, by kernel_rfl, by kernel_rfl, ?_, ?_, by assumption, ?_⟩
                rotate_left 2
                · (simp only [List.getElem?_toArray, List.getElem?_cons_succ, List.getElem?_cons_zero]; exact rfl)
                · exact fun _ _ _ h => h
                · first
                    | (refine Or.inr ⟨by rfl, ?_⟩; exact rfl)
                    | (refine Or.inl ⟨by rfl, ?_⟩
                       intro w hSw
                       (try dsimp only at hSw)
                       (try go_split_ands)
                       go_simp
                       (first | done | with_reducible rfl))
                try simp only [Act.put, List.setIfInBounds_toArray, List.set_cons_zero, List.set_cons_succ]
                refine take_h 16 ⟨?_, ?_, ?_, by kernel_rfl, by kernel_rfl, by kernel_rfl, ?_, ?_, by assumption, ?_⟩
                rotate_left 2
                · (simp only [List.getElem?_toArray, List.getElem?_cons_succ, List.getElem?_cons_zero]; exact rfl)
                · exact fun _ _ _ h => h
                · first
                    | (refine Or.inr ⟨by rfl, ?_⟩; exact rfl)
                    | (refine Or.inl ⟨by rfl, ?_⟩
                       intro w hSw
                       (try dsimp only at hSw)
                       (try go_split_ands)
                       go_simp
                       (first | done | with_reducible rfl))
                try simp only [Act.put, List.setIfInBounds_toArray, List.set_cons_zero, List.set_cons_succ]
                refine take_h 17 ⟨?_, ?_, ?_, by kernel_rfl, by kernel_rfl, by kernel_rfl, ?_, ?_, by assumption, ?_⟩
                rotate_left 2
                · (simp only [List.getElem?_toArray, List.getElem?_cons_succ, List.getElem?_cons_zero]; exact rfl)
                · exact fun _ _ _ h => h
                · first
                    | (refine Or.inr ⟨by rfl, ?_⟩; exact rfl)
                    | (refine Or.inl ⟨by rfl, ?_⟩
                       intro w hSw
                       (try dsimp only at hSw)
                       (try go_split_ands)
                       go_simp
                       (first | done | with_reducible rfl))
                try simp only [Act.put, List.setIfInBounds_toArray, List.set_cons_zero, List.set_cons_succ]
                refine wpAnyH_done (by kernel_rfl) ?_ _
                have hbE := hHeld.2.2.2.2.2.2.2.2
                clear hHeld
                go_wp2
                go_roundw
                case rel => exact ⟨t + 1, by omega, by go_num, by rw [HC.out], hbE⟩
                case measure => simp [intOf]; omega
              · have HC : Hid ((M.take (t + 1)).countP dolW = (M.take t).countP dolW + 1) := Lib.hid (by rw [HCS.out, hdo]; rfl)
                have hb36 : ((y.f[0].toNat : Int) == 36) = true := by
                  unfold dolW at hdo
                  rw [hhead] at hdo
                  rw [beq_iff_eq.1 hdo]; rfl
                clear hdo hhead
                go_wp2_with fail
                refine (Match_any _ _ M y.f ((HM2.out.below hbC).more hbC.size) HSM.out hyl (hE.below hbwC)).mono ?_
                rintro e w3 ⟨v17, rfl, ho17, hb3⟩
                rw [HMY.out] at ho17 ⊢
                have hrd := Rd.of_own ho17
                obtain ⟨a17, cap17, rfl, hc17, hc17'⟩ := hrd.form
                obtain ⟨bz, oz, rfl, _, z0, z1, z2, z3⟩ := wish_cell (i := 0) hrd rfl rfl
                have hc171 : 1 ≤ cap17 := hc17
                have hc172 : cap17 ≤ 9223372036854775807 := by unfold maxLen at hc17'; omega
                simp only [Nat.zero_mul, Nat.add_zero] at z0 z1 z2 z3
                have hbD := bel_tr hbC hb3
                have k0 := cell_bel y0 hb3
                have k1 := cell_bel y1 hb3
                have k2 := cell_bel y2 hb3
                have k3 := cell_bel y3 hb3
                clear ho17 hrd hc17 hc17' y0 y1 y2 y3
                go_wp2
                refine wp_region_held_drew (S := fun wx => wx.cell? ⟨b, o + t * 4, none⟩ = some (.string y.f) ∧ wx.cell? ⟨b, o + t * 4 + 1, none⟩ = some (.string y.p) ∧ wx.cell? ⟨b, o + t * 4 + 2, none⟩ = some (.int .i64 y.q) ∧ wx.cell? ⟨b, o + t * 4 + 3, none⟩ = some (.bool y.r) ∧ wx.cell? ⟨bz, oz, none⟩ = some (.string y.f) ∧ wx.cell? ⟨bz, oz + 1, none⟩ = some (.string y.p) ∧ wx.cell? ⟨bz, oz + 2, none⟩ = some (.int .i64 y.q) ∧ wx.cell? ⟨bz, oz + 3, none⟩ = some (.bool y.r) ∧ Below w2.heap.size w2 wx) (by kernel_rfl) ⟨k0, k1, k2, k3, z0, z1, z2, z3, hbD.drew⟩ (fun hHeld => ?_)
                refine take_h 0 ⟨?_, ?_, ?_, by kernel_rfl, by kernel_rfl, by kernel_rfl, ?_, ?_, by assumption, ?_⟩
                rotate_left 2
                · (simp only [List.getElem?_toArray, List.getElem?_cons_succ, List.getElem?_cons_zero]; exact rfl)
                · exact fun _ _ _ h => h
                · first
                    | (refine Or.inr ⟨by rfl, ?_⟩; exact rfl)
                    | (refine Or.inl ⟨by rfl, ?_⟩
                       intro w hSw
                       (try dsimp only at hSw)
                       (try go_split_ands)
                       go_simp
                       (first | done | with_reducible rfl))
                try simp only [Act.put, List.setIfInBounds_toArray, List.set_cons_zero, List.set_cons_succ]
                refine wpAnyH_ready (rs := [1]) (by kernel_rfl) (by simp) ?_
                refine call_h 1 ⟨?_, ?_, fun K hK => ?_⟩
                rotate_left 1
                · (simp only [List.getElem?_toArray, List.getElem?_cons_succ, List.getElem?_cons_zero]; exact rfl)
                go_simp
                (go_at_call 28; refine (num_any _ _).mono ?_; rintro e w' ⟨rfl, rfl⟩)
                go_wp2_with fail
                refine hK.out _ _ hHeld (fun hHeld => ?_)
                clear hK K
                (try simp only [Act.put, List.setIfInBounds_toArray, List.set_cons_zero, List.set_cons_succ])
                refine take_h 2 ⟨?_, ?_, ?_, by kernel_rfl, by kernel_rfl, by kernel_rfl, ?_, ?_, by assumption, ?_⟩
                rotate_left 2
                · (simp only [List.getElem?_toArray, List.getElem?_cons_succ, List.getElem?_cons_zero]; exact rfl)
                · exact fun _ _ _ h => h
                · first
                    | (refine Or.inr ⟨by rfl, ?_⟩; exact rfl)
                    | (refine Or.inl ⟨by rfl, ?_⟩
                       intro w hSw
                       (try dsimp only at hSw)
                       (try go_split_ands)
                       go_simp
                       (first | done | with_reducible rfl))
                try simp only [Act.put, List.setIfInBounds_toArray, List.set_cons_zero, List.set_cons_succ]
                refine take_h 3 ⟨?_, ?_, ?_, by kernel_rfl, by kernel_rfl, by kernel_rfl, ?_, ?_, by assumption, ?_⟩
                rotate_left 2
                · (simp only [List.getElem?_toArray, List.getElem?_cons_succ, List.getElem?_cons_zero]; exact rfl)
                · exact fun _ _ _ h => h
                · first
                    | (refine Or.inr ⟨by rfl, ?_⟩; exact rfl)
                    | (refine Or.inl ⟨by rfl, ?_⟩
                       intro w hSw
                       (try dsimp only at hSw)
                       (try go_split_ands)
                       go_simp
                       (first | done | with_reducible rfl))
                try simp only [Act.put, List.setIfInBounds_toArray, List.set_cons_zero, List.set_cons_succ]
                refine take_h 4 ⟨?_, ?_, ?_, by kernel_rfl, by kernel_rfl, by kernel_rfl, ?_, ?_, by assumption, ?_⟩
                rotate_left 2
                · (simp only [List.getElem?_toArray, List.getElem?_cons_succ, List.getElem?_cons_zero]; exact rfl)
                · exact fun _ _ _ h => h
                · first
                    | (refine Or.inr ⟨by rfl, ?_⟩; exact rfl)
                    | (refine Or.inl ⟨by rfl, ?_⟩
                       intro w hSw
                       (try dsimp only at hSw)
                       (try go_split_ands)
                       go_simp
                       (first | done | with_reducible rfl))
                try simp only [Act.put, List.setIfInBounds_toArray, List.set_cons_zero, List.set_cons_succ]
                refine take_h 5 ⟨?_, ?_, ?_, by kernel_rfl, by kernel_rfl, by kernel_rfl, ?_, ?_, by assumption, ?_⟩
                rotate_left 2
                · (simp only [List.getElem?_toArray, List.getElem?_cons_succ, List.getElem?_cons_zero]; exact rfl)
                · exact fun _ _ _ h => h
                · first
                    | (refine Or.inr ⟨by rfl, ?_⟩; exact rfl)
                    | (refine Or.inl ⟨by rfl, ?_⟩
                       intro w hSw
                       (try dsimp only at hSw)
                       (try go_split_ands)
                       go_simp
                       (first | done | with_reducible rfl))
                try simp only [Act.put, List.setIfInBounds_toArray, List.set_cons_zero, List.set_cons_succ]
                refine take_h 6 ⟨?_, ?_, ?_, by kernel_rfl, by kernel_rfl, by kernel_rfl, ?_, ?_, by assumption, ?_⟩
                rotate_left 2
                · (simp only [List.getElem?_toArray, List.getElem?_cons_succ, List.getElem?_cons_zero]; exact rfl)
                · exact fun _ _ _ h => h
                · first
                    | (refine Or.inr ⟨by rfl, ?_⟩; exact rfl)
                    | (refine Or.inl ⟨by rfl, ?_⟩
                       intro w hSw
                       (try dsimp only at hSw)
                       (try go_split_ands)
                       go_simp
                       (first | done | with_reducible rfl))
                try simp only [Act.put, List.setIfInBounds_toArray, List.set_cons_zero, List.set_cons_succ]
                refine take_h 7 ⟨?_, ?_, ?_, by kernel_rfl, by kernel_rfl, by kernel_rfl, ?_, ?_, by assumption, ?_⟩
                rotate_left 2
                · (simp only [List.getElem?_toArray, List.getElem?_cons_succ, List.getElem?_cons_zero]; exact rfl)
                · exact fun _ _ _ h => h
                · first
                    | (refine Or.inr ⟨by rfl, ?_⟩; exact rfl)
                    | (refine Or.inl ⟨by rfl, ?_⟩
                       intro w hSw
                       (try dsimp only at hSw)
                       (try go_split_ands)
                       go_simp
                       (first | done | with_reducible rfl))
                try simp only [Act.put, List.setIfInBounds_toArray, List.set_cons_zero, List.set_cons_succ]
                refine take_h 8 ⟨?_, ?_, ?_, by kernel_rfl, by kernel_rfl, by kernel_rfl, ?_, ?_, by assumption, ?_⟩
                rotate_left 2
                · (simp only [List.getElem?_toArray, List.getElem?_cons_succ, List.getElem?_cons_zero]; exact rfl)
                · exact fun _ _ _ h => h
                · first
                    | (refine Or.inr ⟨by rfl, ?_⟩; exact rfl)
                    | (refine Or.inl ⟨by rfl, ?_⟩
                       intro w hSw
                       (try dsimp only at hSw)
                       (try go_split_ands)
                       go_simp
                       (first | done | with_reducible rfl))
                try simp only [Act.put, List.setIfInBounds_toArray, List.set_cons_zero, List.set_cons_succ]
                refine take_h 9 ⟨?_, ?_, ?_, by kernel_rfl, by kernel_rfl, by kernel_rfl, ?_, ?_, by assumption, ?_⟩
                rotate_left 2
                · (simp only [List.getElem?_toArray, List.getElem?_cons_succ, List.getElem?_cons_zero]; exact rfl)
                · exact fun _ _ _ h => h
                · first
                    | (refine Or.inr ⟨by rfl, ?_⟩; exact rfl)
                    | (refine Or.inl ⟨by rfl, ?_⟩
                       intro w hSw
                       (try dsimp only at hSw)
                       (try go_split_ands)
                       go_simp
                       (first | done | with_reducible rfl))
                try simp only [Act.put, List.setIfInBounds_toArray, List.set_cons_zero, List.set_cons_succ]
                refine take_h 10 ⟨?_, ?_, ?_, by kernel_rfl, by kernel_rfl, by kernel_rfl, ?_, ?_, by assumption, ?_⟩
                rotate_left 2
                · (simp only [List.getElem?_toArray, List.getElem?_cons_succ, List.getElem?_cons_zero]; exact rfl)
                · exact fun _ _ _ h => h
                · first
                    | (refine Or.inr ⟨by rfl, ?_⟩; exact rfl)
                    | (refine Or.inl ⟨by rfl, ?_⟩
                       intro w hSw
                       (try dsimp only at hSw)
                       (try go_split_ands)
                       go_simp
                       (first | done | with_reducible rfl))
                try simp only [Act.put, List.setIfInBounds_toArray, List.set_cons_zero, List.set_cons_succ]
                refine take_h 11 ⟨?_, ?_, ?_, by kernel_rfl, by kernel_rfl, by kernel_rfl, ?_, ?_, by assumption, ?_⟩
                rotate_left 2
                · (simp only [List.getElem?_toArray, List.getElem?_cons_succ, List.getElem?_cons_zero]; exact rfl)
                · exact fun _ _ _ h => h
                · first
                    | (refine Or.inr ⟨by rfl, ?_⟩; exact rfl)
                    | (refine Or.inl ⟨by rfl, ?_⟩
                       intro w hSw
                       (try dsimp only at hSw)
                       (try go_split_ands)
                       go_simp
                       (first | done | with_reducible rfl))
                try simp only [Act.put, List.setIfInBounds_toArray, List.set_cons_zero, List.set_cons_succ]
                refine take_h 12 ⟨?_, ?_, ?_, by kernel_rfl, by kernel_rfl, by kernel_rfl, ?_, ?_, by assumption, ?_⟩
                rotate_left 2
                · (simp only [List.getElem?_toArray, List.getElem?_cons_succ, List.getElem?_cons_zero]; exact rfl)
                · exact fun _ _ _ h => h
                · first
                    | (refine Or.inr ⟨by rfl, ?_⟩; exact rfl)
                    | (refine Or.inl ⟨by rfl, ?_⟩
                       intro w hSw
                       (try dsimp only at hSw)
                       (try go_split_ands)
                       go_simp
                       (first | done | with_reducible rfl))
                try simp only [Act.put, List.setIfInBounds_toArray, List.set_cons_zero, List.set_cons_succ]
                refine take_h 13 ⟨?_, ?_, ?_, by kernel_rfl, by kernel_rfl, by kernel_rfl, ?_, ?_, by assumption, ?_⟩
                rotate_left 2
                · (simp only [List.getElem?_toArray, List.getElem?_cons_succ, List.getElem?_cons_zero]; exact rfl)
                · exact fun _ _ _ h => h
                · first
                    | (refine Or.inr ⟨by rfl, ?_⟩; exact rfl)
                    | (refine Or.inl ⟨by rfl, ?_⟩
                       intro w hSw
                       (try dsimp only at hSw)
                       (try go_split_ands)
                       go_simp
                       (first | done | with_reducible rfl))
                try simp only [Act.put, List.setIfInBounds_toArray, List.set_cons_zero, List.set_cons_succ]
                refine take_h 14 ⟨?_, ?_, ?_, by kernel_rfl, by kernel_rfl, by kernel_rfl, ?_, ?_, by assumption, ?_⟩
                rotate_left 2
                · (simp only [List.getElem?_toArray, List.getElem?_cons_succ, List.getElem?_cons_zero]; exact rfl)
                · exact fun _ _ _ h => h
                · first
                    | (refine Or.inr ⟨by rfl, ?_⟩; exact rfl)
                    | (refine Or.inl ⟨by rfl, ?_⟩
                       intro w hSw
                       (try dsimp only at hSw)
                       (try go_split_ands)
                       go_simp
                       (first | done | with_reducible rfl))
                try simp only [Act.put, List.setIfInBounds_toArray, List.set_cons_zero, List.set_cons_succ]
                refine take_h 15 ⟨?_, ?_, ?_, by kernel_rfl, by kernel_rfl, by kernel_rfl, ?_, ?_, by assumption, ?_⟩
                rotate_left 2
                · (simp only [List.getElem?_toArray, List.getElem?_cons_succ, List.getElem?_cons_zero]; exact rfl)
                · exact fun _ _ _ h => h
                · first
                    | (refine Or.inr ⟨by rfl, ?_⟩; exact rfl)
                    | (refine Or.inl ⟨by rfl, ?_⟩
                       intro w hSw
                       (try dsimp only at hSw)
                       (try go_split_ands)
                       go_simp
                       (first | done | with_reducible rfl))
                try simp only [Act.put, List.setIfInBounds_toArray, List.set_cons_zero, List.set_cons_succ]
                refine take_h 16 ⟨?_, ?_, ?_, by kernel_rfl, by kernel_rfl, by kernel_rfl, ?_, ?_, by assumption, ?_⟩
                rotate_left 2
                · (simp only [List.getElem?_toArray, List.getElem?_cons_succ, List.getElem?_cons_zero]; exact rfl)
                · exact fun _ _ _ h => h
                · first
                    | (refine Or.inr ⟨by rfl, ?_⟩; exact rfl)
                    | (refine Or.inl ⟨by rfl, ?_⟩
                       intro w hSw
                       (try dsimp only at hSw)
                       (try go_split_ands)
                       go_simp
                       (first | done | with_reducible rfl))
                try simp only [Act.put, List.setIfInBounds_toArray, List.set_cons_zero, List.set_cons_succ]
                refine take_h 17 ⟨?_, ?_, ?_, by kernel_rfl, by kernel_rfl, by kernel_rfl, ?_, ?_, by assumption, ?_⟩
                rotate_left 2
                · (simp only [List.getElem?_toArray, List.getElem?_cons_succ, List.getElem?_cons_zero]; exact rfl)
                · exact fun _ _ _ h => h
                · first
                    | (refine Or.inr ⟨by rfl, ?_⟩; exact rfl)
                    | (refine Or.inl ⟨by rfl, ?_⟩
                       intro w hSw
                       (try dsimp only at hSw)
                       (try go_split_ands)
                       go_simp
                       (first | done | with_reducible rfl))
                try simp only [Act.put, List.setIfInBounds_toArray, List.set_cons_zero, List.set_cons_succ]
                refine wpAnyH_done (by kernel_rfl) ?_ _
                have hbE := hHeld.2.2.2.2.2.2.2.2
                clear hHeld
                go_wp2
                go_roundw
                case rel => exact ⟨t + 1, by omega, by go_num, by rw [HC.out]; go_num, hbE⟩
                case measure => simp [intOf]; omega
            · have htM : t = M.length := by omega
              subst htM
              rw [List.take_length] at hct ⊢
              obtain ⟨c, hc⟩ : ∃ c, M.countP dolW = c := ⟨_, rfl⟩
              rw [hc] at hct HHH ⊢
              have hcnt : n13 + c = M.length := HHH.out
              have hcntb : ((n13 : Int) == (M.length : Int) - (c : Int)) = true := beq_iff_eq.2 (by omega)
              have HCNT := Lib.hid hcnt
              clear hc hcnt htl ht
              go_wp2_with (first | (go_at_call 28; refine (num_any _ _).mono ?_; rintro e w' ⟨rfl, rfl⟩) | (go_at_call 30; refine (kwakes_any _).mono ?_; rintro e w4 ⟨rfl, hb4⟩))
              go_ret
              exact ⟨rfl, bel_tr hbwC hb4⟩
        · have hkA : k = A.length := by omega
          subst hkA
          clear hlt
          have HMH : Hid (matchM M ⟨#[35]⟩ = (hits ⟨#[35]⟩ M, 0)) := Lib.hid (match_yes HSB.out (by decide +kernel))
          go_wp2_with fail
          refine (Match_any _ _ M ⟨#[35]⟩ HM'.out HSM.out (by decide) (hE.below hbw)).mono ?_
          rintro e w2 ⟨v13, rfl, ho13, hb2⟩
          rw [HMH.out] at ho13 ⊢
          have HHH := Lib.hid (hits_hash M)
          obtain ⟨n13, hn13⟩ : ∃ n13, (hits ⟨#[35]⟩ M).length = n13 := ⟨_, rfl⟩
          simp only at ho13
          rw [hn13] at ho13 HHH
          obtain ⟨a13, cap13, rfl, _, _⟩ := (Rd.of_own ho13).form
          have hbw2 := bel_tr hbw hb2
          have HM2 := Lib.hid ((HM'.out.below hb2).more hb2.size)
          clear ho13 hn13
          go_wp2
          go_loopw [15, 16, 17, 18] (fun dl i _ _ wq => ∃ t : Nat, t ≤ M.length ∧ i = .int .i64 t ∧ dl = .int .i64 ((M.take t).countP dolW : Nat) ∧ Below w2.heap.size w2 wq) (fun _ i _ _ _ => M.length - (intOf i).toNat)
          case atStart => exact ⟨0, by omega, rfl, rfl, Below.refl _ _⟩
          case round =>
            obtain ⟨t, ht, rfl, rfl, hbC⟩ := hrel
            have hbwC := bel_tr hbw2 hbC
            have hct : (M.take t).countP dolW ≤ 16 := Nat.le_trans List.countP_le_length (by rw [List.length_take]; omega)
            by_cases htl : t < M.length
            · obtain ⟨y, hy⟩ : ∃ y, M[t]? = some y := ⟨_, List.getElem?_eq_getElem htl⟩
              obtain ⟨b, o, rfl, hbl, y0, y1, y2, y3⟩ := wish_cell (HM2.out.below hbC) rfl hy
              have hyf := (nm_len (mayW_nm (mayK_may (subsB_q HSB.out t y hy)).1)).1
              have hy0 : 0 < y.f.size := hyf
              have hyl := (HSM.out t y hy).1
              have HY := Lib.hid hy
              have HMY : Hid (matchM M y.f = ([y], 0)) := Lib.hid (by rw [match_yes HSB.out (ft_name (mayW_nm (mayK_may (subsB_q HSB.out t y hy)).1)), hits_one HSB.out hy])
              have HCS := Lib.hid (countP_snoc dolW hy)
              have hhead := head_byte hy0
              clear hy
              cases hdo : dolW y
              · have HC : Hid ((M.take (t + 1)).countP dolW = (M.take t).countP dolW) := Lib.hid (by rw [HCS.out, hdo]; rfl)
                have hb36 : ((y.f[0].toNat : Int) == 36) = false := by
                  unfold dolW at hdo
                  rw [hhead] at hdo
                  exact beq_eq_false_iff_ne.2 (fun e => by
                    have e2 : y.f[0] = 36 := UInt8.toNat_inj.1 (by show y.f[0].toNat = 36; omega)
                    rw [e2] at hdo
                    simp at hdo)
                clear hdo hhead
                go_wp2_with fail
                refine (Match_any _ _ M y.f ((HM2.out.below hbC).more hbC.size) HSM.out hyl (hE.below hbwC)).mono ?_
                rintro e w3 ⟨v17, rfl, ho17, hb3⟩
                rw [HMY.out] at ho17 ⊢
                have hrd := Rd.of_own ho17
                obtain ⟨a17, cap17, rfl, hc17, hc17'⟩ := hrd.form
                obtain ⟨bz, oz, rfl, _, z0, z1, z2, z3⟩ := wish_cell (i := 0) hrd rfl rfl
                have hc171 : 1 ≤ cap17 := hc17
                have hc172 : cap17 ≤ 9223372036854775807 := by unfold maxLen at hc17'; omega
                simp only [Nat.zero_mul, Nat.add_zero] at z0 z1 z2 z3
                have hbD := bel_tr hbC hb3
                have k0 := cell_bel y0 hb3
                have k1 := cell_bel y1 hb3
                have k2 := cell_bel y2 hb3
                have k3 := cell_bel y3 hb3
                clear ho17 hrd hc17 hc17' y0 y1 y2 y3
                go_wp2
                refine wp_region_held_drew (S := fun wx => wx.cell? ⟨b, o + t * 4, none⟩ = some (.string y.f) ∧ wx.cell? ⟨b, o + t * 4 + 1, none⟩ = some (.string y.p) ∧ wx.cell? ⟨b, o + t * 4 + 2, none⟩ = some (.int .i64 y.q) ∧ wx.cell? ⟨b, o + t * 4 + 3, none⟩ = some (.bool y.r) ∧ wx.cell? ⟨bz, oz, none⟩ = some (.string y.f) ∧ wx.cell? ⟨bz, oz + 1, none⟩ = some (.string y.p) ∧ wx.cell? ⟨bz, oz + 2, none⟩ = some (.int .i64 y.q) ∧ wx.cell? ⟨bz, oz + 3, none⟩ = some (.bool y.r) ∧ Below w2.heap.size w2 wx) (by kernel_rfl) ⟨k0, k1, k2, k3, z0, z1, z2, z3, hbD.drew⟩ (fun hHeld => ?_)
                refine take_h 0 ⟨?_, ?_, ?_, by kernel_rfl, by kernel_rfl, by kernel_rfl, ?_, ?_, by assumption, ?_⟩
                rotate_left 2
                · (simp only [List.getElem?_toArray, List.getElem?_cons_succ, List.getElem?_cons_zero]; exact rfl)
                · exact fun _ _ _ h => h
                · first
                    | (refine Or.inr ⟨by rfl, ?_⟩; exact rfl)
                    | (refine Or.inl ⟨by rfl, ?_⟩
                       intro w hSw
                       (try dsimp only at hSw)
                       (try go_split_ands)
                       go_simp
                       (first | done | with_reducible rfl))
                try simp only [Act.put, List.setIfInBounds_toArray, List.set_cons_zero, List.set_cons_succ]
                refine wpAnyH_ready (rs := [1]) (by kernel_rfl) (by simp) ?_
                refine call_h 1 ⟨?_, ?_, fun K hK => ?_⟩
                rotate_left 1
                · (simp only [List.getElem?_toArray, List.getElem?_cons_succ, List.getElem?_cons_zero]; exact rfl)
                go_simp
                (go_at_call 28; refine (num_any _ _).mono ?_; rintro e w' ⟨rfl, rfl⟩)
                go_wp2_with fail
                refine hK.out _ _ hHeld (fun hHeld => ?_)
                clear hK K
                (try simp only [Act.put, List.setIfInBounds_toArray, List.set_cons_zero, List.set_cons_succ])
                refine take_h 2 ⟨?_, ?_, ?_, by kernel_rfl, by kernel_rfl, by kernel_rfl, ?_, ?_, by assumption, ?_⟩
                rotate_left 2
                · (simp only [List.getElem?_toArray, List.getElem?_cons_succ, List.getElem?_cons_zero]; exact rfl)
                · exact fun _ _ _ h => h
                · first
                    | (refine Or.inr ⟨by rfl, ?_⟩; exact rfl)
                    | (refine Or.inl ⟨by rfl, ?_⟩
                       intro w hSw
                       (try dsimp only at hSw)
                       (try go_split_ands)
                       go_simp
                       (first | done | with_reducible rfl))
                try simp only [Act.put, List.setIfInBounds_toArray, List.set_cons_zero, List.set_cons_succ]
                refine take_h 3 ⟨?_, ?_, ?_, by kernel_rfl, by kernel_rfl, by kernel_rfl, ?_, ?_, by assumption, ?_⟩
                rotate_left 2
                · (simp only [List.getElem?_toArray, List.getElem?_cons_succ, List.getElem?_cons_zero]; exact rfl)
                · exact fun _ _ _ h => h
                · first
                    | (refine Or.inr ⟨by rfl, ?_⟩; exact rfl)
                    | (refine Or.inl ⟨by rfl, ?_⟩
                       intro w hSw
                       (try dsimp only at hSw)
                       (try go_split_ands)
                       go_simp
                       (first | done | with_reducible rfl))
                try simp only [Act.put, List.setIfInBounds_toArray, List.set_cons_zero, List.set_cons_succ]
                refine take_h 4 ⟨?_, ?_, ?_, by kernel_rfl, by kernel_rfl, by kernel_rfl, ?_, ?_, by assumption, ?_⟩
                rotate_left 2
                · (simp only [List.getElem?_toArray, List.getElem?_cons_succ, List.getElem?_cons_zero]; exact rfl)
                · exact fun _ _ _ h => h
                · first
                    | (refine Or.inr ⟨by rfl, ?_⟩; exact rfl)
                    | (refine Or.inl ⟨by rfl, ?_⟩
                       intro w hSw
                       (try dsimp only at hSw)
                       (try go_split_ands)
                       go_simp
                       (first | done | with_reducible rfl))
                try simp only [Act.put, List.setIfInBounds_toArray, List.set_cons_zero, List.set_cons_succ]
                refine take_h 5 ⟨?_, ?_, ?_, by kernel_rfl, by kernel_rfl, by kernel_rfl, ?_, ?_, by assumption, ?_⟩
                rotate_left 2
                · (simp only [List.getElem?_toArray, List.getElem?_cons_succ, List.getElem?_cons_zero]; exact rfl)
                · exact fun _ _ _ h => h
                · first
                    | (refine Or.inr ⟨by rfl, ?_⟩; exact rfl)
                    | (refine Or.inl ⟨by rfl, ?_⟩
                       intro w hSw
                       (try dsimp only at hSw)
                       (try go_split_ands)
                       go_simp
                       (first | done | with_reducible rfl))
                try simp only [Act.put, List.setIfInBounds_toArray, List.set_cons_zero, List.set_cons_succ]
                refine take_h 6 ⟨?_, ?_, ?_, by kernel_rfl, by kernel_rfl, by kernel_rfl, ?_, ?_, by assumption, ?_⟩
                rotate_left 2
                · (simp only [List.getElem?_toArray, List.getElem?_cons_succ, List.getElem?_cons_zero]; exact rfl)
                · exact fun _ _ _ h => h
                · first
                    | (refine Or.inr ⟨by rfl, ?_⟩; exact rfl)
                    | (refine Or.inl ⟨by rfl, ?_⟩
                       intro w hSw
                       (try dsimp only at hSw)
                       (try go_split_ands)
                       go_simp
                       (first | done | with_reducible rfl))
                try simp only [Act.put, List.setIfInBounds_toArray, List.set_cons_zero, List.set_cons_succ]
                refine take_h 7 ⟨?_, ?_, ?_, by kernel_rfl, by kernel_rfl, by kernel_rfl, ?_, ?_, by assumption, ?_⟩
                rotate_left 2
                · (simp only [List.getElem?_toArray, List.getElem?_cons_succ, List.getElem?_cons_zero]; exact rfl)
                · exact fun _ _ _ h => h
                · first
                    | (refine Or.inr ⟨by rfl, ?_⟩; exact rfl)
                    | (refine Or.inl ⟨by rfl, ?_⟩
                       intro w hSw
                       (try dsimp only at hSw)
                       (try go_split_ands)
                       go_simp
                       (first | done | with_reducible rfl))
                try simp only [Act.put, List.setIfInBounds_toArray, List.set_cons_zero, List.set_cons_succ]
                refine take_h 8 ⟨?_, ?_, ?_, by kernel_rfl, by kernel_rfl, by kernel_rfl, ?_, ?_, by assumption, ?_⟩
                rotate_left 2
                · (simp only [List.getElem?_toArray, List.getElem?_cons_succ, List.getElem?_cons_zero]; exact rfl)
                · exact fun _ _ _ h => h
                · first
                    | (refine Or.inr ⟨by rfl, ?_⟩; exact rfl)
                    | (refine Or.inl ⟨by rfl, ?_⟩
                       intro w hSw
                       (try dsimp only at hSw)
                       (try go_split_ands)
                       go_simp
                       (first | done | with_reducible rfl))
                try simp only [Act.put, List.setIfInBounds_toArray, List.set_cons_zero, List.set_cons_succ]
                refine take_h 9 ⟨?_, ?_, ?_, by kernel_rfl, by kernel_rfl, by kernel_rfl, ?_, ?_, by assumption, ?_⟩
                rotate_left 2
                · (simp only [List.getElem?_toArray, List.getElem?_cons_succ, List.getElem?_cons_zero]; exact rfl)
                · exact fun _ _ _ h => h
                · first
                    | (refine Or.inr ⟨by rfl, ?_⟩; exact rfl)
                    | (refine Or.inl ⟨by rfl, ?_⟩
                       intro w hSw
                       (try dsimp only at hSw)
                       (try go_split_ands)
                       go_simp
                       (first | done | with_reducible rfl))
                try simp only [Act.put, List.setIfInBounds_toArray, List.set_cons_zero, List.set_cons_succ]
                refine take_h 10 ⟨?_, ?_, ?_, by kernel_rfl, by kernel_rfl, by kernel_rfl, ?_, ?_, by assumption, ?_⟩
                rotate_left 2
                · (simp only [List.getElem?_toArray, List.getElem?_cons_succ, List.getElem?_cons_zero]; exact rfl)
                · exact fun _ _ _ h => h
                · first
                    | (refine Or.inr ⟨by rfl, ?_⟩; exact rfl)
                    | (refine Or.inl ⟨by rfl, ?_⟩
                       intro w hSw
                       (try dsimp only at hSw)
                       (try go_split_ands)
                       go_simp
                       (first | done | with_reducible rfl))
                try simp only [Act.put, List.setIfInBounds_toArray, List.set_cons_zero, List.set_cons_succ]
                refine take_h 11 ⟨?_, ?_, ?_, by kernel_rfl, by kernel_rfl, by kernel_rfl, ?_, ?_, by assumption, ?_⟩
                rotate_left 2
                · (simp only [List.getElem?_toArray, List.getElem?_cons_succ, List.getElem?_cons_zero]; exact rfl)
                · exact fun _ _ _ h => h
                · first
                    | (refine Or.inr ⟨by rfl, ?_⟩; exact rfl)
                    | (refine Or.inl ⟨by rfl, ?_⟩
                       intro w hSw
                       (try dsimp only at hSw)
                       (try go_split_ands)
                       go_simp
                       (first | done | with_reducible rfl))
                try simp only [Act.put, List.setIfInBounds_toArray, List.set_cons_zero, List.set_cons_succ]
                refine take_h 12 ⟨?_, ?_, ?_, by kernel_rfl, by kernel_rfl, by kernel_rfl, ?_, ?_, by assumption, ?_⟩
                rotate_left 2
                · (simp only [List.getElem?_toArray, List.getElem?_cons_succ, List.getElem?_cons_zero]; exact rfl)
                · exact fun _ _ _ h => h
                · first
                    | (refine Or.inr ⟨by rfl, ?_⟩; exact rfl)
                    | (refine Or.inl ⟨by rfl, ?_⟩
                       intro w hSw
                       (try dsimp only at hSw)
                       (try go_split_ands)
                       go_simp
                       (first | done | with_reducible rfl))
                try simp only [Act.put, List.setIfInBounds_toArray, List.set_cons_zero, List.set_cons_succ]
                refine take_h 13 ⟨?_, ?_, ?_, by kernel_rfl, by kernel_rfl, by kernel_rfl, ?_, ?_, by assumption, ?_⟩
                rotate_left 2
                · (simp only [List.getElem?_toArray, List.getElem?_cons_succ, List.getElem?_cons_zero]; exact rfl)
                · exact fun _ _ _ h => h
                · first
                    | (refine Or.inr ⟨by rfl, ?_⟩; exact rfl)
                    | (refine Or.inl ⟨by rfl, ?_⟩
                       intro w hSw
                       (try dsimp only at hSw)
                       (try go_split_ands)
                       go_simp
                       (first | done | with_reducible rfl))
                try simp only [Act.put, List.setIfInBounds_toArray, List.set_cons_zero, List.set_cons_succ]
                refine take_h 14 ⟨?_, ?_, ?_, by kernel_rfl, by kernel_rfl, by kernel_rfl, ?_, ?_, by assumption, ?_⟩
                rotate_left 2
                · (simp only [List.getElem?_toArray, List.getElem?_cons_succ, List.getElem?_cons_zero]; exact rfl)
                · exact fun _ _ _ h => h
                · first
                    | (refine Or.inr ⟨by rfl, ?_⟩; exact rfl)
                    | (refine Or.inl ⟨by rfl, ?_⟩
                       intro w hSw
                       (try dsimp only at hSw)
                       (try go_split_ands)
                       go_simp
                       (first | done | with_reducible rfl))
                try simp only [Act.put, List.setIfInBounds_toArray, List.set_cons_zero, List.set_cons_succ]
                refine take_h 15 ⟨?_, ?_, ?_, by kernel_rfl, by kernel_rfl, by kernel_rfl, ?_, ?_, by assumption, ?_⟩
                rotate_left 2
                · (simp only [List.getElem?_toArray, List.getElem?_cons_succ, List.getElem?_cons_zero]; exact rfl)
                · exact fun _ _ _ h => h
                · first
                    | (refine Or.inr ⟨by rfl, ?_⟩; exact rfl)
                    | (refine Or.inl ⟨by rfl, ?_⟩
                       intro w hSw
                       (try dsimp only at hSw)
                       (try go_split_ands)
                       go_simp
                       (first | done | with_reducible rfl))
                try simp only [Act.put, List.setIfInBounds_toArray, List.set_cons_zero, List.set_cons_succ]
                refine take_h 16 ⟨?_, ?_, ?_, by kernel_rfl, by kernel_rfl, by kernel_rfl, ?_, ?_, by assumption, ?_⟩
                rotate_left 2
                · (simp only [List.getElem?_toArray, List.getElem?_cons_succ, List.getElem?_cons_zero]; exact rfl)
                · exact fun _ _ _ h => h
                · first
                    | (refine Or.inr ⟨by rfl, ?_⟩; exact rfl)
                    | (refine Or.inl ⟨by rfl, ?_⟩
                       intro w hSw
                       (try dsimp only at hSw)
                       (try go_split_ands)
                       go_simp
                       (first | done | with_reducible rfl))
                try simp only [Act.put, List.setIfInBounds_toArray, List.set_cons_zero, List.set_cons_succ]
                refine take_h 17 ⟨?_, ?_, ?_, by kernel_rfl, by kernel_rfl, by kernel_rfl, ?_, ?_, by assumption, ?_⟩
                rotate_left 2
                · (simp only [List.getElem?_toArray, List.getElem?_cons_succ, List.getElem?_cons_zero]; exact rfl)
                · exact fun _ _ _ h => h
                · first
                    | (refine Or.inr ⟨by rfl, ?_⟩; exact rfl)
                    | (refine Or.inl ⟨by rfl, ?_⟩
                       intro w hSw
                       (try dsimp only at hSw)
                       (try go_split_ands)
                       go_simp
                       (first | done | with_reducible rfl))
                try simp only [Act.put, List.setIfInBounds_toArray, List.set_cons_zero, List.set_cons_succ]
                refine wpAnyH_done (by kernel_rfl) ?_ _
                have hbE := hHeld.2.2.2.2.2.2.2.2
                clear hHeld
                go_wp2
                go_roundw
                case rel => exact ⟨t + 1, by omega, by go_num, by rw [HC.out], hbE⟩
                case measure => simp [intOf]; omega
              · have HC : Hid ((M.take (t + 1)).countP dolW = (M.take t).countP dolW + 1) := Lib.hid (by rw [HCS.out, hdo]; rfl)
                have hb36 : ((y.f[0].toNat : Int) == 36) = true := by
                  unfold dolW at hdo
                  rw [hhead] at hdo
                  rw [beq_iff_eq.1 hdo]; rfl
                clear hdo hhead
                go_wp2_with fail
                refine (Match_any _ _ M y.f ((HM2.out.below hbC).more hbC.size) HSM.out hyl (hE.below hbwC)).mono ?_
                rintro e w3 ⟨v17, rfl, ho17, hb3⟩
                rw [HMY.out] at ho17 ⊢
                have hrd := Rd.of_own ho17
                obtain ⟨a17, cap17, rfl, hc17, hc17'⟩ := hrd.form
                obtain ⟨bz, oz, rfl, _, z0, z1, z2, z3⟩ := wish_cell (i := 0) hrd rfl rfl
                have hc171 : 1 ≤ cap17 := hc17
                have hc172 : cap17 ≤ 9223372036854775807 := by unfold maxLen at hc17'; omega
                simp only [Nat.zero_mul, Nat.add_zero] at z0 z1 z2 z3
                have hbD := bel_tr hbC hb3
                have k0 := cell_bel y0 hb3
                have k1 := cell_bel y1 hb3
                have k2 := cell_bel y2 hb3
                have k3 := cell_bel y3 hb3
                clear ho17 hrd hc17 hc17' y0 y1 y2 y3
                go_wp2
                refine wp_region_held_drew (S := fun wx => wx.cell? ⟨b, o + t * 4, none⟩ = some (.string y.f) ∧ wx.cell? ⟨b, o + t * 4 + 1, none⟩ = some (.string y.p) ∧ wx.cell? ⟨b, o + t * 4 + 2, none⟩ = some (.int .i64 y.q) ∧ wx.cell? ⟨b, o + t * 4 + 3, none⟩ = some (.bool y.r) ∧ wx.cell? ⟨bz, oz, none⟩ = some (.string y.f) ∧ wx.cell? ⟨bz, oz + 1, none⟩ = some (.string y.p) ∧ wx.cell? ⟨bz, oz + 2, none⟩ = some (.int .i64 y.q) ∧ wx.cell? ⟨bz, oz + 3, none⟩ = some (.bool y.r) ∧ Below w2.heap.size w2 wx) (by kernel_rfl) ⟨k0, k1, k2, k3, z0, z1, z2, z3, hbD.drew⟩ (fun hHeld => ?_)
                refine take_h 0 ⟨?_, ?_, ?_, by kernel_rfl, by kernel_rfl, by kernel_rfl, ?_, ?_, by assumption, ?_⟩
                rotate_left 2
                · (simp only [List.getElem?_toArray, List.getElem?_cons_succ, List.getElem?_cons_zero]; exact rfl)
                · exact fun _ _ _ h => h
                · first
                    | (refine Or.inr ⟨by rfl, ?_⟩; exact rfl)
                    | (refine Or.inl ⟨by rfl, ?_⟩
                       intro w hSw
                       (try dsimp only at hSw)
                       (try go_split_ands)
                       go_simp
                       (first | done | with_reducible rfl))
                try simp only [Act.put, List.setIfInBounds_toArray, List.set_cons_zero, List.set_cons_succ]
                refine wpAnyH_ready (rs := [1]) (by kernel_rfl) (by simp) ?_
                refine call_h 1 ⟨?_, ?_, fun K hK => ?_⟩
                rotate_left 1
                · (simp only [List.getElem?_toArray, List.getElem?_cons_succ, List.getElem?_cons_zero]; exact rfl)
                go_simp
                (go_at_call 28; refine (num_any _ _).mono ?_; rintro e w' ⟨rfl, rfl⟩)
                go_wp2_with fail
                refine hK.out _ _ hHeld (fun hHeld => ?_)
                clear hK K
                (try simp only [Act.put, List.setIfInBounds_toArray, List.set_cons_zero, List.set_cons_succ])
                refine take_h 2 ⟨?_, ?_, ?_, by kernel_rfl, by kernel_rfl, by kernel_rfl, ?_, ?_, by assumption, ?_⟩
                rotate_left 2
                · (simp only [List.getElem?_toArray, List.getElem?_cons_succ, List.getElem?_cons_zero]; exact rfl)
                · exact fun _ _ _ h => h
                · first
                    | (refine Or.inr ⟨by rfl, ?_⟩; exact rfl)
                    | (refine Or.inl ⟨by rfl, ?_⟩
                       intro w hSw
                       (try dsimp only at hSw)
                       (try go_split_ands)
                       go_simp
                       (first | done | with_reducible rfl))
                try simp only [Act.put, List.setIfInBounds_toArray, List.set_cons_zero, List.set_cons_succ]
                refine take_h 3 ⟨?_, ?_, ?_, by kernel_rfl, by kernel_rfl, by kernel_rfl, ?_, ?_, by assumption, ?_⟩
                rotate_left 2
                · (simp only [List.getElem?_toArray, List.getElem?_cons_succ, List.getElem?_cons_zero]; exact rfl)
                · exact fun _ _ _ h => h
                · first
                    | (refine Or.inr ⟨by rfl, ?_⟩; exact rfl)
                    | (refine Or.inl ⟨by rfl, ?_⟩
                       intro w hSw
                       (try dsimp only at hSw)
                       (try go_split_ands)
                       go_simp
                       (first | done | with_reducible rfl))
                try simp only [Act.put, List.setIfInBounds_toArray, List.set_cons_zero, List.set_cons_succ]
                refine take_h 4 ⟨?_, ?_, ?_, by kernel_rfl, by kernel_rfl, by kernel_rfl, ?_, ?_, by assumption, ?_⟩
                rotate_left 2
                · (simp only [List.getElem?_toArray, List.getElem?_cons_succ, List.getElem?_cons_zero]; exact rfl)
                · exact fun _ _ _ h => h
                · first
                    | (refine Or.inr ⟨by rfl, ?_⟩; exact rfl)
                    | (refine Or.inl ⟨by rfl, ?_⟩
                       intro w hSw
                       (try dsimp only at hSw)
                       (try go_split_ands)
                       go_simp
                       (first | done | with_reducible rfl))
                try simp only [Act.put, List.setIfInBounds_toArray, List.set_cons_zero, List.set_cons_succ]
                refine take_h 5 ⟨?_, ?_, ?_, by kernel_rfl, by kernel_rfl, by kernel_rfl, ?_, ?_, by assumption, ?_⟩
                rotate_left 2
                · (simp only [List.getElem?_toArray, List.getElem?_cons_succ, List.getElem?_cons_zero]; exact rfl)
                · exact fun _ _ _ h => h
                · first
                    | (refine Or.inr ⟨by rfl, ?_⟩; exact rfl)
                    | (refine Or.inl ⟨by rfl, ?_⟩
                       intro w hSw
                       (try dsimp only at hSw)
                       (try go_split_ands)
                       go_simp
                       (first | done | with_reducible rfl))
                try simp only [Act.put, List.setIfInBounds_toArray, List.set_cons_zero, List.set_cons_succ]
                refine take_h 6 ⟨?_, ?_, ?_, by kernel_rfl, by kernel_rfl, by kernel_rfl, ?_, ?_, by assumption, ?_⟩
                rotate_left 2
                · (simp only [List.getElem?_toArray, List.getElem?_cons_succ, List.getElem?_cons_zero]; exact rfl)
                · exact fun _ _ _ h => h
                · first
                    | (refine Or.inr ⟨by rfl, ?_⟩; exact rfl)
                    | (refine Or.inl ⟨by rfl, ?_⟩
                       intro w hSw
                       (try dsimp only at hSw)
                       (try go_split_ands)
                       go_simp
                       (first | done | with_reducible rfl))
                try simp only [Act.put, List.setIfInBounds_toArray, List.set_cons_zero, List.set_cons_succ]
                refine take_h 7 ⟨?_, ?_, ?_, by kernel_rfl, by kernel_rfl, by kernel_rfl, ?_, ?_, by assumption, ?_⟩
                rotate_left 2
                · (simp only [List.getElem?_toArray, List.getElem?_cons_succ, List.getElem?_cons_zero]; exact rfl)
                · exact fun _ _ _ h => h
                · first
                    | (refine Or.inr ⟨by rfl, ?_⟩; exact rfl)
                    | (refine Or.inl ⟨by rfl, ?_⟩
                       intro w hSw
                       (try dsimp only at hSw)
                       (try go_split_ands)
                       go_simp
                       (first | done | with_reducible rfl))
                try simp only [Act.put, List.setIfInBounds_toArray, List.set_cons_zero, List.set_cons_succ]
                refine take_h 8 ⟨?_, ?_, ?_, by kernel_rfl, by kernel_rfl, by kernel_rfl, ?_, ?_, by assumption, ?_⟩
                rotate_left 2
                · (simp only [List.getElem?_toArray, List.getElem?_cons_succ, List.getElem?_cons_zero]; exact rfl)
                · exact fun _ _ _ h => h
                · first
                    | (refine Or.inr ⟨by rfl, ?_⟩; exact rfl)
                    | (refine Or.inl ⟨by rfl, ?_⟩
                       intro w hSw
                       (try dsimp only at hSw)
                       (try go_split_ands)
                       go_simp
                       (first | done | with_reducible rfl))
                try simp only [Act.put, List.setIfInBounds_toArray, List.set_cons_zero, List.set_cons_succ]
                refine take_h 9 ⟨?_, ?_, ?_, by kernel_rfl, by kernel_rfl, by kernel_rfl, ?_, ?_, by assumption, ?_⟩
                rotate_left 2
                · (simp only [List.getElem?_toArray, List.getElem?_cons_succ, List.getElem?_cons_zero]; exact rfl)
                · exact fun _ _ _ h => h
                · first
                    | (refine Or.inr ⟨by rfl, ?_⟩; exact rfl)
                    | (refine Or.inl ⟨by rfl, ?_⟩
                       intro w hSw
                       (try dsimp only at hSw)
                       (try go_split_ands)
                       go_simp
                       (first | done | with_reducible rfl))
                try simp only [Act.put, List.setIfInBounds_toArray, List.set_cons_zero, List.set_cons_succ]
                refine take_h 10 ⟨?_, ?_, ?_, by kernel_rfl, by kernel_rfl, by kernel_rfl, ?_, ?_, by assumption, ?_⟩
                rotate_left 2
                · (simp only [List.getElem?_toArray, List.getElem?_cons_succ, List.getElem?_cons_zero]; exact rfl)
                · exact fun _ _ _ h => h
                · first
                    | (refine Or.inr ⟨by rfl, ?_⟩; exact rfl)
                    | (refine Or.inl ⟨by rfl, ?_⟩
                       intro w hSw
                       (try dsimp only at hSw)
                       (try go_split_ands)
                       go_simp
                       (first | done | with_reducible rfl))
                try simp only [Act.put, List.setIfInBounds_toArray, List.set_cons_zero, List.set_cons_succ]
                refine take_h 11 ⟨?_, ?_, ?_, by kernel_rfl, by kernel_rfl, by kernel_rfl, ?_, ?_, by assumption, ?_⟩
                rotate_left 2
                · (simp only [List.getElem?_toArray, List.getElem?_cons_succ, List.getElem?_cons_zero]; exact rfl)
                · exact fun _ _ _ h => h
                · first
                    | (refine Or.inr ⟨by rfl, ?_⟩; exact rfl)
                    | (refine Or.inl ⟨by rfl, ?_⟩
                       intro w hSw
                       (try dsimp only at hSw)
                       (try go_split_ands)
                       go_simp
                       (first | done | with_reducible rfl))
                try simp only [Act.put, List.setIfInBounds_toArray, List.set_cons_zero, List.set_cons_succ]
                refine take_h 12 ⟨?_, ?_, ?_, by kernel_rfl, by kernel_rfl, by kernel_rfl, ?_, ?_, by assumption, ?_⟩
                rotate_left 2
                · (simp only [List.getElem?_toArray, List.getElem?_cons_succ, List.getElem?_cons_zero]; exact rfl)
                · exact fun _ _ _ h => h
                · first
                    | (refine Or.inr ⟨by rfl, ?_⟩; exact rfl)
                    | (refine Or.inl ⟨by rfl, ?_⟩
                       intro w hSw
                       (try dsimp only at hSw)
                       (try go_split_ands)
                       go_simp
                       (first | done | with_reducible rfl))
                try simp only [Act.put, List.setIfInBounds_toArray, List.set_cons_zero, List.set_cons_succ]
                refine take_h 13 ⟨?_, ?_, ?_, by kernel_rfl, by kernel_rfl, by kernel_rfl, ?_, ?_, by assumption, ?_⟩
                rotate_left 2
                · (simp only [List.getElem?_toArray, List.getElem?_cons_succ, List.getElem?_cons_zero]; exact rfl)
                · exact fun _ _ _ h => h
                · first
                    | (refine Or.inr ⟨by rfl, ?_⟩; exact rfl)
                    | (refine Or.inl ⟨by rfl, ?_⟩
                       intro w hSw
                       (try dsimp only at hSw)
                       (try go_split_ands)
                       go_simp
                       (first | done | with_reducible rfl))
                try simp only [Act.put, List.setIfInBounds_toArray, List.set_cons_zero, List.set_cons_succ]
                refine take_h 14 ⟨?_, ?_, ?_, by kernel_rfl, by kernel_rfl, by kernel_rfl, ?_, ?_, by assumption, ?_⟩
                rotate_left 2
                · (simp only [List.getElem?_toArray, List.getElem?_cons_succ, List.getElem?_cons_zero]; exact rfl)
                · exact fun _ _ _ h => h
                · first
                    | (refine Or.inr ⟨by rfl, ?_⟩; exact rfl)
                    | (refine Or.inl ⟨by rfl, ?_⟩
                       intro w hSw
                       (try dsimp only at hSw)
                       (try go_split_ands)
                       go_simp
                       (first | done | with_reducible rfl))
                try simp only [Act.put, List.setIfInBounds_toArray, List.set_cons_zero, List.set_cons_succ]
                refine take_h 15 ⟨?_, ?_, ?_, by kernel_rfl, by kernel_rfl, by kernel_rfl, ?_, ?_, by assumption, ?_⟩
                rotate_left 2
                · (simp only [List.getElem?_toArray, List.getElem?_cons_succ, List.getElem?_cons_zero]; exact rfl)
                · exact fun _ _ _ h => h
                · first
                    | (refine Or.inr ⟨by rfl, ?_⟩; exact rfl)
                    | (refine Or.inl ⟨by rfl, ?_⟩
                       intro w hSw
                       (try dsimp only at hSw)
                       (try go_split_ands)
                       go_simp
                       (first | done | with_reducible rfl))
                try simp only [Act.put, List.setIfInBounds_toArray, List.set_cons_zero, List.set_cons_succ]
                refine take_h 16 ⟨?_, ?_, ?_, by kernel_rfl, by kernel_rfl, by kernel_rfl, ?_, ?_, by assumption, ?_⟩
                rotate_left 2
                · (simp only [List.getElem?_toArray, List.getElem?_cons_succ, List.getElem?_cons_zero]; exact rfl)
                · exact fun _ _ _ h => h
                · first
                    | (refine Or.inr ⟨by rfl, ?_⟩; exact rfl)
                    | (refine Or.inl ⟨by rfl, ?_⟩
                       intro w hSw
                       (try dsimp only at hSw)
                       (try go_split_ands)
                       go_simp
                       (first | done | with_reducible rfl))
                try simp only [Act.put, List.setIfInBounds_toArray, List.set_cons_zero, List.set_cons_succ]
                refine take_h 17 ⟨?_, ?_, ?_, by kernel_rfl, by kernel_rfl, by kernel_rfl, ?_, ?_, by assumption, ?_⟩
                rotate_left 2
                · (simp only [List.getElem?_toArray, List.getElem?_cons_succ, List.getElem?_cons_zero]; exact rfl)
                · exact fun _ _ _ h => h
                · first
                    | (refine Or.inr ⟨by rfl, ?_⟩; exact rfl)
                    | (refine Or.inl ⟨by rfl, ?_⟩
                       intro w hSw
                       (try dsimp only at hSw)
                       (try go_split_ands)
                       go_simp
                       (first | done | with_reducible rfl))
                try simp only [Act.put, List.setIfInBounds_toArray, List.set_cons_zero, List.set_cons_succ]
                refine wpAnyH_done (by kernel_rfl) ?_ _
                have hbE := hHeld.2.2.2.2.2.2.2.2
                clear hHeld
                go_wp2
                go_roundw
                case rel => exact ⟨t + 1, by omega, by go_num, by rw [HC.out]; go_num, hbE⟩
                case measure => simp [intOf]; omega
            · have htM : t = M.length := by omega
              subst htM
              rw [List.take_length] at hct ⊢
              obtain ⟨c, hc⟩ : ∃ c, M.countP dolW = c := ⟨_, rfl⟩
              rw [hc] at hct HHH ⊢
              have hcnt : n13 + c = M.length := HHH.out
              have hcntb : ((n13 : Int) == (M.length : Int) - (c : Int)) = true := beq_iff_eq.2 (by omega)
              have HCNT := Lib.hid hcnt
              clear hc hcnt htl ht
              go_wp2_with (first | (go_at_call 28; refine (num_any _ _).mono ?_; rintro e w' ⟨rfl, rfl⟩) | (go_at_call 30; refine (kwakes_any _).mono ?_; rintro e w4 ⟨rfl, hb4⟩))
              go_ret
              exact ⟨rfl, bel_tr hbwC hb4⟩
  · go_wp2
    go_ret
    exact ⟨rfl, hbb1⟩
end Go.Proofs.YtimjbojoeacaeaaDoor
