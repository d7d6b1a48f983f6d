/- NicExact: the walk. -/


import Derived.Test.YtfffehbipcikoaaNcStep
namespace Go.Proofs.Ytfffehbipcikoaa
open Go.RowKit Go.MapKept

theorem NJ.left0 {w0 w w' : World} {N hi base P drop : Nat} {rx tx : QS} {In Out : List (List UInt8)} (h : NJ w0 w N rx tx hi base P In Out drop) (hl : Left [] w w') : NJ w0 w' N rx tx hi base P In Out drop := by
  obtain ⟨D, iv, ov, h1, h2, h3⟩ := h
  exact ⟨D, iv, ov, (h1.left0 hl).1, h2.left0 hl, h3.trans (hl.belowB h3.size (by simp))⟩
/-- What a round's act leaves. -/
def NR (w0 : World) (N : Nat) (rx tx : QS) (hi base P k : Nat) (w : World) : Prop := ∃ In Out drop, NJ w0 w N rx tx hi base P In Out drop ∧ drop ≤ k + 1 ∧ base ≤ w.heap.size

theorem NB.size {w0 w : World} {r N hi P drop : Nat} {rx tx : QS} {v : Value} {L : List UInt8} {In Out : List (List UInt8)} (h : NB w0 r w v L N rx tx hi (P + 1) P In Out drop) (hr : P + 1 ≤ r) : P + 1 ≤ w.heap.size ∧ w.ownsRow (P + 1) 5 1 v L.length (u8s L) := by
  obtain ⟨D, iv, ov, h1, h2, h3, h4, h5⟩ := h
  exact ⟨h2.head.lt, own_base h4 hr⟩
theorem NB.cell {w0 w : World} {r N hi base P drop : Nat} {rx tx : QS} {v : Value} {L : List UInt8} {In Out : List (List UInt8)} (h : NB w0 r w v L N rx tx hi base P In Out drop) {p : Addr} {u : Value} (hp : p.block < w0.heap.size) (hc : w0.cell? p = some u) : w.cell? p = some u := by
  obtain ⟨D, iv, ov, h1, h2, h3, h4, h5⟩ := h
  exact (h3.cell hp).trans hc
set_option maxRecDepth 20000 in
set_option maxHeartbeats 4000000 in
theorem NicExact_any (lv : Value) (acts : List Act3) (w : World) (h : ActsAt3 w w.heap.size lv acts) :
    Calls Try.prog 12 #[lv] w fun e w' => e = .returned (.bool true) ∧ Below w.heap.size w w' := by
  obtain ⟨ao, cap, rfl, hc1, hc2, hacts⟩ := h
  have HA : Hid (ActsAt3 w w.heap.size (.slice ao acts.length cap) acts) := Lib.hid ⟨ao, cap, rfl, hc1, hc2, hacts⟩
  clear hacts
  go_enter Try.func12, Try.ntmps12
  by_cases h400 : 400 < acts.length
  · go_wp2
    go_ret
    exact ⟨rfl, Below.refl _ _⟩
  · go_wp2_with fail
    refine (NNew_any w).mono ?_
    rintro e w1 ⟨N, rx, tx, hi, rfl, hG, hb1⟩
    have HG := Lib.hid hG
    have hz1 := hb1.size
    have hhi := hG.hi_
    clear hG
    go_upto_region 7 with fail
    have h0 : NJ w (w1.alloc (.cells #[.slice none 0 0, .slice none 0 0, .int .i64 0] 100)) N rx tx hi (w1.heap.size + 1) w1.heap.size [] [] 0 :=
      ⟨[], _, _, (HG.out.left0 ((Left.refl [] w1).alloc _)).1, ⟨Whole.new _ _ _, ⟨[], Row.nil_ _ _ _ _, fun j f x hj => by simp at hj⟩, ⟨[], Row.nil_ _ _ _ _, fun j f x hj => by simp at hj⟩, (fun k hk => by simp [Value.ownBlock] at hk), (fun k hk => by simp at hk), by omega⟩, hb1.alloc hz1 _⟩
    have H0 := Lib.hid h0
    have hzA : (w1.alloc (.cells #[.slice none 0 0, .slice none 0 0, .int .i64 0] 100)).heap.size = w1.heap.size + 1 := by simp
    generalize w1.alloc (.cells #[.slice none 0 0, .slice none 0 0, .int .i64 0] 100) = wA at H0 hzA ⊢
    obtain ⟨P, hP⟩ : ∃ P, w1.heap.size = P := ⟨_, rfl⟩
    rw [hP] at H0 hzA hz1 hhi ⊢
    clear h0 HG hb1 hP
    go_wp2
    go_loopw [5] (fun i wr => ∃ (k : Nat) (In Out : List (List UInt8)) (drop : Nat), i = .int .i64 k ∧ k ≤ 120 ∧ drop ≤ k ∧ P + 1 ≤ wr.heap.size ∧ Hid (NJ w wr N rx tx hi (P + 1) P In Out drop)) (fun i _ => 120 - (intOf i).toNat)
    case atStart => exact ⟨0, [], [], 0, rfl, by omega, by omega, by omega, H0⟩
    case round =>
      obtain ⟨k, In, Out, drop, rfl, hk, hdk, hzr, HJ⟩ := hrel
      have hbw : Below w.heap.size w wr := by obtain ⟨_, _, _, _, _, h3⟩ := HJ.out; exact h3
      by_cases hlt : k < acts.length ∧ k < 120
      · obtain ⟨hk1, hk2⟩ := hlt
        obtain ⟨a, ha⟩ : ∃ a, acts[k]? = some a := ⟨_, List.getElem?_eq_getElem hk1⟩
        obtain ⟨b, o, e0, hA⟩ := act3_get HA.out ha
        subst e0
        obtain ⟨c0o, bv, d1o, hr0, hbl⟩ := hA
        have c0 := (hbw.cell (p := ⟨b, o + k * 2, none⟩) hbl).trans c0o
        have c1 := (hbw.cell (p := ⟨b, o + k * 2 + 1, none⟩) hbl).trans d1o
        have hr := hr0.below hbw
        obtain ⟨bvo, bvc, rfl, hbc, hbm⟩ := hr.form
        have hbm2 : bvc ≤ 9223372036854775807 := by unfold maxLen at hbm; omega
        have HRr := Lib.hid hr
        clear hr0 hr hbm ha
        by_cases hbig : 3000 < a.b.length
        · go_wp2
          go_ret
          exact ⟨rfl, hbw⟩
        · obtain ⟨y, hy⟩ : ∃ y, within a.dk 10 = y := ⟨_, rfl⟩
          have hy0 := within_nn a.dk 10 (by omega)
          have hy1 := within_lt a.dk 10 (by omega)
          rw [hy] at hy0 hy1
          have HY := Lib.hid hy
          clear hy
          go_wp2_with fail
          refine (CopyBytes_n wr _ a.b.length a.b w.heap.size rfl HRr.out hbw.size (by omega)).mono ?_
          rintro e wb ⟨v, rfl, hown, hbb⟩
          obtain ⟨bo, bc, rfl, _, _⟩ := (Rd.of_own hown).form
          have HNB := Lib.hid (HJ.out.toNB hbb hown)
          have HJB := Lib.hid (HJ.out.left0 (Left.of_below hbb []))
          have hzb := hbb.size
          have hzw := hbw.size
          have d0 := (hbb.cell (p := ⟨b, o + k * 2, none⟩) (by simp only; omega)).trans c0
          have d1 := (hbb.cell (p := ⟨b, o + k * 2 + 1, none⟩) (by simp only; omega)).trans c1
          have HRB := Lib.hid (HRr.out.below (hbb.mono (by omega)))
          clear hown hbb c0 c1 c0o
          go_upto_block 2 with (go_at_call 21; refine (Within_any _ _ 10 (by omega) (by omega)).mono ?_; rintro e w' ⟨rfl, rfl⟩; rw [HY.out])
          go_cut [7] (fun _ wx => NR w N rx tx hi (P + 1) P k wx)
          case first =>
            by_cases hy4 : y = 4
            · subst hy4
              as_aux_lemma =>
                obtain ⟨ok, L, M, hL, hc1, hc2⟩ := HJB.out.poll (by omega) (by omega) (by omega)
                have HC1 := Lib.hid hc1
                have HC2 := Lib.hid hc2
                clear hc1 hc2
                go_wp2_with fail
                refine HC1.out.mono ?_
                rintro e w2 ⟨v1, rfl, hM, xo, xc, rfl⟩
                have HM := Lib.hid hM
                clear hM
                go_wp2_with fail
                refine (HC2.out _ w2 HM.out).mono ?_
                rintro e w5 ⟨x, rfl, ⟨yo, yc, rfl⟩, hrd, In', hN⟩
                obtain ⟨hz5, own5⟩ := hN.size (by omega)
                have HE := Lib.hid (EqBytes_any w5 (.slice xo L.length xc) (.slice yo L.length yc) L L _ _ (Rd.of_own own5) hrd)
                have HN5 := Lib.hid hN
                clear hN own5 hrd
                cases ok
                · go_wp2_with fail
                  refine HE.out.mono ?_
                  rintro e w3 ⟨rfl, hb3⟩
                  try simp only [decide_true]
                  have HN3 := Lib.hid (HN5.out.left0 (Left.of_below hb3 []))
                  clear hb3
                  obtain ⟨hz3, own3⟩ := HN3.out.size (by omega)
                  have HOW := Lib.hid own3
                  clear own3
                  go_wp2_with (go_at_call 30; refine (Bytes_left w3 _ _ L HOW.out hz3 (by omega)).mono ?_; rintro e w4 ⟨rfl, hl4⟩)
                  go_meet
                  exact ⟨_, _, _, HN3.out.spoil hl4 (by omega) (by omega) (by omega), by omega, by have := hl4.size; omega⟩
                · go_wp2_with fail
                  refine HE.out.mono ?_
                  rintro e w3 ⟨rfl, hb3⟩
                  try simp only [decide_true]
                  have HN3 := Lib.hid (HN5.out.left0 (Left.of_below hb3 []))
                  clear hb3
                  obtain ⟨hz3, own3⟩ := HN3.out.size (by omega)
                  have HOW := Lib.hid own3
                  clear own3
                  go_wp2_with (go_at_call 30; refine (Bytes_left w3 _ _ L HOW.out hz3 (by omega)).mono ?_; rintro e w4 ⟨rfl, hl4⟩)
                  go_meet
                  exact ⟨_, _, _, HN3.out.spoil hl4 (by omega) (by omega) (by omega), by omega, by have := hl4.size; omega⟩
            · by_cases hy5 : y = 5
              · subst hy5
                as_aux_lemma =>
                  obtain ⟨ok, L, M, hL, hc1, hc2⟩ := HJB.out.poll (by omega) (by omega) (by omega)
                  have HC1 := Lib.hid hc1
                  have HC2 := Lib.hid hc2
                  clear hc1 hc2
                  go_wp2_with fail
                  refine HC1.out.mono ?_
                  rintro e w2 ⟨v1, rfl, hM, xo, xc, rfl⟩
                  have HM := Lib.hid hM
                  clear hM
                  go_wp2_with fail
                  refine (HC2.out _ w2 HM.out).mono ?_
                  rintro e w5 ⟨x, rfl, ⟨yo, yc, rfl⟩, hrd, In', hN⟩
                  obtain ⟨hz5, own5⟩ := hN.size (by omega)
                  have HE := Lib.hid (EqBytes_any w5 (.slice xo L.length xc) (.slice yo L.length yc) L L _ _ (Rd.of_own own5) hrd)
                  have HN5 := Lib.hid hN
                  clear hN own5 hrd
                  cases ok
                  · go_wp2_with fail
                    refine HE.out.mono ?_
                    rintro e w3 ⟨rfl, hb3⟩
                    try simp only [decide_true]
                    have HN3 := Lib.hid (HN5.out.left0 (Left.of_below hb3 []))
                    clear hb3
                    obtain ⟨hz3, own3⟩ := HN3.out.size (by omega)
                    have HOW := Lib.hid own3
                    clear own3
                    go_wp2_with (go_at_call 30; refine (Bytes_left w3 _ _ L HOW.out hz3 (by omega)).mono ?_; rintro e w4 ⟨rfl, hl4⟩)
                    go_meet
                    exact ⟨_, _, _, HN3.out.spoil hl4 (by omega) (by omega) (by omega), by omega, by have := hl4.size; omega⟩
                  · go_wp2_with fail
                    refine HE.out.mono ?_
                    rintro e w3 ⟨rfl, hb3⟩
                    try simp only [decide_true]
                    have HN3 := Lib.hid (HN5.out.left0 (Left.of_below hb3 []))
                    clear hb3
                    obtain ⟨hz3, own3⟩ := HN3.out.size (by omega)
                    have HOW := Lib.hid own3
                    clear own3
                    go_wp2_with (go_at_call 30; refine (Bytes_left w3 _ _ L HOW.out hz3 (by omega)).mono ?_; rintro e w4 ⟨rfl, hl4⟩)
                    go_meet
                    exact ⟨_, _, _, HN3.out.spoil hl4 (by omega) (by omega) (by omega), by omega, by have := hl4.size; omega⟩
              · by_cases hy6 : y = 6
                · subst hy6
                  as_aux_lemma =>
                    obtain ⟨er, M, hc1, hc2⟩ := (HNB.out.left0 ((Left.refl [] wb).drew)).send (bv := .slice bvo a.b.length bvc) (B0 := w.heap.size) (by omega) (show wr.heap.size ≤ wb.drew.heap.size from hzb) (by omega) (by omega) (Nat.le_refl _) (show Rd wb.drew _ 1 _ _ _ from HRB.out)
                    have HC1 := Lib.hid hc1
                    have HC2 := Lib.hid hc2
                    clear hc1 hc2
                    go_upto_region 27 with fail
                    refine wp_region_held_drew (S := fun wx => wx.cell? ⟨b, o + k * 2 + 1, none⟩ = some (.slice bvo a.b.length bvc)) (by kernel_rfl) d1 (fun hHeld => ?_)
                    refine take_h 0 ⟨?_, ?_, ?_, by kernel_rfl, by kernel_rfl, by kernel_rfl, ?_, ?_, by assumption, ?_⟩
                    rotate_left 2
                    · (simp only [List.getElem?_toArray, List.getElem?_cons_zero]; exact rfl)
                    · exact fun _ _ _ h => h
                    · first
                        | (refine Or.inr ⟨by rfl, ?_⟩; exact rfl)
                        | (refine Or.inl ⟨by rfl, ?_⟩
                           intro w hSw
                           (try dsimp only at hSw)
                           (try go_split_ands)
                           go_simp
                           (first | done | with_reducible rfl))
                    try simp only [Act.put, List.setIfInBounds_toArray, List.set_cons_zero, List.set_cons_succ]
                    refine take_h 1 ⟨?_, ?_, ?_, by kernel_rfl, by kernel_rfl, by kernel_rfl, ?_, ?_, by assumption, ?_⟩
                    rotate_left 2
                    · (simp only [List.getElem?_toArray, List.getElem?_cons_succ, List.getElem?_cons_zero]; exact rfl)
                    · exact fun _ _ _ h => h
                    · first
                        | (refine Or.inr ⟨by rfl, ?_⟩; exact rfl)
                        | (refine Or.inl ⟨by rfl, ?_⟩
                           intro w hSw
                           (try dsimp only at hSw)
                           (try go_split_ands)
                           go_simp
                           (first | done | with_reducible rfl))
                    try simp only [Act.put, List.setIfInBounds_toArray, List.set_cons_zero, List.set_cons_succ]
                    refine take_h 4 ⟨?_, ?_, ?_, by kernel_rfl, by kernel_rfl, by kernel_rfl, ?_, ?_, by assumption, ?_⟩
                    rotate_left 2
                    · (simp only [List.getElem?_toArray, List.getElem?_cons_succ, List.getElem?_cons_zero]; exact rfl)
                    · exact fun _ _ _ h => h
                    · first
                        | (refine Or.inr ⟨by rfl, ?_⟩; exact rfl)
                        | (refine Or.inl ⟨by rfl, ?_⟩
                           intro w hSw
                           (try dsimp only at hSw)
                           (try go_split_ands)
                           go_simp
                           (first | done | with_reducible rfl))
                    try simp only [Act.put, List.setIfInBounds_toArray, List.set_cons_zero, List.set_cons_succ]
                    refine take_h 5 ⟨?_, ?_, ?_, by kernel_rfl, by kernel_rfl, by kernel_rfl, ?_, ?_, by assumption, ?_⟩
                    rotate_left 2
                    · (simp only [List.getElem?_toArray, List.getElem?_cons_succ, List.getElem?_cons_zero]; exact rfl)
                    · exact fun _ _ _ h => h
                    · first
                        | (refine Or.inr ⟨by rfl, ?_⟩; exact rfl)
                        | (refine Or.inl ⟨by rfl, ?_⟩
                           intro w hSw
                           (try dsimp only at hSw)
                           (try go_split_ands)
                           go_simp
                           (first | done | with_reducible rfl))
                    try simp only [Act.put, List.setIfInBounds_toArray, List.set_cons_zero, List.set_cons_succ]
                    refine take_h 6 ⟨?_, ?_, ?_, by kernel_rfl, by kernel_rfl, by kernel_rfl, ?_, ?_, by assumption, ?_⟩
                    rotate_left 2
                    · (simp only [List.getElem?_toArray, List.getElem?_cons_succ, List.getElem?_cons_zero]; exact rfl)
                    · exact fun _ _ _ h => h
                    · first
                        | (refine Or.inr ⟨by rfl, ?_⟩; exact rfl)
                        | (refine Or.inl ⟨by rfl, ?_⟩
                           intro w hSw
                           (try dsimp only at hSw)
                           (try go_split_ands)
                           go_simp
                           (first | done | with_reducible rfl))
                    try simp only [Act.put, List.setIfInBounds_toArray, List.set_cons_zero, List.set_cons_succ]
                    refine take_h 7 ⟨?_, ?_, ?_, by kernel_rfl, by kernel_rfl, by kernel_rfl, ?_, ?_, by assumption, ?_⟩
                    rotate_left 2
                    · (simp only [List.getElem?_toArray, List.getElem?_cons_succ, List.getElem?_cons_zero]; exact rfl)
                    · exact fun _ _ _ h => h
                    · first
                        | (refine Or.inr ⟨by rfl, ?_⟩; exact rfl)
                        | (refine Or.inl ⟨by rfl, ?_⟩
                           intro w hSw
                           (try dsimp only at hSw)
                           (try go_split_ands)
                           go_simp
                           (first | done | with_reducible rfl))
                    try simp only [Act.put, List.setIfInBounds_toArray, List.set_cons_zero, List.set_cons_succ]
                    refine take_h 8 ⟨?_, ?_, ?_, by kernel_rfl, by kernel_rfl, by kernel_rfl, ?_, ?_, by assumption, ?_⟩
                    rotate_left 2
                    · (simp only [List.getElem?_toArray, List.getElem?_cons_succ, List.getElem?_cons_zero]; exact rfl)
                    · exact fun _ _ _ h => h
                    · first
                        | (refine Or.inr ⟨by rfl, ?_⟩; exact rfl)
                        | (refine Or.inl ⟨by rfl, ?_⟩
                           intro w hSw
                           (try dsimp only at hSw)
                           (try go_split_ands)
                           go_simp
                           (first | done | with_reducible rfl))
                    try simp only [Act.put, List.setIfInBounds_toArray, List.set_cons_zero, List.set_cons_succ]
                    refine take_h 9 ⟨?_, ?_, ?_, by kernel_rfl, by kernel_rfl, by kernel_rfl, ?_, ?_, by assumption, ?_⟩
                    rotate_left 2
                    · (simp only [List.getElem?_toArray, List.getElem?_cons_succ, List.getElem?_cons_zero]; exact rfl)
                    · exact fun _ _ _ h => h
                    · first
                        | (refine Or.inr ⟨by rfl, ?_⟩; exact rfl)
                        | (refine Or.inl ⟨by rfl, ?_⟩
                           intro w hSw
                           (try dsimp only at hSw)
                           (try go_split_ands)
                           go_simp
                           (first | done | with_reducible rfl))
                    try simp only [Act.put, List.setIfInBounds_toArray, List.set_cons_zero, List.set_cons_succ]
                    refine wpAnyH_ready (rs := [2]) (by kernel_rfl) (by simp) ?_
                    refine call_h 2 ⟨?_, ?_, fun K hK => ?_⟩
                    rotate_left 1
                    · (simp only [List.getElem?_toArray, List.getElem?_cons_succ, List.getElem?_cons_zero]; exact rfl)
                    go_simp
                    (go_at_call 54; refine HC1.out.mono ?_; rintro e w2 ⟨rfl, hM, hb2⟩)
                    go_wp2_with fail
                    have e1 : w2.cell? ⟨b, o + k * 2 + 1, none⟩ = some (.slice bvo a.b.length bvc) := (hb2.cell (p := ⟨b, o + k * 2 + 1, none⟩) hbl).trans d1o
                    have HM := Lib.hid hM
                    clear hM hb2
                    refine hK.out _ _ e1 (fun hHeld => ?_)
                    clear hK K
                    (try simp only [Act.put, List.setIfInBounds_toArray, List.set_cons_zero, List.set_cons_succ])
                    refine wpAnyH_ready (rs := [3]) (by kernel_rfl) (by simp) ?_
                    refine call_h 3 ⟨?_, ?_, fun K hK => ?_⟩
                    rotate_left 1
                    · (simp only [List.getElem?_toArray, List.getElem?_cons_succ, List.getElem?_cons_zero]; exact rfl)
                    go_simp
                    (go_at_call 53; refine (num3_any _ _).mono ?_; rintro e w' ⟨rfl, rfl⟩)
                    go_wp2_with fail
                    refine hK.out _ _ e1 (fun hHeld => ?_)
                    clear hK K
                    (try simp only [Act.put, List.setIfInBounds_toArray, List.set_cons_zero, List.set_cons_succ])
                    refine wpAnyH_ready (rs := [10]) (by kernel_rfl) (by simp) ?_
                    refine call_h 10 ⟨?_, ?_, fun K hK => ?_⟩
                    rotate_left 1
                    · (simp only [List.getElem?_toArray, List.getElem?_cons_succ, List.getElem?_cons_zero]; exact rfl)
                    go_simp
                    (go_at_call 55; refine (HC2.out w2 HM.out).mono ?_; rintro e w3 ⟨rfl, Out', hN⟩)
                    go_wp2_with fail
                    have HN3 := Lib.hid hN
                    have e3 : w3.cell? ⟨b, o + k * 2 + 1, none⟩ = some (.slice bvo a.b.length bvc) := hN.cell hbl d1o
                    clear hN e1
                    refine hK.out _ _ e3 (fun hHeld => ?_)
                    clear hK K
                    (try simp only [Act.put, List.setIfInBounds_toArray, List.set_cons_zero, List.set_cons_succ])
                    refine take_h 11 ⟨?_, ?_, ?_, by kernel_rfl, by kernel_rfl, by kernel_rfl, ?_, ?_, by assumption, ?_⟩
                    rotate_left 2
                    · (simp only [List.getElem?_toArray, List.getElem?_cons_succ, List.getElem?_cons_zero]; exact rfl)
                    · exact fun _ _ _ h => h
                    · first
                        | (refine Or.inr ⟨by rfl, ?_⟩; exact rfl)
                        | (refine Or.inl ⟨by rfl, ?_⟩
                           intro w hSw
                           (try dsimp only at hSw)
                           (try go_split_ands)
                           go_simp
                           (first | done | with_reducible rfl))
                    try simp only [Act.put, List.setIfInBounds_toArray, List.set_cons_zero, List.set_cons_succ]
                    refine wpAnyH_done (by kernel_rfl) ?_ _
                    clear hHeld e3
                    obtain ⟨hz3, own3⟩ := HN3.out.size (by omega)
                    have HOW := Lib.hid own3
                    clear own3
                    go_wp2_with (go_at_call 30; refine (Bytes_left w3 _ _ a.b HOW.out hz3 (by omega)).mono ?_; rintro e w4 ⟨rfl, hl4⟩)
                    go_meet
                    exact ⟨_, _, _, HN3.out.spoil hl4 (by omega) (by omega) (by omega), by omega, by have := hl4.size; omega⟩
                · by_cases hy7 : y = 7
                  · subst hy7
                    as_aux_lemma =>
                      obtain ⟨er, M, hc1, hc2⟩ := (HNB.out.left0 ((Left.refl [] wb).drew)).send (bv := .slice bvo a.b.length bvc) (B0 := w.heap.size) (by omega) (show wr.heap.size ≤ wb.drew.heap.size from hzb) (by omega) (by omega) (Nat.le_refl _) (show Rd wb.drew _ 1 _ _ _ from HRB.out)
                      have HC1 := Lib.hid hc1
                      have HC2 := Lib.hid hc2
                      clear hc1 hc2
                      go_upto_region 27 with fail
                      refine wp_region_held_drew (S := fun wx => wx.cell? ⟨b, o + k * 2 + 1, none⟩ = some (.slice bvo a.b.length bvc)) (by kernel_rfl) d1 (fun hHeld => ?_)
                      refine take_h 0 ⟨?_, ?_, ?_, by kernel_rfl, by kernel_rfl, by kernel_rfl, ?_, ?_, by assumption, ?_⟩
                      rotate_left 2
                      · (simp only [List.getElem?_toArray, List.getElem?_cons_zero]; exact rfl)
                      · exact fun _ _ _ h => h
                      · first
                          | (refine Or.inr ⟨by rfl, ?_⟩; exact rfl)
                          | (refine Or.inl ⟨by rfl, ?_⟩
                             intro w hSw
                             (try dsimp only at hSw)
                             (try go_split_ands)
                             go_simp
                             (first | done | with_reducible rfl))
                      try simp only [Act.put, List.setIfInBounds_toArray, List.set_cons_zero, List.set_cons_succ]
                      refine take_h 1 ⟨?_, ?_, ?_, by kernel_rfl, by kernel_rfl, by kernel_rfl, ?_, ?_, by assumption, ?_⟩
                      rotate_left 2
                      · (simp only [List.getElem?_toArray, List.getElem?_cons_succ, List.getElem?_cons_zero]; exact rfl)
                      · exact fun _ _ _ h => h
                      · first
                          | (refine Or.inr ⟨by rfl, ?_⟩; exact rfl)
                          | (refine Or.inl ⟨by rfl, ?_⟩
                             intro w hSw
                             (try dsimp only at hSw)
                             (try go_split_ands)
                             go_simp
                             (first | done | with_reducible rfl))
                      try simp only [Act.put, List.setIfInBounds_toArray, List.set_cons_zero, List.set_cons_succ]
                      refine take_h 4 ⟨?_, ?_, ?_, by kernel_rfl, by kernel_rfl, by kernel_rfl, ?_, ?_, by assumption, ?_⟩
                      rotate_left 2
                      · (simp only [List.getElem?_toArray, List.getElem?_cons_succ, List.getElem?_cons_zero]; exact rfl)
                      · exact fun _ _ _ h => h
                      · first
                          | (refine Or.inr ⟨by rfl, ?_⟩; exact rfl)
                          | (refine Or.inl ⟨by rfl, ?_⟩
                             intro w hSw
                             (try dsimp only at hSw)
                             (try go_split_ands)
                             go_simp
                             (first | done | with_reducible rfl))
                      try simp only [Act.put, List.setIfInBounds_toArray, List.set_cons_zero, List.set_cons_succ]
                      refine take_h 5 ⟨?_, ?_, ?_, by kernel_rfl, by kernel_rfl, by kernel_rfl, ?_, ?_, by assumption, ?_⟩
                      rotate_left 2
                      · (simp only [List.getElem?_toArray, List.getElem?_cons_succ, List.getElem?_cons_zero]; exact rfl)
                      · exact fun _ _ _ h => h
                      · first
                          | (refine Or.inr ⟨by rfl, ?_⟩; exact rfl)
                          | (refine Or.inl ⟨by rfl, ?_⟩
                             intro w hSw
                             (try dsimp only at hSw)
                             (try go_split_ands)
                             go_simp
                             (first | done | with_reducible rfl))
                      try simp only [Act.put, List.setIfInBounds_toArray, List.set_cons_zero, List.set_cons_succ]
                      refine take_h 6 ⟨?_, ?_, ?_, by kernel_rfl, by kernel_rfl, by kernel_rfl, ?_, ?_, by assumption, ?_⟩
                      rotate_left 2
                      · (simp only [List.getElem?_toArray, List.getElem?_cons_succ, List.getElem?_cons_zero]; exact rfl)
                      · exact fun _ _ _ h => h
                      · first
                          | (refine Or.inr ⟨by rfl, ?_⟩; exact rfl)
                          | (refine Or.inl ⟨by rfl, ?_⟩
                             intro w hSw
                             (try dsimp only at hSw)
                             (try go_split_ands)
                             go_simp
                             (first | done | with_reducible rfl))
                      try simp only [Act.put, List.setIfInBounds_toArray, List.set_cons_zero, List.set_cons_succ]
                      refine take_h 7 ⟨?_, ?_, ?_, by kernel_rfl, by kernel_rfl, by kernel_rfl, ?_, ?_, by assumption, ?_⟩
                      rotate_left 2
                      · (simp only [List.getElem?_toArray, List.getElem?_cons_succ, List.getElem?_cons_zero]; exact rfl)
                      · exact fun _ _ _ h => h
                      · first
                          | (refine Or.inr ⟨by rfl, ?_⟩; exact rfl)
                          | (refine Or.inl ⟨by rfl, ?_⟩
                             intro w hSw
                             (try dsimp only at hSw)
                             (try go_split_ands)
                             go_simp
                             (first | done | with_reducible rfl))
                      try simp only [Act.put, List.setIfInBounds_toArray, List.set_cons_zero, List.set_cons_succ]
                      refine take_h 8 ⟨?_, ?_, ?_, by kernel_rfl, by kernel_rfl, by kernel_rfl, ?_, ?_, by assumption, ?_⟩
                      rotate_left 2
                      · (simp only [List.getElem?_toArray, List.getElem?_cons_succ, List.getElem?_cons_zero]; exact rfl)
                      · exact fun _ _ _ h => h
                      · first
                          | (refine Or.inr ⟨by rfl, ?_⟩; exact rfl)
                          | (refine Or.inl ⟨by rfl, ?_⟩
                             intro w hSw
                             (try dsimp only at hSw)
                             (try go_split_ands)
                             go_simp
                             (first | done | with_reducible rfl))
                      try simp only [Act.put, List.setIfInBounds_toArray, List.set_cons_zero, List.set_cons_succ]
                      refine take_h 9 ⟨?_, ?_, ?_, by kernel_rfl, by kernel_rfl, by kernel_rfl, ?_, ?_, by assumption, ?_⟩
                      rotate_left 2
                      · (simp only [List.getElem?_toArray, List.getElem?_cons_succ, List.getElem?_cons_zero]; exact rfl)
                      · exact fun _ _ _ h => h
                      · first
                          | (refine Or.inr ⟨by rfl, ?_⟩; exact rfl)
                          | (refine Or.inl ⟨by rfl, ?_⟩
                             intro w hSw
                             (try dsimp only at hSw)
                             (try go_split_ands)
                             go_simp
                             (first | done | with_reducible rfl))
                      try simp only [Act.put, List.setIfInBounds_toArray, List.set_cons_zero, List.set_cons_succ]
                      refine wpAnyH_ready (rs := [2]) (by kernel_rfl) (by simp) ?_
                      refine call_h 2 ⟨?_, ?_, fun K hK => ?_⟩
                      rotate_left 1
                      · (simp only [List.getElem?_toArray, List.getElem?_cons_succ, List.getElem?_cons_zero]; exact rfl)
                      go_simp
                      (go_at_call 54; refine HC1.out.mono ?_; rintro e w2 ⟨rfl, hM, hb2⟩)
                      go_wp2_with fail
                      have e1 : w2.cell? ⟨b, o + k * 2 + 1, none⟩ = some (.slice bvo a.b.length bvc) := (hb2.cell (p := ⟨b, o + k * 2 + 1, none⟩) hbl).trans d1o
                      have HM := Lib.hid hM
                      clear hM hb2
                      refine hK.out _ _ e1 (fun hHeld => ?_)
                      clear hK K
                      (try simp only [Act.put, List.setIfInBounds_toArray, List.set_cons_zero, List.set_cons_succ])
                      refine wpAnyH_ready (rs := [3]) (by kernel_rfl) (by simp) ?_
                      refine call_h 3 ⟨?_, ?_, fun K hK => ?_⟩
                      rotate_left 1
                      · (simp only [List.getElem?_toArray, List.getElem?_cons_succ, List.getElem?_cons_zero]; exact rfl)
                      go_simp
                      (go_at_call 53; refine (num3_any _ _).mono ?_; rintro e w' ⟨rfl, rfl⟩)
                      go_wp2_with fail
                      refine hK.out _ _ e1 (fun hHeld => ?_)
                      clear hK K
                      (try simp only [Act.put, List.setIfInBounds_toArray, List.set_cons_zero, List.set_cons_succ])
                      refine wpAnyH_ready (rs := [10]) (by kernel_rfl) (by simp) ?_
                      refine call_h 10 ⟨?_, ?_, fun K hK => ?_⟩
                      rotate_left 1
                      · (simp only [List.getElem?_toArray, List.getElem?_cons_succ, List.getElem?_cons_zero]; exact rfl)
                      go_simp
                      (go_at_call 55; refine (HC2.out w2 HM.out).mono ?_; rintro e w3 ⟨rfl, Out', hN⟩)
                      go_wp2_with fail
                      have HN3 := Lib.hid hN
                      have e3 : w3.cell? ⟨b, o + k * 2 + 1, none⟩ = some (.slice bvo a.b.length bvc) := hN.cell hbl d1o
                      clear hN e1
                      refine hK.out _ _ e3 (fun hHeld => ?_)
                      clear hK K
                      (try simp only [Act.put, List.setIfInBounds_toArray, List.set_cons_zero, List.set_cons_succ])
                      refine take_h 11 ⟨?_, ?_, ?_, by kernel_rfl, by kernel_rfl, by kernel_rfl, ?_, ?_, by assumption, ?_⟩
                      rotate_left 2
                      · (simp only [List.getElem?_toArray, List.getElem?_cons_succ, List.getElem?_cons_zero]; exact rfl)
                      · exact fun _ _ _ h => h
                      · first
                          | (refine Or.inr ⟨by rfl, ?_⟩; exact rfl)
                          | (refine Or.inl ⟨by rfl, ?_⟩
                             intro w hSw
                             (try dsimp only at hSw)
                             (try go_split_ands)
                             go_simp
                             (first | done | with_reducible rfl))
                      try simp only [Act.put, List.setIfInBounds_toArray, List.set_cons_zero, List.set_cons_succ]
                      refine wpAnyH_done (by kernel_rfl) ?_ _
                      clear hHeld e3
                      obtain ⟨hz3, own3⟩ := HN3.out.size (by omega)
                      have HOW := Lib.hid own3
                      clear own3
                      go_wp2_with (go_at_call 30; refine (Bytes_left w3 _ _ a.b HOW.out hz3 (by omega)).mono ?_; rintro e w4 ⟨rfl, hl4⟩)
                      go_meet
                      exact ⟨_, _, _, HN3.out.spoil hl4 (by omega) (by omega) (by omega), by omega, by have := hl4.size; omega⟩
                  · by_cases hy8 : y = 8
                    · subst hy8
                      as_aux_lemma =>
                        obtain ⟨er, M, hc1, hc2⟩ := (HNB.out.left0 ((Left.refl [] wb).drew)).send (bv := .slice bvo a.b.length bvc) (B0 := w.heap.size) (by omega) (show wr.heap.size ≤ wb.drew.heap.size from hzb) (by omega) (by omega) (Nat.le_refl _) (show Rd wb.drew _ 1 _ _ _ from HRB.out)
                        have HC1 := Lib.hid hc1
                        have HC2 := Lib.hid hc2
                        clear hc1 hc2
                        go_upto_region 27 with fail
                        refine wp_region_held_drew (S := fun wx => wx.cell? ⟨b, o + k * 2 + 1, none⟩ = some (.slice bvo a.b.length bvc)) (by kernel_rfl) d1 (fun hHeld => ?_)
                        refine take_h 0 ⟨?_, ?_, ?_, by kernel_rfl, by kernel_rfl, by kernel_rfl, ?_, ?_, by assumption, ?_⟩
                        rotate_left 2
                        · (simp only [List.getElem?_toArray, List.getElem?_cons_zero]; exact rfl)
                        · exact fun _ _ _ h => h
                        · first
                            | (refine Or.inr ⟨by rfl, ?_⟩; exact rfl)
                            | (refine Or.inl ⟨by rfl, ?_⟩
                               intro w hSw
                               (try dsimp only at hSw)
                               (try go_split_ands)
                               go_simp
                               (first | done | with_reducible rfl))
                        try simp only [Act.put, List.setIfInBounds_toArray, List.set_cons_zero, List.set_cons_succ]
                        refine take_h 1 ⟨?_, ?_, ?_, by kernel_rfl, by kernel_rfl, by kernel_rfl, ?_, ?_, by assumption, ?_⟩
                        rotate_left 2
                        · (simp only [List.getElem?_toArray, List.getElem?_cons_succ, List.getElem?_cons_zero]; exact rfl)
                        · exact fun _ _ _ h => h
                        · first
                            | (refine Or.inr ⟨by rfl, ?_⟩; exact rfl)
                            | (refine Or.inl ⟨by rfl, ?_⟩
                               intro w hSw
                               (try dsimp only at hSw)
                               (try go_split_ands)
                               go_simp
                               (first | done | with_reducible rfl))
                        try simp only [Act.put, List.setIfInBounds_toArray, List.set_cons_zero, List.set_cons_succ]
                        refine take_h 4 ⟨?_, ?_, ?_, by kernel_rfl, by kernel_rfl, by kernel_rfl, ?_, ?_, by assumption, ?_⟩
                        rotate_left 2
                        · (simp only [List.getElem?_toArray, List.getElem?_cons_succ, List.getElem?_cons_zero]; exact rfl)
                        · exact fun _ _ _ h => h
                        · first
                            | (refine Or.inr ⟨by rfl, ?_⟩; exact rfl)
                            | (refine Or.inl ⟨by rfl, ?_⟩
                               intro w hSw
                               (try dsimp only at hSw)
                               (try go_split_ands)
                               go_simp
                               (first | done | with_reducible rfl))
                        try simp only [Act.put, List.setIfInBounds_toArray, List.set_cons_zero, List.set_cons_succ]
                        refine take_h 5 ⟨?_, ?_, ?_, by kernel_rfl, by kernel_rfl, by kernel_rfl, ?_, ?_, by assumption, ?_⟩
                        rotate_left 2
                        · (simp only [List.getElem?_toArray, List.getElem?_cons_succ, List.getElem?_cons_zero]; exact rfl)
                        · exact fun _ _ _ h => h
                        · first
                            | (refine Or.inr ⟨by rfl, ?_⟩; exact rfl)
                            | (refine Or.inl ⟨by rfl, ?_⟩
                               intro w hSw
                               (try dsimp only at hSw)
                               (try go_split_ands)
                               go_simp
                               (first | done | with_reducible rfl))
                        try simp only [Act.put, List.setIfInBounds_toArray, List.set_cons_zero, List.set_cons_succ]
                        refine take_h 6 ⟨?_, ?_, ?_, by kernel_rfl, by kernel_rfl, by kernel_rfl, ?_, ?_, by assumption, ?_⟩
                        rotate_left 2
                        · (simp only [List.getElem?_toArray, List.getElem?_cons_succ, List.getElem?_cons_zero]; exact rfl)
                        · exact fun _ _ _ h => h
                        · first
                            | (refine Or.inr ⟨by rfl, ?_⟩; exact rfl)
                            | (refine Or.inl ⟨by rfl, ?_⟩
                               intro w hSw
                               (try dsimp only at hSw)
                               (try go_split_ands)
                               go_simp
                               (first | done | with_reducible rfl))
                        try simp only [Act.put, List.setIfInBounds_toArray, List.set_cons_zero, List.set_cons_succ]
                        refine take_h 7 ⟨?_, ?_, ?_, by kernel_rfl, by kernel_rfl, by kernel_rfl, ?_, ?_, by assumption, ?_⟩
                        rotate_left 2
                        · (simp only [List.getElem?_toArray, List.getElem?_cons_succ, List.getElem?_cons_zero]; exact rfl)
                        · exact fun _ _ _ h => h
                        · first
                            | (refine Or.inr ⟨by rfl, ?_⟩; exact rfl)
                            | (refine Or.inl ⟨by rfl, ?_⟩
                               intro w hSw
                               (try dsimp only at hSw)
                               (try go_split_ands)
                               go_simp
                               (first | done | with_reducible rfl))
                        try simp only [Act.put, List.setIfInBounds_toArray, List.set_cons_zero, List.set_cons_succ]
                        refine take_h 8 ⟨?_, ?_, ?_, by kernel_rfl, by kernel_rfl, by kernel_rfl, ?_, ?_, by assumption, ?_⟩
                        rotate_left 2
                        · (simp only [List.getElem?_toArray, List.getElem?_cons_succ, List.getElem?_cons_zero]; exact rfl)
                        · exact fun _ _ _ h => h
                        · first
                            | (refine Or.inr ⟨by rfl, ?_⟩; exact rfl)
                            | (refine Or.inl ⟨by rfl, ?_⟩
                               intro w hSw
                               (try dsimp only at hSw)
                               (try go_split_ands)
                               go_simp
                               (first | done | with_reducible rfl))
                        try simp only [Act.put, List.setIfInBounds_toArray, List.set_cons_zero, List.set_cons_succ]
                        refine take_h 9 ⟨?_, ?_, ?_, by kernel_rfl, by kernel_rfl, by kernel_rfl, ?_, ?_, by assumption, ?_⟩
                        rotate_left 2
                        · (simp only [List.getElem?_toArray, List.getElem?_cons_succ, List.getElem?_cons_zero]; exact rfl)
                        · exact fun _ _ _ h => h
                        · first
                            | (refine Or.inr ⟨by rfl, ?_⟩; exact rfl)
                            | (refine Or.inl ⟨by rfl, ?_⟩
                               intro w hSw
                               (try dsimp only at hSw)
                               (try go_split_ands)
                               go_simp
                               (first | done | with_reducible rfl))
                        try simp only [Act.put, List.setIfInBounds_toArray, List.set_cons_zero, List.set_cons_succ]
                        refine wpAnyH_ready (rs := [2]) (by kernel_rfl) (by simp) ?_
                        refine call_h 2 ⟨?_, ?_, fun K hK => ?_⟩
                        rotate_left 1
                        · (simp only [List.getElem?_toArray, List.getElem?_cons_succ, List.getElem?_cons_zero]; exact rfl)
                        go_simp
                        (go_at_call 54; refine HC1.out.mono ?_; rintro e w2 ⟨rfl, hM, hb2⟩)
                        go_wp2_with fail
                        have e1 : w2.cell? ⟨b, o + k * 2 + 1, none⟩ = some (.slice bvo a.b.length bvc) := (hb2.cell (p := ⟨b, o + k * 2 + 1, none⟩) hbl).trans d1o
                        have HM := Lib.hid hM
                        clear hM hb2
                        refine hK.out _ _ e1 (fun hHeld => ?_)
                        clear hK K
                        (try simp only [Act.put, List.setIfInBounds_toArray, List.set_cons_zero, List.set_cons_succ])
                        refine wpAnyH_ready (rs := [3]) (by kernel_rfl) (by simp) ?_
                        refine call_h 3 ⟨?_, ?_, fun K hK => ?_⟩
                        rotate_left 1
                        · (simp only [List.getElem?_toArray, List.getElem?_cons_succ, List.getElem?_cons_zero]; exact rfl)
                        go_simp
                        (go_at_call 53; refine (num3_any _ _).mono ?_; rintro e w' ⟨rfl, rfl⟩)
                        go_wp2_with fail
                        refine hK.out _ _ e1 (fun hHeld => ?_)
                        clear hK K
                        (try simp only [Act.put, List.setIfInBounds_toArray, List.set_cons_zero, List.set_cons_succ])
                        refine wpAnyH_ready (rs := [10]) (by kernel_rfl) (by simp) ?_
                        refine call_h 10 ⟨?_, ?_, fun K hK => ?_⟩
                        rotate_left 1
                        · (simp only [List.getElem?_toArray, List.getElem?_cons_succ, List.getElem?_cons_zero]; exact rfl)
                        go_simp
                        (go_at_call 55; refine (HC2.out w2 HM.out).mono ?_; rintro e w3 ⟨rfl, Out', hN⟩)
                        go_wp2_with fail
                        have HN3 := Lib.hid hN
                        have e3 : w3.cell? ⟨b, o + k * 2 + 1, none⟩ = some (.slice bvo a.b.length bvc) := hN.cell hbl d1o
                        clear hN e1
                        refine hK.out _ _ e3 (fun hHeld => ?_)
                        clear hK K
                        (try simp only [Act.put, List.setIfInBounds_toArray, List.set_cons_zero, List.set_cons_succ])
                        refine take_h 11 ⟨?_, ?_, ?_, by kernel_rfl, by kernel_rfl, by kernel_rfl, ?_, ?_, by assumption, ?_⟩
                        rotate_left 2
                        · (simp only [List.getElem?_toArray, List.getElem?_cons_succ, List.getElem?_cons_zero]; exact rfl)
                        · exact fun _ _ _ h => h
                        · first
                            | (refine Or.inr ⟨by rfl, ?_⟩; exact rfl)
                            | (refine Or.inl ⟨by rfl, ?_⟩
                               intro w hSw
                               (try dsimp only at hSw)
                               (try go_split_ands)
                               go_simp
                               (first | done | with_reducible rfl))
                        try simp only [Act.put, List.setIfInBounds_toArray, List.set_cons_zero, List.set_cons_succ]
                        refine wpAnyH_done (by kernel_rfl) ?_ _
                        clear hHeld e3
                        obtain ⟨hz3, own3⟩ := HN3.out.size (by omega)
                        have HOW := Lib.hid own3
                        clear own3
                        go_wp2_with (go_at_call 30; refine (Bytes_left w3 _ _ a.b HOW.out hz3 (by omega)).mono ?_; rintro e w4 ⟨rfl, hl4⟩)
                        go_meet
                        exact ⟨_, _, _, HN3.out.spoil hl4 (by omega) (by omega) (by omega), by omega, by have := hl4.size; omega⟩
                    · by_cases hy9 : y = 9
                      · subst hy9
                        as_aux_lemma =>
                          obtain ⟨ok, L, M, hL, hc1, hc2⟩ := HJB.out.out_ (by omega) (by omega) (by omega)
                          have HC1 := Lib.hid hc1
                          have HC2 := Lib.hid hc2
                          clear hc1 hc2
                          go_wp2_with fail
                          refine HC1.out.mono ?_
                          rintro e w2 ⟨v1, rfl, hM, xo, xc, rfl⟩
                          have HM := Lib.hid hM
                          clear hM
                          go_wp2_with fail
                          refine (HC2.out _ w2 HM.out).mono ?_
                          rintro e w5 ⟨x, rfl, ⟨yo, yc, rfl⟩, hrd, In', hN⟩
                          obtain ⟨hz5, own5⟩ := hN.size (by omega)
                          have HE := Lib.hid (EqBytes_any w5 (.slice xo L.length xc) (.slice yo L.length yc) L L _ _ (Rd.of_own own5) hrd)
                          have HN5 := Lib.hid hN
                          clear hN own5 hrd
                          cases ok
                          · go_wp2_with fail
                            refine HE.out.mono ?_
                            rintro e w3 ⟨rfl, hb3⟩
                            try simp only [decide_true]
                            have HN3 := Lib.hid (HN5.out.left0 (Left.of_below hb3 []))
                            clear hb3
                            obtain ⟨hz3, own3⟩ := HN3.out.size (by omega)
                            have HOW := Lib.hid own3
                            clear own3
                            go_wp2_with (go_at_call 30; refine (Bytes_left w3 _ _ L HOW.out hz3 (by omega)).mono ?_; rintro e w4 ⟨rfl, hl4⟩)
                            go_meet
                            exact ⟨_, _, _, HN3.out.spoil hl4 (by omega) (by omega) (by omega), by omega, by have := hl4.size; omega⟩
                          · go_wp2_with fail
                            refine HE.out.mono ?_
                            rintro e w3 ⟨rfl, hb3⟩
                            try simp only [decide_true]
                            have HN3 := Lib.hid (HN5.out.left0 (Left.of_below hb3 []))
                            clear hb3
                            obtain ⟨hz3, own3⟩ := HN3.out.size (by omega)
                            have HOW := Lib.hid own3
                            clear own3
                            go_wp2_with (go_at_call 30; refine (Bytes_left w3 _ _ L HOW.out hz3 (by omega)).mono ?_; rintro e w4 ⟨rfl, hl4⟩)
                            go_meet
                            exact ⟨_, _, _, HN3.out.spoil hl4 (by omega) (by omega) (by omega), by omega, by have := hl4.size; omega⟩
                      · have g4 : (y == 4) = false := beq_eq_false_iff_ne.2 hy4
                        have g5 : (y == 5) = false := beq_eq_false_iff_ne.2 hy5
                        have g6 : (y == 6) = false := beq_eq_false_iff_ne.2 hy6
                        have g7 : (y == 7) = false := beq_eq_false_iff_ne.2 hy7
                        have g8 : (y == 8) = false := beq_eq_false_iff_ne.2 hy8
                        have g9 : (y == 9) = false := beq_eq_false_iff_ne.2 hy9
                        as_aux_lemma =>
                          obtain ⟨ok, M, hc1, hc2⟩ := (HNB.out.left0 ((Left.refl [] wb).drew)).recv (bv := .slice bvo a.b.length bvc) (B0 := w.heap.size) (by omega) (show wr.heap.size ≤ wb.drew.heap.size from hzb) (by omega) (by omega) (Nat.le_refl _) (show Rd wb.drew _ 1 _ _ _ from HRB.out) (by omega)
                          have HC1 := Lib.hid hc1
                          have HC2 := Lib.hid hc2
                          clear hc1 hc2
                          go_upto_region 14 with fail
                          refine wp_region_held_drew (S := fun wx => wx.cell? ⟨b, o + k * 2 + 1, none⟩ = some (.slice bvo a.b.length bvc)) (by kernel_rfl) d1 (fun hHeld => ?_)
                          refine take_h 0 ⟨?_, ?_, ?_, by kernel_rfl, by kernel_rfl, by kernel_rfl, ?_, ?_, by assumption, ?_⟩
                          rotate_left 2
                          · (simp only [List.getElem?_toArray, List.getElem?_cons_zero]; exact rfl)
                          · exact fun _ _ _ h => h
                          · first
                              | (refine Or.inr ⟨by rfl, ?_⟩; exact rfl)
                              | (refine Or.inl ⟨by rfl, ?_⟩
                                 intro w hSw
                                 (try dsimp only at hSw)
                                 (try go_split_ands)
                                 go_simp
                                 (first | done | with_reducible rfl))
                          try simp only [Act.put, List.setIfInBounds_toArray, List.set_cons_zero, List.set_cons_succ]
                          refine take_h 1 ⟨?_, ?_, ?_, by kernel_rfl, by kernel_rfl, by kernel_rfl, ?_, ?_, by assumption, ?_⟩
                          rotate_left 2
                          · (simp only [List.getElem?_toArray, List.getElem?_cons_succ, List.getElem?_cons_zero]; exact rfl)
                          · exact fun _ _ _ h => h
                          · first
                              | (refine Or.inr ⟨by rfl, ?_⟩; exact rfl)
                              | (refine Or.inl ⟨by rfl, ?_⟩
                                 intro w hSw
                                 (try dsimp only at hSw)
                                 (try go_split_ands)
                                 go_simp
                                 (first | done | with_reducible rfl))
                          try simp only [Act.put, List.setIfInBounds_toArray, List.set_cons_zero, List.set_cons_succ]
                          refine take_h 3 ⟨?_, ?_, ?_, by kernel_rfl, by kernel_rfl, by kernel_rfl, ?_, ?_, by assumption, ?_⟩
                          rotate_left 2
                          · (simp only [List.getElem?_toArray, List.getElem?_cons_succ, List.getElem?_cons_zero]; exact rfl)
                          · exact fun _ _ _ h => h
                          · first
                              | (refine Or.inr ⟨by rfl, ?_⟩; exact rfl)
                              | (refine Or.inl ⟨by rfl, ?_⟩
                                 intro w hSw
                                 (try dsimp only at hSw)
                                 (try go_split_ands)
                                 go_simp
                                 (first | done | with_reducible rfl))
                          try simp only [Act.put, List.setIfInBounds_toArray, List.set_cons_zero, List.set_cons_succ]
                          refine take_h 4 ⟨?_, ?_, ?_, by kernel_rfl, by kernel_rfl, by kernel_rfl, ?_, ?_, by assumption, ?_⟩
                          rotate_left 2
                          · (simp only [List.getElem?_toArray, List.getElem?_cons_succ, List.getElem?_cons_zero]; exact rfl)
                          · exact fun _ _ _ h => h
                          · first
                              | (refine Or.inr ⟨by rfl, ?_⟩; exact rfl)
                              | (refine Or.inl ⟨by rfl, ?_⟩
                                 intro w hSw
                                 (try dsimp only at hSw)
                                 (try go_split_ands)
                                 go_simp
                                 (first | done | with_reducible rfl))
                          try simp only [Act.put, List.setIfInBounds_toArray, List.set_cons_zero, List.set_cons_succ]
                          refine take_h 5 ⟨?_, ?_, ?_, by kernel_rfl, by kernel_rfl, by kernel_rfl, ?_, ?_, by assumption, ?_⟩
                          rotate_left 2
                          · (simp only [List.getElem?_toArray, List.getElem?_cons_succ, List.getElem?_cons_zero]; exact rfl)
                          · exact fun _ _ _ h => h
                          · first
                              | (refine Or.inr ⟨by rfl, ?_⟩; exact rfl)
                              | (refine Or.inl ⟨by rfl, ?_⟩
                                 intro w hSw
                                 (try dsimp only at hSw)
                                 (try go_split_ands)
                                 go_simp
                                 (first | done | with_reducible rfl))
                          try simp only [Act.put, List.setIfInBounds_toArray, List.set_cons_zero, List.set_cons_succ]
                          refine take_h 6 ⟨?_, ?_, ?_, by kernel_rfl, by kernel_rfl, by kernel_rfl, ?_, ?_, by assumption, ?_⟩
                          rotate_left 2
                          · (simp only [List.getElem?_toArray, List.getElem?_cons_succ, List.getElem?_cons_zero]; exact rfl)
                          · exact fun _ _ _ h => h
                          · first
                              | (refine Or.inr ⟨by rfl, ?_⟩; exact rfl)
                              | (refine Or.inl ⟨by rfl, ?_⟩
                                 intro w hSw
                                 (try dsimp only at hSw)
                                 (try go_split_ands)
                                 go_simp
                                 (first | done | with_reducible rfl))
                          try simp only [Act.put, List.setIfInBounds_toArray, List.set_cons_zero, List.set_cons_succ]
                          refine take_h 7 ⟨?_, ?_, ?_, by kernel_rfl, by kernel_rfl, by kernel_rfl, ?_, ?_, by assumption, ?_⟩
                          rotate_left 2
                          · (simp only [List.getElem?_toArray, List.getElem?_cons_succ, List.getElem?_cons_zero]; exact rfl)
                          · exact fun _ _ _ h => h
                          · first
                              | (refine Or.inr ⟨by rfl, ?_⟩; exact rfl)
                              | (refine Or.inl ⟨by rfl, ?_⟩
                                 intro w hSw
                                 (try dsimp only at hSw)
                                 (try go_split_ands)
                                 go_simp
                                 (first | done | with_reducible rfl))
                          try simp only [Act.put, List.setIfInBounds_toArray, List.set_cons_zero, List.set_cons_succ]
                          refine take_h 8 ⟨?_, ?_, ?_, by kernel_rfl, by kernel_rfl, by kernel_rfl, ?_, ?_, by assumption, ?_⟩
                          rotate_left 2
                          · (simp only [List.getElem?_toArray, List.getElem?_cons_succ, List.getElem?_cons_zero]; exact rfl)
                          · exact fun _ _ _ h => h
                          · first
                              | (refine Or.inr ⟨by rfl, ?_⟩; exact rfl)
                              | (refine Or.inl ⟨by rfl, ?_⟩
                                 intro w hSw
                                 (try dsimp only at hSw)
                                 (try go_split_ands)
                                 go_simp
                                 (first | done | with_reducible rfl))
                          try simp only [Act.put, List.setIfInBounds_toArray, List.set_cons_zero, List.set_cons_succ]
                          refine wpAnyH_ready (rs := [2]) (by kernel_rfl) (by simp) ?_
                          refine call_h 2 ⟨?_, ?_, fun K hK => ?_⟩
                          rotate_left 1
                          · (simp only [List.getElem?_toArray, List.getElem?_cons_succ, List.getElem?_cons_zero]; exact rfl)
                          go_simp
                          (go_at_call 58; refine HC1.out.mono ?_; rintro e w2 ⟨rfl, hM, hb2⟩)
                          go_wp2_with fail
                          have e1 : w2.cell? ⟨b, o + k * 2 + 1, none⟩ = some (.slice bvo a.b.length bvc) := (hb2.cell (p := ⟨b, o + k * 2 + 1, none⟩) hbl).trans d1o
                          have HM := Lib.hid hM
                          clear hM hb2
                          refine hK.out _ _ e1 (fun hHeld => ?_)
                          clear hK K
                          (try simp only [Act.put, List.setIfInBounds_toArray, List.set_cons_zero, List.set_cons_succ])
                          refine wpAnyH_ready (rs := [9]) (by kernel_rfl) (by simp) ?_
                          refine call_h 9 ⟨?_, ?_, fun K hK => ?_⟩
                          rotate_left 1
                          · (simp only [List.getElem?_toArray, List.getElem?_cons_succ, List.getElem?_cons_zero]; exact rfl)
                          go_simp
                          (go_at_call 59; refine (HC2.out w2 HM.out).mono ?_; rintro e w3 ⟨rfl, In', drop', hdr, hN⟩)
                          go_wp2_with fail
                          have HN3 := Lib.hid hN
                          have e3 : w3.cell? ⟨b, o + k * 2 + 1, none⟩ = some (.slice bvo a.b.length bvc) := hN.cell hbl d1o
                          clear hN e1
                          refine hK.out _ _ e3 (fun hHeld => ?_)
                          clear hK K
                          (try simp only [Act.put, List.setIfInBounds_toArray, List.set_cons_zero, List.set_cons_succ])
                          refine take_h 10 ⟨?_, ?_, ?_, by kernel_rfl, by kernel_rfl, by kernel_rfl, ?_, ?_, by assumption, ?_⟩
                          rotate_left 2
                          · (simp only [List.getElem?_toArray, List.getElem?_cons_succ, List.getElem?_cons_zero]; exact rfl)
                          · exact fun _ _ _ h => h
                          · first
                              | (refine Or.inr ⟨by rfl, ?_⟩; exact rfl)
                              | (refine Or.inl ⟨by rfl, ?_⟩
                                 intro w hSw
                                 (try dsimp only at hSw)
                                 (try go_split_ands)
                                 go_simp
                                 (first | done | with_reducible rfl))
                          try simp only [Act.put, List.setIfInBounds_toArray, List.set_cons_zero, List.set_cons_succ]
                          refine wpAnyH_done (by kernel_rfl) ?_ _
                          clear hHeld e3
                          cases ok
                          · obtain ⟨hz3, own3⟩ := HN3.out.size (by omega)
                            have HOW := Lib.hid own3
                            clear own3
                            go_wp2_with (go_at_call 30; refine (Bytes_left w3 _ _ a.b HOW.out hz3 (by omega)).mono ?_; rintro e w4 ⟨rfl, hl4⟩)
                            go_meet
                            exact ⟨_, _, _, HN3.out.spoil hl4 (by omega) (by omega) (by omega), by omega, by have := hl4.size; omega⟩
                          · obtain ⟨hz3, own3⟩ := HN3.out.size (by omega)
                            have HOW := Lib.hid own3
                            clear own3
                            go_wp2_with (go_at_call 30; refine (Bytes_left w3 _ _ a.b HOW.out hz3 (by omega)).mono ?_; rintro e w4 ⟨rfl, hl4⟩)
                            go_meet
                            exact ⟨_, _, _, HN3.out.spoil hl4 (by omega) (by omega) (by omega), by omega, by have := hl4.size; omega⟩
          case rest =>
            obtain ⟨In', Out', drop', hJ', hd', hzc⟩ := hcut
            have HJ' := Lib.hid hJ'
            obtain ⟨D, iv, ov, h1, h2, h3⟩ := hJ'
            have p2 : wc.cell? ⟨P, 2, none⟩ = some (.int .i64 drop') := by rw [h2.head.cell]; rfl
            have HDR := Lib.hid (Dropped_any (h1.left0 ((Left.refl [] wc).drew)).1)
            clear h1 h2 h3
            go_upto_region 36 with fail
            refine wp_region_held_drew (S := fun wx => wx.cell? ⟨P, 2, none⟩ = some (.int .i64 drop')) (by kernel_rfl) p2 (fun hHeld => ?_)
            refine take_h 0 ⟨?_, ?_, ?_, by kernel_rfl, by kernel_rfl, by kernel_rfl, ?_, ?_, by assumption, ?_⟩
            rotate_left 2
            · (simp only [List.getElem?_toArray, List.getElem?_cons_zero]; exact rfl)
            · exact fun _ _ _ h => h
            · first
                | (refine Or.inr ⟨by rfl, ?_⟩; exact rfl)
                | (refine Or.inl ⟨by rfl, ?_⟩
                   intro w hSw
                   (try dsimp only at hSw)
                   (try go_split_ands)
                   go_simp
                   (first | done | with_reducible rfl))
            try simp only [Act.put, List.setIfInBounds_toArray, List.set_cons_zero, List.set_cons_succ]
            refine take_h 2 ⟨?_, ?_, ?_, by kernel_rfl, by kernel_rfl, by kernel_rfl, ?_, ?_, by assumption, ?_⟩
            rotate_left 2
            · (simp only [List.getElem?_toArray, List.getElem?_cons_succ, List.getElem?_cons_zero]; exact rfl)
            · exact fun _ _ _ h => h
            · first
                | (refine Or.inr ⟨by rfl, ?_⟩; exact rfl)
                | (refine Or.inl ⟨by rfl, ?_⟩
                   intro w hSw
                   (try dsimp only at hSw)
                   (try go_split_ands)
                   go_simp
                   (first | done | with_reducible rfl))
            try simp only [Act.put, List.setIfInBounds_toArray, List.set_cons_zero, List.set_cons_succ]
            refine take_h 3 ⟨?_, ?_, ?_, by kernel_rfl, by kernel_rfl, by kernel_rfl, ?_, ?_, by assumption, ?_⟩
            rotate_left 2
            · (simp only [List.getElem?_toArray, List.getElem?_cons_succ, List.getElem?_cons_zero]; exact rfl)
            · exact fun _ _ _ h => h
            · first
                | (refine Or.inr ⟨by rfl, ?_⟩; exact rfl)
                | (refine Or.inl ⟨by rfl, ?_⟩
                   intro w hSw
                   (try dsimp only at hSw)
                   (try go_split_ands)
                   go_simp
                   (first | done | with_reducible rfl))
            try simp only [Act.put, List.setIfInBounds_toArray, List.set_cons_zero, List.set_cons_succ]
            refine take_h 4 ⟨?_, ?_, ?_, by kernel_rfl, by kernel_rfl, by kernel_rfl, ?_, ?_, by assumption, ?_⟩
            rotate_left 2
            · (simp only [List.getElem?_toArray, List.getElem?_cons_succ, List.getElem?_cons_zero]; exact rfl)
            · exact fun _ _ _ h => h
            · first
                | (refine Or.inr ⟨by rfl, ?_⟩; exact rfl)
                | (refine Or.inl ⟨by rfl, ?_⟩
                   intro w hSw
                   (try dsimp only at hSw)
                   (try go_split_ands)
                   go_simp
                   (first | done | with_reducible rfl))
            try simp only [Act.put, List.setIfInBounds_toArray, List.set_cons_zero, List.set_cons_succ]
            refine take_h 5 ⟨?_, ?_, ?_, by kernel_rfl, by kernel_rfl, by kernel_rfl, ?_, ?_, by assumption, ?_⟩
            rotate_left 2
            · (simp only [List.getElem?_toArray, List.getElem?_cons_succ, List.getElem?_cons_zero]; exact rfl)
            · exact fun _ _ _ h => h
            · first
                | (refine Or.inr ⟨by rfl, ?_⟩; exact rfl)
                | (refine Or.inl ⟨by rfl, ?_⟩
                   intro w hSw
                   (try dsimp only at hSw)
                   (try go_split_ands)
                   go_simp
                   (first | done | with_reducible rfl))
            try simp only [Act.put, List.setIfInBounds_toArray, List.set_cons_zero, List.set_cons_succ]
            refine wpAnyH_ready (rs := [1]) (by kernel_rfl) (by simp) ?_
            refine call_h 1 ⟨?_, ?_, fun K hK => ?_⟩
            rotate_left 1
            · (simp only [List.getElem?_toArray, List.getElem?_cons_succ, List.getElem?_cons_zero]; exact rfl)
            go_simp
            (go_at_call 60; refine HDR.out.mono ?_; rintro e w' ⟨rfl, rfl⟩)
            go_wp2_with fail
            refine hK.out _ _ p2 (fun hHeld => ?_)
            clear hK K
            (try simp only [Act.put, List.setIfInBounds_toArray, List.set_cons_zero, List.set_cons_succ])
            refine take_h 6 ⟨?_, ?_, ?_, by kernel_rfl, by kernel_rfl, by kernel_rfl, ?_, ?_, by assumption, ?_⟩
            rotate_left 2
            · (simp only [List.getElem?_toArray, List.getElem?_cons_succ, List.getElem?_cons_zero]; exact rfl)
            · exact fun _ _ _ h => h
            · first
                | (refine Or.inr ⟨by rfl, ?_⟩; exact rfl)
                | (refine Or.inl ⟨by rfl, ?_⟩
                   intro w hSw
                   (try dsimp only at hSw)
                   (try go_split_ands)
                   go_simp
                   (first | done | with_reducible rfl))
            try simp only [Act.put, List.setIfInBounds_toArray, List.set_cons_zero, List.set_cons_succ]
            refine wpAnyH_done (by kernel_rfl) ?_ _
            clear hHeld p2
            go_wp2
            go_roundw
            case rel => exact ⟨k + 1, In', Out', drop', by go_num, by omega, by omega, hzc, Lib.hid (HJ'.out.left0 ((Left.refl [] _).drew))⟩
            case measure => simp [intOf]; omega
      · by_cases hk1 : k < acts.length
        · have hk2 : ¬ k < 120 := fun h => hlt ⟨hk1, h⟩
          clear hlt
          go_wp2_with fail
          refine (wakes3_any wr).mono ?_
          rintro e wz ⟨rfl, hbz⟩
          go_wp2
          go_ret
          exact ⟨rfl, hbw.trans (hbz.mono hbw.size)⟩
        · clear hlt
          go_wp2_with fail
          refine (wakes3_any wr).mono ?_
          rintro e wz ⟨rfl, hbz⟩
          go_wp2
          go_ret
          exact ⟨rfl, hbw.trans (hbz.mono hbw.size)⟩
end Go.Proofs.Ytfffehbipcikoaa
