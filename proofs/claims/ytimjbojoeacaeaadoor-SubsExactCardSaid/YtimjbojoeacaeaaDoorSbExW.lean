/- SubsExact: the walk. -/

import Derived.Test.YtimjbojoeacaeaaDoorSbExact
namespace Go.Proofs.YtimjbojoeacaeaaDoor
open Go.RowKit Go.Shelf Go.Proofs

set_option maxRecDepth 20000 in
set_option maxHeartbeats 4000000 in
theorem SubsExact_any (w : World) (sv lv : Value) (L : List Wish1) (A : List SAct) (hL : Rd w w.heap.size 2 sv L.length (wCells L)) (hR : ReachW L) (hA : ActsAt w w.heap.size lv A) (hl : L.length * 24 ≤ reachBytes) (hE : Env w) :
    Calls Tryd.prog 9 #[.agg #[sv, lv]] w fun e w' => e = .returned (.bool true) ∧ Below w.heap.size w w' := by
  have hb0 := (Below.refl w.heap.size w).alloc (Nat.le_refl _) (.cells #[sv, lv] 39)
  have hE0 := hE.below hb0
  obtain ⟨ao, cap, rfl, hc1, hc2⟩ := hL.form
  have hc3 : cap ≤ 9223372036854775807 := by unfold maxLen at hc2; omega
  have HA0 := Lib.hid hA
  obtain ⟨bo, cap2, rfl, hd1, hd2, hacts⟩ := hA
  have HL := Lib.hid (hL.below hb0)
  have HL' := Lib.hid hL
  have HA := Lib.hid hacts
  have HR := Lib.hid hR
  have HM := Lib.hid hc2
  have Hl := Lib.hid hl
  clear hL hacts hR hc2 hl
  go_enter Tryd.func9, Tryd.ntmps9
  go_wp2_with fail
  have hz0 : w.heap.size ≤ (w.alloc (.cells #[.slice ao L.length cap, .slice bo A.length cap2] 39)).heap.size := by simp
  refine (heavy_any _ _ _ L A (HL.out.more hz0) HR.out ((show ActsAt _ _ _ _ from by obtain ⟨x1, x2, x3, x4, x5, x6⟩ := HA0.out; exact ⟨x1, x2, x3, x4, x5, fun i a ha => by obtain ⟨b, o, y1, y2, y3, y4⟩ := x6 i a ha; exact ⟨b, o, y1, by simp; omega, ⟨(hb0.cell (p := ⟨b, _, none⟩) y2).trans y3.1, (hb0.cell (p := ⟨b, _, none⟩) y2).trans y3.2.1, (hb0.cell (p := ⟨b, _, none⟩) y2).trans y3.2.2.1, (hb0.cell (p := ⟨b, _, none⟩) y2).trans y3.2.2.2⟩, y4⟩⟩)) Hl.out).mono ?_
  rintro e w1 ⟨hv, rfl, hlight, hb1⟩
  have hbb1 := bel_tr hb0 hb1
  have HLI := Lib.hid hlight
  clear hlight
  cases hv
  · have hlt := HLI.out rfl
    have hS : Short L := fun i x hx => by have := hlt.2.1 i x hx; omega
    have HLT := Lib.hid hlt
    have HS := Lib.hid hS
    have HLL := Lib.hid hlt.1
    have c0 : w1.cell? ⟨w.heap.size, 0, none⟩ = some (.slice ao L.length cap) := cell_bel (by simp) hb1
    have c1 : w1.cell? ⟨w.heap.size, 1, none⟩ = some (.slice bo A.length cap2) := cell_bel (by simp) hb1
    have hz1 := hbb1.size
    clear hlt hS HLI
    go_wp2_with fail
    refine (CopyW_any _ _ L _ (HL'.out.below hbb1) hz1 (by have := HLL.out; omega)).mono ?_
    rintro e w2 ⟨v3, rfl, ho3, hb2⟩
    have hbb2 := bel_tr hbb1 hb2
    have D0 := Lib.hid (cell_bel c0 hb2)
    have D1 := Lib.hid (cell_bel c1 hb2)
    have HO3 := Lib.hid (Rd.of_own ho3)
    clear c0 c1 ho3
    have hw2z : w.heap.size + 1 ≤ w2.heap.size := by
      have z1 := hb1.size
      have z2 := hb2.size
      simp at z1
      omega
    go_wp2
    go_loopw [3, 4, 5, 6, 7, 8, 9, 10, 11, 12, 13, 14, 15, 16, 17] (fun s3 i _ _ _ _ _ _ _ _ _ _ _ _ _ wr => ∃ (k : Nat) (M : List Wish1), k ≤ A.length ∧ k ≤ 25 ∧ i = .int .i64 k ∧ Rd wr wr.heap.size 2 s3 M.length (wCells M) ∧ Short M ∧ M.length ≤ 10000 ∧ Below (w.heap.size + 1) w2 wr) (fun _ i _ _ _ _ _ _ _ _ _ _ _ _ _ _ => A.length - (intOf i).toNat)
    case atStart => exact ⟨0, L, by omega, by omega, rfl, HO3.out, HS.out, HLL.out, Below.refl _ _⟩
    case round =>
      obtain ⟨k, M, hk1, hk2, rfl, hM, hSM, hMl, hbr⟩ := hrel
      have HM' := Lib.hid hM
      have HSM := Lib.hid hSM
      clear hM hSM
      have e0 := (hbr.cell (p := ⟨w.heap.size, 0, none⟩) (by simp)).trans D0.out
      have e1 := (hbr.cell (p := ⟨w.heap.size, 1, none⟩) (by simp)).trans D1.out
      have hbw := hbb2.trans (hbr.mono (Nat.le_succ _))
      have hzr := hbr.size
      by_cases hlt : k < A.length
      · by_cases hlt2 : k < 25
        · obtain ⟨a, ha⟩ : ∃ a, A[k]? = some a := ⟨_, List.getElem?_eq_getElem hlt⟩
          obtain ⟨b, o, rfl, hbl, ⟨hc0', hc1', hc2', hc3'⟩, _, _, _, _⟩ := HA.out k a ha
          have hfl := (HLT.out.2.2.2 k a ha).1
          have htl := (HLT.out.2.2.2 k a ha).2
          have c0 := (hbw.cell (p := ⟨b, o + k * 4, none⟩) hbl).trans hc0'
          have c1 := (hbw.cell (p := ⟨b, o + k * 4 + 1, none⟩) hbl).trans hc1'
          have c2 := (hbw.cell (p := ⟨b, o + k * 4 + 2, none⟩) hbl).trans hc2'
          have c3 := (hbw.cell (p := ⟨b, o + k * 4 + 3, none⟩) hbl).trans hc3'
          clear hc0' hc1' hc2' hc3' ha
          go_upto_region 8 with fail
          obtain ⟨wa, hwa⟩ : ∃ wa, wa = wr.alloc (.cells #[.int .i64 a.d, .string a.f, .int .i64 a.q, .string a.t] 45) := ⟨_, rfl⟩
          rw [← hwa]
          have hba : Below wr.heap.size wr wa := hwa ▸ (Below.refl wr.heap.size wr).alloc (Nat.le_refl _) _
          have f0 : wa.cell? ⟨wr.heap.size, 0, none⟩ = some (.int .i64 a.d) := by rw [hwa]; simp
          have f1 : wa.cell? ⟨wr.heap.size, 1, none⟩ = some (.string a.f) := by rw [hwa]; simp
          have f2 : wa.cell? ⟨wr.heap.size, 2, none⟩ = some (.int .i64 a.q) := by rw [hwa]; simp
          have f3 : wa.cell? ⟨wr.heap.size, 3, none⟩ = some (.string a.t) := by rw [hwa]; simp
          have HMa := Lib.hid ((HM'.out.below hba).more hba.size)
          have hEa := hE.below (bel_tr hbw hba)
          clear hwa c0 c1 c2 c3
          cases h1 : subsB M
          · have H1 := Lib.hid h1
            clear h1
            go_wp2_with fail
            refine (rSubs_any _ _ M HMa.out HSM.out hEa).mono ?_
            rintro e wb ⟨rfl, hb1⟩
            rw [H1.out]
            go_wp2_with fail
            refine (Check_any _ _ M ((HMa.out.below hb1).more hb1.size) HSM.out (hEa.below hb1)).mono ?_
            rintro e wc ⟨rfl, hb2⟩
            rw [H1.out]
            have hac := bel_tr hb1 hb2
            go_wp2_with (go_at_call 23; refine (num_any _ _).mono ?_; rintro e w' ⟨rfl, rfl⟩)
            refine (CopyW_any _ _ M _ ((HMa.out.below hac).more hac.size) (Nat.le_refl _) (by omega)).mono ?_
            rintro e wd ⟨v8, rfl, ho8, hb3⟩
            have had := bel_tr hac hb3
            have HMd := Lib.hid ((HMa.out.below had).more had.size)
            have HI := Lib.hid (Rd.of_own ho8)
            have hEd := hEa.below had
            have g0 := cell_bel f0 had
            have g1 := cell_bel f1 had
            have g2 := cell_bel f2 had
            have g3 := cell_bel f3 had
            have hbd := bel_to hbr (bel_tr hba had) (by omega)
            clear ho8 hb1 hb2 hac hb3 f0 f1 f2 f3
            go_upto_block 2 with (go_at_call 24; refine (Within_any _ _ 6 (by omega) (by omega)).mono ?_; rintro e w' ⟨rfl, rfl⟩)
            obtain ⟨d, hd⟩ : ∃ d, d = within a.d 6 := ⟨_, rfl⟩
            rw [← hd]
            clear hd
            go_cut [9, 10, 11, 12] (fun s9 s10 s11 s12 wx => ∃ (W : List Wish1) (b : Int) (Bx : Nat), s11 = .int .i64 b ∧ s12 = .int .i64 b ∧ wx.ownsRow Bx 43 2 s9 W.length (wCells W) ∧ Rd wx Bx 2 s10 W.length (wCells W) ∧ wd.heap.size ≤ Bx ∧ Bx ≤ wx.heap.size ∧ Short W ∧ W.length ≤ 10000 ∧ Below wd.heap.size wd wx)
            case first =>
              by_cases hd3 : d = 3
              · subst hd3
                have HD : Hid (dropL M a.f = ([], 1)) := Lib.hid (dropL_no H1.out)
                go_wp2_with fail
                refine (Drop_any _ _ M a.f HI.out HSM.out hEd).mono ?_
                rintro e we ⟨v9, rfl, ho9, hb9⟩
                rw [HD.out] at ho9 ⊢
                have HO9 := Lib.hid ho9
                clear ho9
                have hz9 := hb9.size
                go_wp2
                go_meet
                exact ⟨[], 1, wd.heap.size, rfl, rfl, HO9.out, Rd.nil_ _ _ _, Nat.le_refl _, by assumption, short_empty, by simp, hb9⟩
              · by_cases hd4 : d = 4
                · subst hd4
                  clear hd3
                  have HQ : Hid (qRes M a.t = .tuple #[.int .i64 0, .int .i64 1]) := Lib.hid (by unfold qRes; rw [H1.out]; rfl)
                  go_wp2_with fail
                  refine (sMatch_any _ _ M a.t HI.out HSM.out (by omega) hEd).mono ?_
                  rintro e we ⟨rfl, hb9⟩
                  rw [HQ.out]
                  go_wp2_with (go_at_call 23; refine (num_any _ _).mono ?_; rintro e w' ⟨rfl, rfl⟩)
                  refine (EqW_any _ _ _ M M _ _ (HI.out.below hb9) (HMd.out.below hb9) rfl).mono ?_
                  rintro e wf ⟨rfl, hf1⟩
                  have hxf := bel_to hb9 hf1 (Nat.le_refl _)
                  go_wp2
                  go_roundw
                  case rel =>
                    exact ⟨k + 1, M, by omega, by omega, by go_num, (HMd.out.below hxf).more hxf.size, HSM.out, hMl, bel_to hbd hxf (by omega)⟩
                  case measure => simp [intOf]; omega
                · by_cases hd5 : d = 5
                  · subst hd5
                    clear hd3 hd4
                    have HQ : Hid (qRes M a.t = .tuple #[.int .i64 0, .int .i64 1]) := Lib.hid (by unfold qRes; rw [H1.out]; rfl)
                    go_wp2_with fail
                    refine (sMatch_any _ _ M a.t HI.out HSM.out (by omega) hEd).mono ?_
                    rintro e we ⟨rfl, hb9⟩
                    rw [HQ.out]
                    go_wp2_with (go_at_call 23; refine (num_any _ _).mono ?_; rintro e w' ⟨rfl, rfl⟩)
                    refine (EqW_any _ _ _ M M _ _ (HI.out.below hb9) (HMd.out.below hb9) rfl).mono ?_
                    rintro e wf ⟨rfl, hf1⟩
                    have hxf := bel_to hb9 hf1 (Nat.le_refl _)
                    go_wp2
                    go_roundw
                    case rel =>
                      exact ⟨k + 1, M, by omega, by omega, by go_num, (HMd.out.below hxf).more hxf.size, HSM.out, hMl, bel_to hbd hxf (by omega)⟩
                    case measure => simp [intOf]; omega
                  · have b3 : (d == 3) = false := beq_eq_false_iff_ne.2 hd3
                    have b4 : (d == 4) = false := beq_eq_false_iff_ne.2 hd4
                    have b5 : (d == 5) = false := beq_eq_false_iff_ne.2 hd5
                    clear hd3 hd4 hd5
                    have HD : Hid (addL M ⟨a.f, a.q⟩ = ([], 1)) := Lib.hid (addL_no (by rw [H1.out]; rfl))
                    go_wp2_with fail
                    refine (Add_any _ _ M ⟨a.f, a.q⟩ HI.out HSM.out (by show a.f.size ≤ 100000; omega) hEd).mono ?_
                    rintro e we ⟨v9, rfl, ho9, hb9⟩
                    rw [HD.out] at ho9 ⊢
                    have HO9 := Lib.hid ho9
                    clear ho9
                    have hz9 := hb9.size
                    go_wp2
                    go_meet
                    exact ⟨[], 1, wd.heap.size, rfl, rfl, HO9.out, Rd.nil_ _ _ _, Nat.le_refl _, by assumption, short_empty, by simp, hb9⟩
            case rest =>
              obtain ⟨W, b, Bx, rfl, rfl, hW1, hW2, hB1, hB2, hW3, hW4, hbx⟩ := hcut
              have HW1 := Lib.hid hW1
              have HW2 := Lib.hid hW2
              have HW3 := Lib.hid hW3
              clear hW1 hW2 hW3
              go_wp2_with (go_at_call 23; refine (num_any _ _).mono ?_; rintro e w' ⟨rfl, rfl⟩)
              refine (EqW_any _ _ _ W W _ _ (Rd.of_own HW1.out) HW2.out rfl).mono ?_
              rintro e wf ⟨rfl, hf1⟩
              have hxf := bel_to hbx hf1 (Nat.le_refl _)
              go_wp2_with fail
              refine (EqW_any _ _ _ M M _ _ (HI.out.below hxf) (HMd.out.below hxf) rfl).mono ?_
              rintro e wg ⟨rfl, hf2⟩
              have hxg := bel_to hxf hf2 (Nat.le_refl _)
              have hcg := bel_tr hf1 hf2
              go_wp2_with fail
              refine (Spoil_any _ Bx _ W.length (wCells W) (own_below HW1.out hcg) (Nat.le_trans hB2 hcg.size) (by omega)).mono ?_
              rintro e wh ⟨rfl, hf3⟩
              have hxh := hxg.trans (hf3.mono hB1)
              have HW2' := Lib.hid ((HW2.out.below (hcg.mono hB2)).below hf3)
              go_wp2_with fail
              refine (EqW_any _ _ _ M M _ _ (HI.out.below hxh) (HMd.out.below hxh) rfl).mono ?_
              rintro e wi ⟨rfl, hf4⟩
              have hxi := bel_to hxh hf4 (Nat.le_refl _)
              have hBi := Nat.le_trans hB2 (Nat.le_trans hcg.size hf3.size)
              by_cases hb : b = 0
              · subst hb
                go_wp2_with fail
                refine (CopyW_any _ _ W _ (HW2'.out.below (hf4.mono hBi)) (Nat.le_trans hBi hf4.size) (by omega)).mono ?_
                rintro e wj ⟨v3, rfl, hoj, hf5⟩
                have hxj := bel_to hxi hf5 (Nat.le_refl _)
                have HOJ := Lib.hid (Rd.of_own hoj)
                clear hoj
                go_wp2
                go_roundw
                case rel =>
                  exact ⟨k + 1, W, by omega, by omega, by go_num, HOJ.out, HW3.out, hW4, bel_to hbd hxj (by omega)⟩
                case measure => simp [intOf]; omega
              · have hbf : (b == 0) = false := beq_eq_false_iff_ne.2 hb
                clear hb
                go_wp2
                go_roundw
                case rel =>
                  exact ⟨k + 1, M, by omega, by omega, by go_num, (HMd.out.below hxi).more hxi.size, HSM.out, hMl, bel_to hbd hxi (by omega)⟩
                case measure => simp [intOf]; omega
          · have H1 := Lib.hid h1
            clear h1
            go_wp2_with fail
            refine (rSubs_any _ _ M HMa.out HSM.out hEa).mono ?_
            rintro e wb ⟨rfl, hb1⟩
            rw [H1.out]
            go_wp2_with fail
            refine (Check_any _ _ M ((HMa.out.below hb1).more hb1.size) HSM.out (hEa.below hb1)).mono ?_
            rintro e wc ⟨rfl, hb2⟩
            rw [H1.out]
            have hac := bel_tr hb1 hb2
            go_wp2_with (go_at_call 23; refine (num_any _ _).mono ?_; rintro e w' ⟨rfl, rfl⟩)
            refine (CopyW_any _ _ M _ ((HMa.out.below hac).more hac.size) (Nat.le_refl _) (by omega)).mono ?_
            rintro e wd ⟨v8, rfl, ho8, hb3⟩
            have had := bel_tr hac hb3
            have HMd := Lib.hid ((HMa.out.below had).more had.size)
            have HI := Lib.hid (Rd.of_own ho8)
            have hEd := hEa.below had
            have g0 := cell_bel f0 had
            have g1 := cell_bel f1 had
            have g2 := cell_bel f2 had
            have g3 := cell_bel f3 had
            have hbd := bel_to hbr (bel_tr hba had) (by omega)
            clear ho8 hb1 hb2 hac hb3 f0 f1 f2 f3
            go_upto_block 2 with (go_at_call 24; refine (Within_any _ _ 6 (by omega) (by omega)).mono ?_; rintro e w' ⟨rfl, rfl⟩)
            obtain ⟨d, hd⟩ : ∃ d, d = within a.d 6 := ⟨_, rfl⟩
            rw [← hd]
            clear hd
            go_cut [9, 10, 11, 12] (fun s9 s10 s11 s12 wx => ∃ (W : List Wish1) (b : Int) (Bx : Nat), s11 = .int .i64 b ∧ s12 = .int .i64 b ∧ wx.ownsRow Bx 43 2 s9 W.length (wCells W) ∧ Rd wx Bx 2 s10 W.length (wCells W) ∧ wd.heap.size ≤ Bx ∧ Bx ≤ wx.heap.size ∧ Short W ∧ W.length ≤ 10000 ∧ Below wd.heap.size wd wx)
            case first =>
              by_cases hd3 : d = 3
              · subst hd3
                go_wp2_with fail
                refine (rDrop_any _ _ M a.f _ HMd.out (Nat.le_refl _) (by omega)).mono ?_
                rintro e we ⟨v13, rfl, ho13, hb8⟩
                have HO13 := Lib.hid ho13
                clear ho13
                have g1e := cell_bel g1 hb8
                have HI2 := Lib.hid ((HI.out.below hb8).more hb8.size)
                by_cases hdl : (without M a.f).length < M.length
                · have HD : Hid (dropL M a.f = (without M a.f, 0)) := Lib.hid (by rw [dropL_eq _ H1.out, if_pos hdl])
                  rw [decide_eq_true hdl]
                  clear hdl
                  go_wp2_with fail
                  refine (Drop_any _ _ M a.f HI2.out HSM.out (hEd.below hb8)).mono ?_
                  rintro e wf ⟨v9, rfl, ho9, hb9⟩
                  rw [HD.out] at ho9 ⊢
                  have HO9 := Lib.hid ho9
                  have hz9 := hb9.size
                  clear ho9
                  go_wp2
                  go_meet
                  exact ⟨without M a.f, 0, we.heap.size, rfl, rfl, HO9.out, (Rd.of_own HO13.out).below hb9, hb8.size, hz9, short_without _ HSM.out, Nat.le_trans (without_len _ _) hMl, bel_tr hb8 hb9⟩
                · have HD : Hid (dropL M a.f = ([], 3)) := Lib.hid (by rw [dropL_eq _ H1.out, if_neg hdl])
                  rw [decide_eq_false hdl]
                  clear hdl
                  go_wp2_with fail
                  refine (Drop_any _ _ M a.f HI2.out HSM.out (hEd.below hb8)).mono ?_
                  rintro e wf ⟨v9, rfl, ho9, hb9⟩
                  rw [HD.out] at ho9 ⊢
                  have HO9 := Lib.hid ho9
                  have hz9 := hb9.size
                  clear ho9
                  go_wp2
                  go_meet
                  exact ⟨[], 3, we.heap.size, rfl, rfl, HO9.out, Rd.nil_ _ _ _, hb8.size, hz9, short_empty, by simp, bel_tr hb8 hb9⟩
              · by_cases hd4 : d = 4
                · subst hd4
                  clear hd3
                  cases hn : nm a.t
                  · have HN := Lib.hid hn
                    clear hn
                    have HQ : Hid (qRes M a.t = .tuple #[.int .i64 0, .int .i64 1]) := Lib.hid (by unfold qRes; rw [H1.out, HN.out]; rfl)
                    go_wp2_with fail
                    refine (rName_any _ a.t (by omega) hEd).mono ?_
                    rintro e we ⟨rfl, hb7⟩
                    rw [HN.out]
                    have g3e := cell_bel g3 hb7
                    have HI2 := Lib.hid ((HI.out.below hb7).more hb7.size)
                    go_wp2_with fail
                    refine (sMatch_any _ _ M a.t HI2.out HSM.out (by omega) (hEd.below hb7)).mono ?_
                    rintro e wk ⟨rfl, hb9⟩
                    rw [HQ.out]
                    have hb79 := bel_tr hb7 hb9
                    go_wp2_with (go_at_call 23; refine (num_any _ _).mono ?_; rintro e w' ⟨rfl, rfl⟩)
                    refine (EqW_any _ _ _ M M _ _ (HI.out.below hb79) (HMd.out.below hb79) rfl).mono ?_
                    rintro e wf ⟨rfl, hf1⟩
                    have hxf := bel_to hb79 hf1 (Nat.le_refl _)
                    go_wp2
                    go_roundw
                    case rel =>
                      exact ⟨k + 1, M, by omega, by omega, by go_num, (HMd.out.below hxf).more hxf.size, HSM.out, hMl, bel_to hbd hxf (by omega)⟩
                    case measure => simp [intOf]; omega
                  · have HN := Lib.hid hn
                    have hlt1 := (nm_len hn).1
                    clear hn
                    go_wp2_with fail
                    refine (rName_any _ a.t (by omega) hEd).mono ?_
                    rintro e we ⟨rfl, hb7⟩
                    rw [HN.out]
                    have g3e := cell_bel g3 hb7
                    have HI2 := Lib.hid ((HI.out.below hb7).more hb7.size)
                    have HMe := Lib.hid ((HMd.out.below hb7).more hb7.size)
                    have hmq := Lib.hid (subsB_q H1.out)
                    obtain ⟨z, hz⟩ : ∃ z, bestFrom a.t (-1) M = z := ⟨_, rfl⟩
                    have HZ := Lib.hid hz
                    clear hz
                    go_wp2_with fail
                    refine (rBest_any _ _ M a.t HMe.out HSM.out (by omega) hlt1 hmq.out).mono ?_
                    rintro e wk ⟨rfl, hb8⟩
                    rw [HZ.out]
                    have g3k := cell_bel g3e hb8
                    have hb78 := bel_tr hb7 hb8
                    by_cases hz0 : z < 0
                    · have HQ : Hid (qRes M a.t = .tuple #[.int .i64 0, .int .i64 3]) := Lib.hid (qx_none H1.out HN.out HZ.out hz0)
                      have hz1 : ¬ (0 ≤ z) := by omega
                      clear hz0
                      go_wp2_with fail
                      refine (sMatch_any _ _ M a.t ((HI2.out.below hb8).more hb8.size) HSM.out (by omega) (hEd.below hb78)).mono ?_
                      rintro e wm ⟨rfl, hb9⟩
                      rw [HQ.out]
                      have hb79 := bel_tr hb78 hb9
                      go_wp2_with (go_at_call 23; refine (num_any _ _).mono ?_; rintro e w' ⟨rfl, rfl⟩)
                      refine (EqW_any _ _ _ M M _ _ (HI.out.below hb79) (HMd.out.below hb79) rfl).mono ?_
                      rintro e wf ⟨rfl, hf1⟩
                      have hxf := bel_to hb79 hf1 (Nat.le_refl _)
                      go_wp2
                      go_roundw
                      case rel =>
                        exact ⟨k + 1, M, by omega, by omega, by go_num, (HMd.out.below hxf).more hxf.size, HSM.out, hMl, bel_to hbd hxf (by omega)⟩
                      case measure => simp [intOf]; omega
                    · have HQ : Hid (qRes M a.t = .tuple #[.int .i64 z, .int .i64 0]) := Lib.hid (qx_hit H1.out HN.out HZ.out hz0)
                      have hz1 : 0 ≤ z := by omega
                      have hzz : (z != z) = false := by simp
                      clear hz0
                      go_wp2_with fail
                      refine (rBest_any _ _ M a.t ((HMe.out.below hb8).more hb8.size) HSM.out (by omega) hlt1 hmq.out).mono ?_
                      rintro e wl ⟨rfl, hb8'⟩
                      rw [HZ.out]
                      have g3l := cell_bel g3k hb8'
                      have hb78' := bel_tr hb78 hb8'
                      go_wp2_with fail
                      refine (sMatch_any _ _ M a.t ((HI2.out.below (bel_tr hb8 hb8')).more (bel_tr hb8 hb8').size) HSM.out (by omega) (hEd.below hb78')).mono ?_
                      rintro e wm ⟨rfl, hb9⟩
                      rw [HQ.out]
                      have hb79 := bel_tr hb78' hb9
                      go_wp2_with (go_at_call 23; refine (num_any _ _).mono ?_; rintro e w' ⟨rfl, rfl⟩)
                      refine (EqW_any _ _ _ M M _ _ (HI.out.below hb79) (HMd.out.below hb79) rfl).mono ?_
                      rintro e wf ⟨rfl, hf1⟩
                      have hxf := bel_to hb79 hf1 (Nat.le_refl _)
                      go_wp2
                      go_roundw
                      case rel =>
                        exact ⟨k + 1, M, by omega, by omega, by go_num, (HMd.out.below hxf).more hxf.size, HSM.out, hMl, bel_to hbd hxf (by omega)⟩
                      case measure => simp [intOf]; omega
                · by_cases hd5 : d = 5
                  · subst hd5
                    clear hd3 hd4
                    cases hn : nm a.t
                    · have HN := Lib.hid hn
                      clear hn
                      have HQ : Hid (qRes M a.t = .tuple #[.int .i64 0, .int .i64 1]) := Lib.hid (by unfold qRes; rw [H1.out, HN.out]; rfl)
                      go_wp2_with fail
                      refine (rName_any _ a.t (by omega) hEd).mono ?_
                      rintro e we ⟨rfl, hb7⟩
                      rw [HN.out]
                      have g3e := cell_bel g3 hb7
                      have HI2 := Lib.hid ((HI.out.below hb7).more hb7.size)
                      go_wp2_with fail
                      refine (sMatch_any _ _ M a.t HI2.out HSM.out (by omega) (hEd.below hb7)).mono ?_
                      rintro e wk ⟨rfl, hb9⟩
                      rw [HQ.out]
                      have hb79 := bel_tr hb7 hb9
                      go_wp2_with (go_at_call 23; refine (num_any _ _).mono ?_; rintro e w' ⟨rfl, rfl⟩)
                      refine (EqW_any _ _ _ M M _ _ (HI.out.below hb79) (HMd.out.below hb79) rfl).mono ?_
                      rintro e wf ⟨rfl, hf1⟩
                      have hxf := bel_to hb79 hf1 (Nat.le_refl _)
                      go_wp2
                      go_roundw
                      case rel =>
                        exact ⟨k + 1, M, by omega, by omega, by go_num, (HMd.out.below hxf).more hxf.size, HSM.out, hMl, bel_to hbd hxf (by omega)⟩
                      case measure => simp [intOf]; omega
                    · have HN := Lib.hid hn
                      have hlt1 := (nm_len hn).1
                      clear hn
                      go_wp2_with fail
                      refine (rName_any _ a.t (by omega) hEd).mono ?_
                      rintro e we ⟨rfl, hb7⟩
                      rw [HN.out]
                      have g3e := cell_bel g3 hb7
                      have HI2 := Lib.hid ((HI.out.below hb7).more hb7.size)
                      have HMe := Lib.hid ((HMd.out.below hb7).more hb7.size)
                      have hmq := Lib.hid (subsB_q H1.out)
                      obtain ⟨z, hz⟩ : ∃ z, bestFrom a.t (-1) M = z := ⟨_, rfl⟩
                      have HZ := Lib.hid hz
                      clear hz
                      go_wp2_with fail
                      refine (rBest_any _ _ M a.t HMe.out HSM.out (by omega) hlt1 hmq.out).mono ?_
                      rintro e wk ⟨rfl, hb8⟩
                      rw [HZ.out]
                      have g3k := cell_bel g3e hb8
                      have hb78 := bel_tr hb7 hb8
                      by_cases hz0 : z < 0
                      · have HQ : Hid (qRes M a.t = .tuple #[.int .i64 0, .int .i64 3]) := Lib.hid (qx_none H1.out HN.out HZ.out hz0)
                        have hz1 : ¬ (0 ≤ z) := by omega
                        clear hz0
                        go_wp2_with fail
                        refine (sMatch_any _ _ M a.t ((HI2.out.below hb8).more hb8.size) HSM.out (by omega) (hEd.below hb78)).mono ?_
                        rintro e wm ⟨rfl, hb9⟩
                        rw [HQ.out]
                        have hb79 := bel_tr hb78 hb9
                        go_wp2_with (go_at_call 23; refine (num_any _ _).mono ?_; rintro e w' ⟨rfl, rfl⟩)
                        refine (EqW_any _ _ _ M M _ _ (HI.out.below hb79) (HMd.out.below hb79) rfl).mono ?_
                        rintro e wf ⟨rfl, hf1⟩
                        have hxf := bel_to hb79 hf1 (Nat.le_refl _)
                        go_wp2
                        go_roundw
                        case rel =>
                          exact ⟨k + 1, M, by omega, by omega, by go_num, (HMd.out.below hxf).more hxf.size, HSM.out, hMl, bel_to hbd hxf (by omega)⟩
                        case measure => simp [intOf]; omega
                      · have HQ : Hid (qRes M a.t = .tuple #[.int .i64 z, .int .i64 0]) := Lib.hid (qx_hit H1.out HN.out HZ.out hz0)
                        have hz1 : 0 ≤ z := by omega
                        have hzz : (z != z) = false := by simp
                        clear hz0
                        go_wp2_with fail
                        refine (rBest_any _ _ M a.t ((HMe.out.below hb8).more hb8.size) HSM.out (by omega) hlt1 hmq.out).mono ?_
                        rintro e wl ⟨rfl, hb8'⟩
                        rw [HZ.out]
                        have g3l := cell_bel g3k hb8'
                        have hb78' := bel_tr hb78 hb8'
                        go_wp2_with fail
                        refine (sMatch_any _ _ M a.t ((HI2.out.below (bel_tr hb8 hb8')).more (bel_tr hb8 hb8').size) HSM.out (by omega) (hEd.below hb78')).mono ?_
                        rintro e wm ⟨rfl, hb9⟩
                        rw [HQ.out]
                        have hb79 := bel_tr hb78' hb9
                        go_wp2_with (go_at_call 23; refine (num_any _ _).mono ?_; rintro e w' ⟨rfl, rfl⟩)
                        refine (EqW_any _ _ _ M M _ _ (HI.out.below hb79) (HMd.out.below hb79) rfl).mono ?_
                        rintro e wf ⟨rfl, hf1⟩
                        have hxf := bel_to hb79 hf1 (Nat.le_refl _)
                        go_wp2
                        go_roundw
                        case rel =>
                          exact ⟨k + 1, M, by omega, by omega, by go_num, (HMd.out.below hxf).more hxf.size, HSM.out, hMl, bel_to hbd hxf (by omega)⟩
                        case measure => simp [intOf]; omega
                  · have b3 : (d == 3) = false := beq_eq_false_iff_ne.2 hd3
                    have b4 : (d == 4) = false := beq_eq_false_iff_ne.2 hd4
                    have b5 : (d == 5) = false := beq_eq_false_iff_ne.2 hd5
                    clear hd3 hd4 hd5
                    cases hw : mayW ⟨a.f, a.q⟩
                    · have HD : Hid (addL M ⟨a.f, a.q⟩ = ([], 1)) := Lib.hid (addL_no (by rw [hw, Bool.and_false]))
                      have HW := Lib.hid hw
                      clear hw
                      go_wp2_with fail
                      refine (rWish_is _ ⟨a.f, a.q⟩ (by show a.f.size ≤ 100000; omega) hEd HW.out).mono ?_
                      rintro e we ⟨rfl, hb8⟩
                      have h1' := cell_bel g1 hb8
                      have h2' := cell_bel g2 hb8
                      have HI2 := Lib.hid ((HI.out.below hb8).more hb8.size)
                      go_wp2_with fail
                      refine (Add_any _ _ M ⟨a.f, a.q⟩ HI2.out HSM.out (by show a.f.size ≤ 100000; omega) (hEd.below hb8)).mono ?_
                      rintro e wf ⟨v9, rfl, ho9, hb9⟩
                      rw [HD.out] at ho9 ⊢
                      have HO9 := Lib.hid ho9
                      have hz9 := hb9.size
                      clear ho9
                      go_wp2
                      go_meet
                      exact ⟨[], 1, we.heap.size, rfl, rfl, HO9.out, Rd.nil_ _ _ _, hb8.size, hz9, short_empty, by simp, bel_tr hb8 hb9⟩
                    · have HD := Lib.hid (addL_eq H1.out hw)
                      have HML := Lib.hid (subsB_len H1.out)
                      have HW := Lib.hid hw
                      clear hw
                      go_wp2_with fail
                      refine (rWish_is _ ⟨a.f, a.q⟩ (by show a.f.size ≤ 100000; omega) hEd HW.out).mono ?_
                      rintro e we ⟨rfl, hb8⟩
                      have h1' := cell_bel g1 hb8
                      have h2' := cell_bel g2 hb8
                      have HI2 := Lib.hid ((HI.out.below hb8).more hb8.size)
                      go_wp2_with fail
                      refine (rAdd_any _ _ M ⟨a.f, a.q⟩ ((HMd.out.below hb8).more hb8.size) (by omega)).mono ?_
                      rintro e wk ⟨v10, rfl, ho10, hb7⟩
                      have HO10 := Lib.hid ho10
                      clear ho10
                      have k1' := cell_bel h1' hb7
                      have k2' := cell_bel h2' hb7
                      have hb87 := bel_tr hb8 hb7
                      go_wp2_with fail
                      refine (Add_any _ _ M ⟨a.f, a.q⟩ ((HI2.out.below hb7).more hb7.size) HSM.out (by show a.f.size ≤ 100000; omega) (hEd.below hb87)).mono ?_
                      rintro e wf ⟨v9, rfl, ho9, hb9⟩
                      rw [HD.out] at ho9 ⊢
                      have HO9 := Lib.hid ho9
                      have hz9 := hb9.size
                      clear ho9
                      go_wp2
                      go_meet
                      exact ⟨(raddL M ⟨a.f, a.q⟩).1, (raddL M ⟨a.f, a.q⟩).2, wk.heap.size, rfl, rfl, HO9.out, (Rd.of_own HO10.out).below hb9, hb87.size, hz9, short_radd HSM.out (by show a.f.size ≤ 100000; omega), by have := HML.out; have := @radd_len M ⟨a.f, a.q⟩; omega, bel_tr hb87 hb9⟩
            case rest =>
              obtain ⟨W, b, Bx, rfl, rfl, hW1, hW2, hB1, hB2, hW3, hW4, hbx⟩ := hcut
              have HW1 := Lib.hid hW1
              have HW2 := Lib.hid hW2
              have HW3 := Lib.hid hW3
              clear hW1 hW2 hW3
              go_wp2_with (go_at_call 23; refine (num_any _ _).mono ?_; rintro e w' ⟨rfl, rfl⟩)
              refine (EqW_any _ _ _ W W _ _ (Rd.of_own HW1.out) HW2.out rfl).mono ?_
              rintro e wf ⟨rfl, hf1⟩
              have hxf := bel_to hbx hf1 (Nat.le_refl _)
              go_wp2_with fail
              refine (EqW_any _ _ _ M M _ _ (HI.out.below hxf) (HMd.out.below hxf) rfl).mono ?_
              rintro e wg ⟨rfl, hf2⟩
              have hxg := bel_to hxf hf2 (Nat.le_refl _)
              have hcg := bel_tr hf1 hf2
              go_wp2_with fail
              refine (Spoil_any _ Bx _ W.length (wCells W) (own_below HW1.out hcg) (Nat.le_trans hB2 hcg.size) (by omega)).mono ?_
              rintro e wh ⟨rfl, hf3⟩
              have hxh := hxg.trans (hf3.mono hB1)
              have HW2' := Lib.hid ((HW2.out.below (hcg.mono hB2)).below hf3)
              go_wp2_with fail
              refine (EqW_any _ _ _ M M _ _ (HI.out.below hxh) (HMd.out.below hxh) rfl).mono ?_
              rintro e wi ⟨rfl, hf4⟩
              have hxi := bel_to hxh hf4 (Nat.le_refl _)
              have hBi := Nat.le_trans hB2 (Nat.le_trans hcg.size hf3.size)
              by_cases hb : b = 0
              · subst hb
                go_wp2_with fail
                refine (CopyW_any _ _ W _ (HW2'.out.below (hf4.mono hBi)) (Nat.le_trans hBi hf4.size) (by omega)).mono ?_
                rintro e wj ⟨v3, rfl, hoj, hf5⟩
                have hxj := bel_to hxi hf5 (Nat.le_refl _)
                have HOJ := Lib.hid (Rd.of_own hoj)
                clear hoj
                go_wp2
                go_roundw
                case rel =>
                  exact ⟨k + 1, W, by omega, by omega, by go_num, HOJ.out, HW3.out, hW4, bel_to hbd hxj (by omega)⟩
                case measure => simp [intOf]; omega
              · have hbf : (b == 0) = false := beq_eq_false_iff_ne.2 hb
                clear hb
                go_wp2
                go_roundw
                case rel =>
                  exact ⟨k + 1, M, by omega, by omega, by go_num, (HMd.out.below hxi).more hxi.size, HSM.out, hMl, bel_to hbd hxi (by omega)⟩
                case measure => simp [intOf]; omega
        · have hk3 : k = 25 := by omega
          subst hk3
          go_wp2_with fail
          refine (swakes_any _).mono ?_
          rintro e w4 ⟨rfl, hb4⟩
          go_wp2
          go_ret
          exact ⟨rfl, bel_tr hbw hb4⟩
      · have hk3 : k = A.length := by omega
        subst hk3
        go_wp2_with fail
        refine (swakes_any _).mono ?_
        rintro e w4 ⟨rfl, hb4⟩
        go_wp2
        go_ret
        exact ⟨rfl, bel_tr hbw hb4⟩
  · go_wp2
    go_ret
    exact ⟨rfl, hbb1⟩
end Go.Proofs.YtimjbojoeacaeaaDoor
