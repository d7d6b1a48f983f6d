/- KeptExact: the walk. -/

import Derived.Test.YtimjbojoeacaeaaDoorKpEq
import Derived.Test.YtimjbojoeacaeaaDoorKpHeavy
import Derived.Test.YtimjbojoeacaeaaDoorKpWakes
import Derived.Outline
namespace Go.Proofs.YtimjbojoeacaeaaDoor
open Go.RowKit Go.Shelf Go.Proofs

set_option maxRecDepth 20000 in
set_option maxHeartbeats 4000000 in
theorem KeptExact_any (w : World) (sv lv : Value) (L : List Msg1) (A : List SAct) (hL : Rd w w.heap.size 4 sv L.length (wCells L)) (hR : ReachW L) (hA : ActsAt w w.heap.size lv A) (hl : L.length * 48 ≤ reachBytes) (hE : Env w) :
    Calls Tryd.prog 8 #[.agg #[sv, lv]] w fun e w' => e = .returned (.bool true) ∧ Below w.heap.size w w' := by
  have hb0 := (Below.refl w.heap.size w).alloc (Nat.le_refl _) (.cells #[sv, lv] 52)
  have hE0 := hE.below hb0
  have hz0 := hb0.size
  obtain ⟨ao, cap, rfl, hc1, hc2⟩ := hL.form
  have hc3 : cap ≤ 9223372036854775807 := by unfold maxLen at hc2; omega
  have HA0 := Lib.hid ((hA.below hb0).more hz0)
  obtain ⟨bo, cap2, rfl, hd1, hd2, hacts⟩ := hA
  have HL := Lib.hid (hL.below hb0)
  have HL' := Lib.hid hL
  have HA := Lib.hid hacts
  have HR := Lib.hid hR
  have Hl := Lib.hid hl
  clear hL hacts hR hc2 hl
  go_enter Tryd.func8, Tryd.ntmps8
  go_wp2_with fail
  refine (heavy_any _ _ _ L A (HL.out.more hz0) HR.out HA0.out Hl.out).mono ?_
  rintro e w1 ⟨hv, rfl, hlight, hb1⟩
  have hbb1 := bel_tr hb0 hb1
  have HLI := Lib.hid hlight
  clear hlight
  cases hv
  · have hlt := HLI.out rfl
    have hS : Short L := fun i x hx => by have := hlt.2.1 i x hx; omega
    have HLT := Lib.hid hlt
    have HS := Lib.hid hS
    have HLL := Lib.hid hlt.1
    have c0 : w1.cell? ⟨w.heap.size, 0, none⟩ = some (.slice ao L.length cap) := cell_bel (by simp) hb1
    have c1 : w1.cell? ⟨w.heap.size, 1, none⟩ = some (.slice bo A.length cap2) := cell_bel (by simp) hb1
    have hz1 := hbb1.size
    clear hlt hS HLI
    go_wp2_with fail
    refine (CopyW_any _ _ L _ (HL'.out.below hbb1) hz1 (by have := HLL.out; omega)).mono ?_
    rintro e w2 ⟨v3, rfl, ho3, hb2⟩
    have hbb2 := bel_tr hbb1 hb2
    have D0 := Lib.hid (cell_bel c0 hb2)
    have D1 := Lib.hid (cell_bel c1 hb2)
    have HO3 := Lib.hid (Rd.of_own ho3)
    clear c0 c1 ho3
    have hw2z : w.heap.size + 1 ≤ w2.heap.size := by
      have z1 := hb1.size
      have z2 := hb2.size
      simp at z1
      omega
    go_wp2
    go_loopw [3, 4, 5, 6, 7, 8, 9, 10, 11, 12, 13, 14, 15, 16] (fun s3 i _ _ _ _ _ _ _ _ _ _ _ _ wr => ∃ (k : Nat) (M : List Msg1), k ≤ A.length ∧ k ≤ 25 ∧ i = .int .i64 k ∧ Rd wr wr.heap.size 4 s3 M.length (wCells M) ∧ Short M ∧ M.length ≤ 20000 ∧ Below (w.heap.size + 1) w2 wr) (fun _ i _ _ _ _ _ _ _ _ _ _ _ _ _ => A.length - (intOf i).toNat)
    case atStart => exact ⟨0, L, by omega, by omega, rfl, HO3.out, HS.out, HLL.out, Below.refl _ _⟩
    case round =>
      obtain ⟨k, M, hk1, hk2, rfl, hM, hSM, hMl, hbr⟩ := hrel
      have HM' := Lib.hid hM
      have HSM := Lib.hid hSM
      clear hM hSM
      have e0 := (hbr.cell (p := ⟨w.heap.size, 0, none⟩) (by simp)).trans D0.out
      have e1 := (hbr.cell (p := ⟨w.heap.size, 1, none⟩) (by simp)).trans D1.out
      have hbw := hbb2.trans (hbr.mono (Nat.le_succ _))
      have hzr := hbr.size
      by_cases hlt : k < A.length
      · by_cases hlt2 : k < 25
        · obtain ⟨a, ha⟩ : ∃ a, A[k]? = some a := ⟨_, List.getElem?_eq_getElem hlt⟩
          obtain ⟨b, o, rfl, hbl, ⟨hc0', hc1', hc2', hc3', hc4', hc5'⟩, _, _, _, _, _⟩ := HA.out k a ha
          obtain ⟨hfl, hpl, htl⟩ := HLT.out.2.2.2 k a ha
          have c0 := (hbw.cell (p := ⟨b, o + k * 6, none⟩) hbl).trans hc0'
          have c1 := (hbw.cell (p := ⟨b, o + k * 6 + 1, none⟩) hbl).trans hc1'
          have c2 := (hbw.cell (p := ⟨b, o + k * 6 + 2, none⟩) hbl).trans hc2'
          have c3 := (hbw.cell (p := ⟨b, o + k * 6 + 3, none⟩) hbl).trans hc3'
          have c4 := (hbw.cell (p := ⟨b, o + k * 6 + 4, none⟩) hbl).trans hc4'
          have c5 := (hbw.cell (p := ⟨b, o + k * 6 + 5, none⟩) hbl).trans hc5'
          clear hc0' hc1' hc2' hc3' hc4' hc5' ha
          go_upto_region 8 with fail
          obtain ⟨wa, hwa⟩ : ∃ wa, wa = wr.alloc (.cells #[.int .i64 a.d, .string a.m.f, .string a.m.p, .int .i64 a.m.q, .bool a.m.r, .string a.t] 57) := ⟨_, rfl⟩
          rw [← hwa]
          have hba : Below wr.heap.size wr wa := hwa ▸ (Below.refl wr.heap.size wr).alloc (Nat.le_refl _) _
          have f0 : wa.cell? ⟨wr.heap.size, 0, none⟩ = some (.int .i64 a.d) := by rw [hwa]; simp
          have f1 : wa.cell? ⟨wr.heap.size, 1, none⟩ = some (.string a.m.f) := by rw [hwa]; simp
          have f2 : wa.cell? ⟨wr.heap.size, 2, none⟩ = some (.string a.m.p) := by rw [hwa]; simp
          have f3 : wa.cell? ⟨wr.heap.size, 3, none⟩ = some (.int .i64 a.m.q) := by rw [hwa]; simp
          have f4 : wa.cell? ⟨wr.heap.size, 4, none⟩ = some (.bool a.m.r) := by rw [hwa]; simp
          have f5 : wa.cell? ⟨wr.heap.size, 5, none⟩ = some (.string a.t) := by rw [hwa]; simp
          have HMa := Lib.hid ((HM'.out.below hba).more hba.size)
          have hEa := hE.below (bel_tr hbw hba)
          clear hwa c0 c1 c2 c3 c4 c5
          obtain ⟨d, hd⟩ : ∃ d, d = within a.d 6 := ⟨_, rfl⟩
          have HDD := Lib.hid hd
          clear hd
          cases h1 : subsB M
          · have H1 := Lib.hid h1
            clear h1
            go_wp2_with fail
            refine (rKept_any _ _ M HMa.out HSM.out hEa).mono ?_
            rintro e wb ⟨rfl, hb1⟩
            rw [H1.out]
            go_wp2_with fail
            refine (Check_any _ _ M ((HMa.out.below hb1).more hb1.size) HSM.out (hEa.below hb1)).mono ?_
            rintro e wc ⟨rfl, hb2⟩
            rw [H1.out]
            have hac := bel_tr hb1 hb2
            go_wp2_with (go_at_call 28; refine (num_any _ _).mono ?_; rintro e w' ⟨rfl, rfl⟩)
            refine (CopyW_any _ _ M _ ((HMa.out.below hac).more hac.size) (Nat.le_refl _) (by omega)).mono ?_
            rintro e wd ⟨v8, rfl, ho8, hb3⟩
            have had := bel_tr hac hb3
            have HMd := Lib.hid ((HMa.out.below had).more had.size)
            have HI := Lib.hid (Rd.of_own ho8)
            have hEd := hEa.below had
            have g0 := cell_bel f0 had
            have g1 := cell_bel f1 had
            have g2 := cell_bel f2 had
            have g3 := cell_bel f3 had
            have g4 := cell_bel f4 had
            have g5 := cell_bel f5 had
            have hbd := bel_to hbr (bel_tr hba had) (by omega)
            clear ho8 hb1 hb2 hac hb3 f0 f1 f2 f3 f4 f5
            by_cases hdd : 4 ≤ d
            · have HD : Hid (matchM M a.t = ([], 1)) := Lib.hid (match_no (by rw [H1.out]; rfl))
              go_wp2_with (go_at_call 24; refine (Within_any _ _ 6 (by omega) (by omega)).mono ?_; rintro e w' ⟨rfl, rfl⟩; rw [← HDD.out])
              refine (Match_any _ _ M a.t HI.out HSM.out (by omega) hEd).mono ?_
              rintro e we ⟨v9, rfl, ho9, hb9⟩
              rw [HD.out] at ho9 ⊢
              have HW1 := Lib.hid ho9
              have hB1 : wd.heap.size ≤ wd.heap.size := (Nat.le_refl _)
              have hB2 := hb9.size
              have HW2 : Hid (Rd we wd.heap.size 4 (.slice none 0 0) ([] : List Msg1).length (wCells [])) := Lib.hid (Rd.nil_ _ _ _)
              have hWl : ([] : List Msg1).length ≤ 20000 := by simp
              clear ho9
              have hbx := hb9
              go_wp2_with (go_at_call 28; refine (num_any _ _).mono ?_; rintro e w' ⟨rfl, rfl⟩)
              refine (EqW_any _ _ _ ([] : List Msg1) ([] : List Msg1) _ _ (Rd.of_own HW1.out) HW2.out rfl).mono ?_
              rintro e wf ⟨rfl, hf1⟩
              have hxf := bel_to hbx hf1 (Nat.le_refl _)
              go_wp2_with fail
              refine (Spoil_any _ wd.heap.size _ (([] : List Msg1)).length (wCells ([] : List Msg1)) (own_below HW1.out hf1) (Nat.le_trans hB2 hf1.size) (by omega)).mono ?_
              rintro e wh ⟨rfl, hf3⟩
              have hxh := hxf.trans (hf3.mono hB1)
              go_wp2_with fail
              refine (EqW_any _ _ _ M M _ _ (HI.out.below hxh) (HMd.out.below hxh) rfl).mono ?_
              rintro e wi ⟨rfl, hf4⟩
              have hxi := bel_to hxh hf4 (Nat.le_refl _)
              go_wp2
              go_roundw
              case rel => exact ⟨k + 1, M, by omega, by omega, by go_num, (HMd.out.below hxi).more hxi.size, HSM.out, hMl, bel_to hbd hxi (by omega)⟩
              case measure => simp [intOf]; omega
            · have HD : Hid (putL M a.m = ([], 1)) := Lib.hid (putL_no (by rw [H1.out]; rfl))
              go_wp2_with (go_at_call 24; refine (Within_any _ _ 6 (by omega) (by omega)).mono ?_; rintro e w' ⟨rfl, rfl⟩; rw [← HDD.out])
              refine (Put_any _ _ M a.m HI.out HSM.out (by omega) (by omega) hEd).mono ?_
              rintro e we ⟨v9, rfl, ho9, hb9⟩
              rw [HD.out] at ho9 ⊢
              have HW1 := Lib.hid ho9
              have hB1 : wd.heap.size ≤ wd.heap.size := (Nat.le_refl _)
              have hB2 := hb9.size
              have HW2 : Hid (Rd we wd.heap.size 4 (.slice none 0 0) ([] : List Msg1).length (wCells [])) := Lib.hid (Rd.nil_ _ _ _)
              have hWl : ([] : List Msg1).length ≤ 20000 := by simp
              clear ho9
              have hbx := hb9
              go_wp2_with (go_at_call 28; refine (num_any _ _).mono ?_; rintro e w' ⟨rfl, rfl⟩)
              refine (EqW_any _ _ _ ([] : List Msg1) ([] : List Msg1) _ _ (Rd.of_own HW1.out) HW2.out rfl).mono ?_
              rintro e wf ⟨rfl, hf1⟩
              have hxf := bel_to hbx hf1 (Nat.le_refl _)
              go_wp2_with fail
              refine (EqW_any _ _ _ M M _ _ (HI.out.below hxf) (HMd.out.below hxf) rfl).mono ?_
              rintro e wg ⟨rfl, hf2⟩
              have hxg := bel_to hxf hf2 (Nat.le_refl _)
              have hcg := bel_tr hf1 hf2
              go_wp2_with fail
              refine (Spoil_any _ wd.heap.size _ (([] : List Msg1)).length (wCells ([] : List Msg1)) (own_below HW1.out hcg) (Nat.le_trans hB2 hcg.size) (by omega)).mono ?_
              rintro e wh ⟨rfl, hf3⟩
              have hxh := hxg.trans (hf3.mono hB1)
              have HW2' := Lib.hid ((HW2.out.below (hcg.mono hB2)).below hf3)
              go_wp2_with fail
              refine (EqW_any _ _ _ M M _ _ (HI.out.below hxh) (HMd.out.below hxh) rfl).mono ?_
              rintro e wi ⟨rfl, hf4⟩
              have hxi := bel_to hxh hf4 (Nat.le_refl _)
              have hBi := Nat.le_trans hB2 (Nat.le_trans hcg.size hf3.size)
              go_wp2
              go_roundw
              case rel => exact ⟨k + 1, M, by omega, by omega, by go_num, (HMd.out.below hxi).more hxi.size, HSM.out, hMl, bel_to hbd hxi (by omega)⟩
              case measure => simp [intOf]; omega
          · have hM16 := subsB_len h1
            have H1 := Lib.hid h1
            clear h1
            go_wp2_with fail
            refine (rKept_any _ _ M HMa.out HSM.out hEa).mono ?_
            rintro e wb ⟨rfl, hb1⟩
            rw [H1.out]
            go_wp2_with fail
            refine (Check_any _ _ M ((HMa.out.below hb1).more hb1.size) HSM.out (hEa.below hb1)).mono ?_
            rintro e wc ⟨rfl, hb2⟩
            rw [H1.out]
            have hac := bel_tr hb1 hb2
            go_wp2_with (go_at_call 28; refine (num_any _ _).mono ?_; rintro e w' ⟨rfl, rfl⟩)
            refine (CopyW_any _ _ M _ ((HMa.out.below hac).more hac.size) (Nat.le_refl _) (by omega)).mono ?_
            rintro e wd ⟨v8, rfl, ho8, hb3⟩
            have had := bel_tr hac hb3
            have HMd := Lib.hid ((HMa.out.below had).more had.size)
            have HI := Lib.hid (Rd.of_own ho8)
            have hEd := hEa.below had
            have g0 := cell_bel f0 had
            have g1 := cell_bel f1 had
            have g2 := cell_bel f2 had
            have g3 := cell_bel f3 had
            have g4 := cell_bel f4 had
            have g5 := cell_bel f5 had
            have hbd := bel_to hbr (bel_tr hba had) (by omega)
            clear ho8 hb1 hb2 hac hb3 f0 f1 f2 f3 f4 f5
            by_cases hdd : 4 ≤ d
            · cases hft : ft a.t
              · have HFT := Lib.hid hft
                have HD : Hid (matchM M a.t = ([], 1)) := Lib.hid (match_no (by rw [hft, Bool.and_false]))
                clear hft
                go_wp2_with (go_at_call 24; refine (Within_any _ _ 6 (by omega) (by omega)).mono ?_; rintro e w' ⟨rfl, rfl⟩; rw [← HDD.out])
                refine (rFilter_any _ a.t (by omega) hEd).mono ?_
                rintro e wk ⟨rfl, hb7⟩
                rw [HFT.out]
                have k5 := cell_bel g5 hb7
                go_wp2_with fail
                refine (Match_any _ _ M a.t ((HI.out.below hb7).more hb7.size) HSM.out (by omega) (hEd.below hb7)).mono ?_
                rintro e we ⟨v9, rfl, ho9, hb9⟩
                rw [HD.out] at ho9 ⊢
                have HW1 := Lib.hid ho9
                have hB1 : wd.heap.size ≤ wk.heap.size := hb7.size
                have hB2 := hb9.size
                have HW2 : Hid (Rd we wk.heap.size 4 (.slice none 0 0) ([] : List Msg1).length (wCells [])) := Lib.hid (Rd.nil_ _ _ _)
                have hWl : ([] : List Msg1).length ≤ 20000 := by simp
                clear ho9
                have hbx := bel_tr hb7 hb9
                go_wp2_with (go_at_call 28; refine (num_any _ _).mono ?_; rintro e w' ⟨rfl, rfl⟩)
                refine (EqW_any _ _ _ ([] : List Msg1) ([] : List Msg1) _ _ (Rd.of_own HW1.out) HW2.out rfl).mono ?_
                rintro e wf ⟨rfl, hf1⟩
                have hxf := bel_to hbx hf1 (Nat.le_refl _)
                go_wp2_with fail
                refine (Spoil_any _ wk.heap.size _ (([] : List Msg1)).length (wCells ([] : List Msg1)) (own_below HW1.out hf1) (Nat.le_trans hB2 hf1.size) (by omega)).mono ?_
                rintro e wh ⟨rfl, hf3⟩
                have hxh := hxf.trans (hf3.mono hB1)
                go_wp2_with fail
                refine (EqW_any _ _ _ M M _ _ (HI.out.below hxh) (HMd.out.below hxh) rfl).mono ?_
                rintro e wi ⟨rfl, hf4⟩
                have hxi := bel_to hxh hf4 (Nat.le_refl _)
                go_wp2
                go_roundw
                case rel => exact ⟨k + 1, M, by omega, by omega, by go_num, (HMd.out.below hxi).more hxi.size, HSM.out, hMl, bel_to hbd hxi (by omega)⟩
                case measure => simp [intOf]; omega
              · have HFT := Lib.hid hft
                have HD : Hid (matchM M a.t = (hits a.t M, 0)) := Lib.hid (match_yes H1.out hft)
                have HS1 : Hid (∀ (i : Nat) (x : Msg1), M[i]? = some x → 1 ≤ x.f.size) := Lib.hid (fun i x hx => (nm_len (mayW_nm (mayK_may (subsB_q H1.out i x hx)).1)).1)
                have hWl : (hits a.t M).length ≤ 20000 := Nat.le_trans (List.length_filter_le _ _) hMl
                clear hft
                go_wp2_with (go_at_call 24; refine (Within_any _ _ 6 (by omega) (by omega)).mono ?_; rintro e w' ⟨rfl, rfl⟩; rw [← HDD.out])
                refine (rFilter_any _ a.t (by omega) hEd).mono ?_
                rintro e wk ⟨rfl, hb7⟩
                rw [HFT.out]
                have k5 := cell_bel g5 hb7
                go_wp2_with fail
                refine (Find_any _ _ M a.t _ (HMd.out.below hb7) hb7.size (by omega) HFT.out HSM.out HS1.out).mono ?_
                rintro e wl ⟨v10, rfl, ho10, hb8⟩
                have m5 := cell_bel k5 hb8
                have hb78 := bel_tr hb7 hb8
                have HO10 := Lib.hid (Rd.of_own ho10)
                clear ho10
                go_wp2_with fail
                refine (Match_any _ _ M a.t ((HI.out.below hb78).more hb78.size) HSM.out (by omega) (hEd.below hb78)).mono ?_
                rintro e we ⟨v9, rfl, ho9, hb9⟩
                rw [HD.out] at ho9 ⊢
                have HW1 := Lib.hid ho9
                have HW2 := Lib.hid (HO10.out.below hb9)
                have hB1 : wd.heap.size ≤ wl.heap.size := hb78.size
                have hB2 := hb9.size
                have hbx := bel_tr hb78 hb9
                clear ho9
                go_wp2_with (go_at_call 28; refine (num_any _ _).mono ?_; rintro e w' ⟨rfl, rfl⟩)
                refine (EqW_any _ _ _ (hits a.t M) (hits a.t M) _ _ (Rd.of_own HW1.out) HW2.out rfl).mono ?_
                rintro e wf ⟨rfl, hf1⟩
                have hxf := bel_to hbx hf1 (Nat.le_refl _)
                go_wp2_with fail
                refine (Spoil_any _ wl.heap.size _ ((hits a.t M)).length (wCells (hits a.t M)) (own_below HW1.out hf1) (Nat.le_trans hB2 hf1.size) (by omega)).mono ?_
                rintro e wh ⟨rfl, hf3⟩
                have hxh := hxf.trans (hf3.mono hB1)
                go_wp2_with fail
                refine (EqW_any _ _ _ M M _ _ (HI.out.below hxh) (HMd.out.below hxh) rfl).mono ?_
                rintro e wi ⟨rfl, hf4⟩
                have hxi := bel_to hxh hf4 (Nat.le_refl _)
                go_wp2
                go_roundw
                case rel => exact ⟨k + 1, M, by omega, by omega, by go_num, (HMd.out.below hxi).more hxi.size, HSM.out, hMl, bel_to hbd hxi (by omega)⟩
                case measure => simp [intOf]; omega
            · cases hmw : mayW a.m
              · have HMW := Lib.hid hmw
                have HD : Hid (putL M a.m = ([], 1)) := Lib.hid (putL_no (by rw [hmw, Bool.and_false]))
                clear hmw
                go_wp2_with (go_at_call 24; refine (Within_any _ _ 6 (by omega) (by omega)).mono ?_; rintro e w' ⟨rfl, rfl⟩; rw [← HDD.out])
                refine (rMayPut_any _ a.m (by omega) (by omega) hEd).mono ?_
                rintro e wk ⟨rfl, hb7⟩
                rw [HMW.out]
                have k1 := cell_bel g1 hb7
                have k2 := cell_bel g2 hb7
                have k3 := cell_bel g3 hb7
                have k4 := cell_bel g4 hb7
                go_wp2_with fail
                refine (Put_any _ _ M a.m ((HI.out.below hb7).more hb7.size) HSM.out (by omega) (by omega) (hEd.below hb7)).mono ?_
                rintro e we ⟨v9, rfl, ho9, hb9⟩
                rw [HD.out] at ho9 ⊢
                have HW1 := Lib.hid ho9
                have hB1 : wd.heap.size ≤ wk.heap.size := hb7.size
                have hB2 := hb9.size
                have HW2 : Hid (Rd we wk.heap.size 4 (.slice none 0 0) ([] : List Msg1).length (wCells [])) := Lib.hid (Rd.nil_ _ _ _)
                have hWl : ([] : List Msg1).length ≤ 20000 := by simp
                clear ho9
                have hbx := bel_tr hb7 hb9
                go_wp2_with (go_at_call 28; refine (num_any _ _).mono ?_; rintro e w' ⟨rfl, rfl⟩)
                refine (EqW_any _ _ _ ([] : List Msg1) ([] : List Msg1) _ _ (Rd.of_own HW1.out) HW2.out rfl).mono ?_
                rintro e wf ⟨rfl, hf1⟩
                have hxf := bel_to hbx hf1 (Nat.le_refl _)
                go_wp2_with fail
                refine (EqW_any _ _ _ M M _ _ (HI.out.below hxf) (HMd.out.below hxf) rfl).mono ?_
                rintro e wg ⟨rfl, hf2⟩
                have hxg := bel_to hxf hf2 (Nat.le_refl _)
                have hcg := bel_tr hf1 hf2
                go_wp2_with fail
                refine (Spoil_any _ wk.heap.size _ (([] : List Msg1)).length (wCells ([] : List Msg1)) (own_below HW1.out hcg) (Nat.le_trans hB2 hcg.size) (by omega)).mono ?_
                rintro e wh ⟨rfl, hf3⟩
                have hxh := hxg.trans (hf3.mono hB1)
                have HW2' := Lib.hid ((HW2.out.below (hcg.mono hB2)).below hf3)
                go_wp2_with fail
                refine (EqW_any _ _ _ M M _ _ (HI.out.below hxh) (HMd.out.below hxh) rfl).mono ?_
                rintro e wi ⟨rfl, hf4⟩
                have hxi := bel_to hxh hf4 (Nat.le_refl _)
                have hBi := Nat.le_trans hB2 (Nat.le_trans hcg.size hf3.size)
                go_wp2
                go_roundw
                case rel => exact ⟨k + 1, M, by omega, by omega, by go_num, (HMd.out.below hxi).more hxi.size, HSM.out, hMl, bel_to hbd hxi (by omega)⟩
                case measure => simp [intOf]; omega
              · have HMW := Lib.hid hmw
                have HD := Lib.hid (put_eq H1.out hmw)
                have HW3 : Hid (Short (rputL M a.m).1) := Lib.hid (short_rput HSM.out ⟨by omega, by omega⟩)
                have hWl : (rputL M a.m).1.length ≤ 20000 := by have := @rput_len M a.m; omega
                clear hmw
                go_wp2_with (go_at_call 24; refine (Within_any _ _ 6 (by omega) (by omega)).mono ?_; rintro e w' ⟨rfl, rfl⟩; rw [← HDD.out])
                refine (rMayPut_any _ a.m (by omega) (by omega) hEd).mono ?_
                rintro e wk ⟨rfl, hb7⟩
                rw [HMW.out]
                have k1 := cell_bel g1 hb7
                have k2 := cell_bel g2 hb7
                have k3 := cell_bel g3 hb7
                have k4 := cell_bel g4 hb7
                go_wp2_with fail
                refine (rPut_any _ _ M a.m ((HMd.out.below hb7).more hb7.size) (by omega)).mono ?_
                rintro e wl ⟨v10, rfl, ho10, hb8⟩
                have m1 := cell_bel k1 hb8
                have m2 := cell_bel k2 hb8
                have m3 := cell_bel k3 hb8
                have m4 := cell_bel k4 hb8
                have hb78 := bel_tr hb7 hb8
                have HO10 := Lib.hid (Rd.of_own ho10)
                clear ho10
                go_wp2_with fail
                refine (Put_any _ _ M a.m ((HI.out.below hb78).more hb78.size) HSM.out (by omega) (by omega) (hEd.below hb78)).mono ?_
                rintro e we ⟨v9, rfl, ho9, hb9⟩
                rw [HD.out] at ho9 ⊢
                have HW1 := Lib.hid ho9
                have HW2 := Lib.hid (HO10.out.below hb9)
                have hB1 : wd.heap.size ≤ wl.heap.size := hb78.size
                have hB2 := hb9.size
                have hbx := bel_tr hb78 hb9
                clear ho9
                obtain ⟨b', hb'⟩ : ∃ b', (rputL M a.m).2 = b' := ⟨_, rfl⟩
                rw [hb']
                clear hb'
                go_wp2_with (go_at_call 28; refine (num_any _ _).mono ?_; rintro e w' ⟨rfl, rfl⟩)
                refine (EqW_any _ _ _ (rputL M a.m).1 (rputL M a.m).1 _ _ (Rd.of_own HW1.out) HW2.out rfl).mono ?_
                rintro e wf ⟨rfl, hf1⟩
                have hxf := bel_to hbx hf1 (Nat.le_refl _)
                go_wp2_with fail
                refine (EqW_any _ _ _ M M _ _ (HI.out.below hxf) (HMd.out.below hxf) rfl).mono ?_
                rintro e wg ⟨rfl, hf2⟩
                have hxg := bel_to hxf hf2 (Nat.le_refl _)
                have hcg := bel_tr hf1 hf2
                go_wp2_with fail
                refine (Spoil_any _ wl.heap.size _ ((rputL M a.m).1).length (wCells (rputL M a.m).1) (own_below HW1.out hcg) (Nat.le_trans hB2 hcg.size) (by omega)).mono ?_
                rintro e wh ⟨rfl, hf3⟩
                have hxh := hxg.trans (hf3.mono hB1)
                have HW2' := Lib.hid ((HW2.out.below (hcg.mono hB2)).below hf3)
                go_wp2_with fail
                refine (EqW_any _ _ _ M M _ _ (HI.out.below hxh) (HMd.out.below hxh) rfl).mono ?_
                rintro e wi ⟨rfl, hf4⟩
                have hxi := bel_to hxh hf4 (Nat.le_refl _)
                have hBi := Nat.le_trans hB2 (Nat.le_trans hcg.size hf3.size)
                by_cases hb : b' = 0
                · subst hb
                  go_wp2_with fail
                  refine (CopyW_any _ _ (rputL M a.m).1 _ (HW2'.out.below (hf4.mono hBi)) (Nat.le_trans hBi hf4.size) (by omega)).mono ?_
                  rintro e wj ⟨v3, rfl, hoj, hf5⟩
                  have hxj := bel_to hxi hf5 (Nat.le_refl _)
                  have HOJ := Lib.hid (Rd.of_own hoj)
                  clear hoj
                  go_wp2
                  go_roundw
                  case rel => exact ⟨k + 1, (rputL M a.m).1, by omega, by omega, by go_num, HOJ.out, HW3.out, hWl, bel_to hbd hxj (by omega)⟩
                  case measure => simp [intOf]; omega
                · have hbf : (b' == 0) = false := beq_eq_false_iff_ne.2 hb
                  clear hb
                  go_wp2
                  go_roundw
                  case rel => exact ⟨k + 1, M, by omega, by omega, by go_num, (HMd.out.below hxi).more hxi.size, HSM.out, hMl, bel_to hbd hxi (by omega)⟩
                  case measure => simp [intOf]; omega
        · have hk3 : k = 25 := by omega
          subst hk3
          go_wp2_with fail
          refine (kwakes_any _).mono ?_
          rintro e w4 ⟨rfl, hb4⟩
          go_wp2
          go_ret
          exact ⟨rfl, bel_tr hbw hb4⟩
      · have hk3 : k = A.length := by omega
        subst hk3
        go_wp2_with fail
        refine (kwakes_any _).mono ?_
        rintro e w4 ⟨rfl, hb4⟩
        go_wp2
        go_ret
        exact ⟨rfl, bel_tr hbw hb4⟩
  · go_wp2
    go_ret
    exact ⟨rfl, hbb1⟩
end Go.Proofs.YtimjbojoeacaeaaDoor
