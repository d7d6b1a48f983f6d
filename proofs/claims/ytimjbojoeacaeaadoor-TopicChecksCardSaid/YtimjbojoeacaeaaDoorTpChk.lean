/- TopicChecks: the walk. -/

import Derived.Test.YtimjbojoeacaeaaDoorTpArg
import Derived.Deep.DeepCutAuto
import Derived.RegionTactic
import Derived.BigRegion
namespace Go.Proofs.YtimjbojoeacaeaaDoor
open Go.RowKit Go.Shelf Go.Proofs

theorem bel_trans {w w1 w2 : World} (h : Below w.heap.size w w1) (h2 : Below w1.heap.size w1 w2) : Below w.heap.size w w2 := h.trans (h2.mono h.size)

set_option maxRecDepth 20000 in
set_option maxHeartbeats 4000000 in
theorem TopicChecks_any (w : World) (lv : Value) (A : List Ask1) (hA : AsksAt w w.heap.size lv A) (hE : Env w) :
    Calls Tryd.prog 5 #[lv] w fun e w' => e = .returned (.bool true) ∧ Below w.heap.size w w' := by
  obtain ⟨ao, cap, rfl, hc1, hc2, hasks⟩ := hA
  have HA := Lib.hid hasks
  clear hasks
  go_enter Tryd.func5, Tryd.ntmps5
  go_wp2
  go_loopw [3, 4, 5, 6, 7] (fun i _ _ _ _ wr => ∃ k : Nat, k ≤ A.length ∧ k ≤ 20 ∧ i = .int .i64 k ∧ Below w.heap.size w wr) (fun i _ _ _ _ _ => A.length - (intOf i).toNat)
  case atStart => exact ⟨0, by omega, by omega, rfl, Below.refl _ _⟩
  case round =>
    obtain ⟨k, hk1, hk2, rfl, hb⟩ := hrel
    have hzs := hb.size
    by_cases hlt : k < A.length
    · by_cases hlt2 : k < 20
      · obtain ⟨a, ha⟩ : ∃ a, A[k]? = some a := ⟨_, List.getElem?_eq_getElem hlt⟩
        obtain ⟨b, o, rfl, hbl, hc0, hc1', hs1, hs2⟩ := HA.out k a ha
        obtain ⟨f, t⟩ := a
        simp only at hc0 hc1' hs1 hs2
        have c0 := (hb.cell (p := ⟨b, _, none⟩) hbl).trans hc0
        have c1 := (hb.cell (p := ⟨b, _, none⟩) hbl).trans hc1'
        clear hc0 hc1' ha
        cases hh : heavyB (f, t)
        · have HH := Lib.hid hh
          have hfl : f.size ≤ 1000 ∧ t.size ≤ 1000 := by
            unfold heavyB at hh
            simp at hh
            exact hh
          obtain ⟨hf1, ht1⟩ := hfl
          clear hh
          go_wp2_with (go_at_call 11; refine (heavy_any _ (f, t) hs1 hs2).mono ?_; rintro e w1 ⟨rfl, hb1⟩; rw [HH.out])
          have hbw1 := hb.trans (hb1.mono hzs)
          obtain ⟨wo, rfl⟩ : ∃ wo : World, wo = wr := ⟨_, rfl⟩
          go_loopw [4, 5, 6, 7] (fun j _ _ _ wr => ∃ q : Nat, q ≤ 2 ∧ j = .int .i64 q ∧ Below w.heap.size w wr) (fun j _ _ _ _ => 2 - (intOf j).toNat)
          case atStart => exact ⟨0, by omega, rfl, hbw1⟩
          case round =>
            obtain ⟨q, hq, rfl, hbr⟩ := hrel
            have d0 := (hbr.cell (p := ⟨b, o + k * 2, none⟩) hbl).trans ((hb.cell (p := ⟨b, o + k * 2, none⟩) hbl).symm.trans c0)
            have d1 := (hbr.cell (p := ⟨b, o + k * 2 + 1, none⟩) hbl).trans ((hb.cell (p := ⟨b, o + k * 2 + 1, none⟩) hbl).symm.trans c1)
            clear c0 c1
            rcases (show q = 0 ∨ q = 1 ∨ q = 2 by omega) with rfl | rfl | rfl
            · go_wp2
              go_region
              have hb0 := (hbr.alloc (Nat.le_trans (Nat.le_refl _) hbr.size) (.cells #[.string f, .string t] 9)).drew
              cases hn : nm f
              all_goals cases hf : ft f
              all_goals
                have HN := Lib.hid hn
                have HF := Lib.hid hf
                clear hn hf
                go_wp2_with fail
                refine (pName_any _ f (by omega) (hE.below hb0)).mono ?_
                rintro e w2 ⟨rfl, hb2⟩
                have hbb2 := bel_trans hb0 hb2
                simp only [HN.out, ↓reduceIte, Bool.false_eq_true]
                go_wp2_with (go_at_call 16; refine (num_any _ _).mono ?_; rintro e w' ⟨rfl, rfl⟩)
                refine (pFilter_any _ f (by omega) (hE.below hbb2)).mono ?_
                rintro e w3 ⟨rfl, hb3⟩
                have hbb3 := bel_trans hbb2 hb3
                simp only [HF.out, ↓reduceIte, Bool.false_eq_true]
                go_wp2_with (go_at_call 16; refine (num_any _ _).mono ?_; rintro e w' ⟨rfl, rfl⟩)
                refine (rName_any _ f hs1 (hE.below hbb3)).mono ?_
                rintro e w4 ⟨rfl, hb4⟩
                have hbb4 := bel_trans hbb3 hb4
                rw [HN.out]
                go_wp2_with fail
                refine (rFilter_any _ f (by omega) (hE.below hbb4)).mono ?_
                rintro e w5 ⟨rfl, hb5⟩
                have hbb5 := bel_trans hbb4 hb5
                rw [HF.out]
                go_wp2
                go_roundw
                case rel => exact ⟨1, by omega, by go_num, hbb5⟩
                case measure => simp [intOf]
            · go_wp2
              go_region
              have hb0 := (hbr.alloc (Nat.le_trans (Nat.le_refl _) hbr.size) (.cells #[.string f, .string t] 9)).drew
              cases hn : nm t
              all_goals cases hf : ft t
              all_goals
                have HN := Lib.hid hn
                have HF := Lib.hid hf
                clear hn hf
                go_wp2_with fail
                refine (pName_any _ t (by omega) (hE.below hb0)).mono ?_
                rintro e w2 ⟨rfl, hb2⟩
                have hbb2 := bel_trans hb0 hb2
                simp only [HN.out, ↓reduceIte, Bool.false_eq_true]
                go_wp2_with (go_at_call 16; refine (num_any _ _).mono ?_; rintro e w' ⟨rfl, rfl⟩)
                refine (pFilter_any _ t (by omega) (hE.below hbb2)).mono ?_
                rintro e w3 ⟨rfl, hb3⟩
                have hbb3 := bel_trans hbb2 hb3
                simp only [HF.out, ↓reduceIte, Bool.false_eq_true]
                go_wp2_with (go_at_call 16; refine (num_any _ _).mono ?_; rintro e w' ⟨rfl, rfl⟩)
                refine (rName_any _ t hs2 (hE.below hbb3)).mono ?_
                rintro e w4 ⟨rfl, hb4⟩
                have hbb4 := bel_trans hbb3 hb4
                rw [HN.out]
                go_wp2_with fail
                refine (rFilter_any _ t (by omega) (hE.below hbb4)).mono ?_
                rintro e w5 ⟨rfl, hb5⟩
                have hbb5 := bel_trans hbb4 hb5
                rw [HF.out]
                go_wp2
                go_roundw
                case rel => exact ⟨2, by omega, by go_num, hbb5⟩
                case measure => simp [intOf]
            · go_wp2
              go_roundw
              case rel => exact ⟨k + 1, by omega, by omega, by go_num, hbr⟩
              case measure => simp [intOf]; omega
        · have HH := Lib.hid hh
          clear hh
          go_wp2_with (go_at_call 11; refine (heavy_any _ (f, t) hs1 hs2).mono ?_; rintro e w1 ⟨rfl, hb1⟩; rw [HH.out])
          go_ret
          exact ⟨rfl, hb.trans (hb1.mono hzs)⟩
      · have hlt3 : k = 20 := by omega
        subst hlt3
        go_wp2_with (go_at_call 17; refine (wakes_any _ (hE.below hb)).mono ?_; rintro e w1 ⟨rfl, hb1⟩)
        go_ret
        exact ⟨rfl, bel_trans hb hb1⟩
    · have hlt3 : k = A.length := by omega
      subst hlt3
      go_wp2_with (go_at_call 17; refine (wakes_any _ (hE.below hb)).mono ?_; rintro e w1 ⟨rfl, hb1⟩)
      go_ret
      exact ⟨rfl, bel_trans hb hb1⟩
end Go.Proofs.YtimjbojoeacaeaaDoor
