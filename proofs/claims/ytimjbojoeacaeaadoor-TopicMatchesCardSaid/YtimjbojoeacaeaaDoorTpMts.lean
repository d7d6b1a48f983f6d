/- TopicMatches: the walk. -/

import Derived.Test.YtimjbojoeacaeaaDoorTpArg
import Derived.Deep.DeepCutAuto
namespace Go.Proofs.YtimjbojoeacaeaaDoor
open Go.RowKit Go.Shelf Go.Proofs
theorem bel_tr {w w1 w2 : World} (h : Below w.heap.size w w1) (h2 : Below w1.heap.size w1 w2) : Below w.heap.size w w2 := h.trans (h2.mono h.size)

set_option maxRecDepth 20000 in
set_option maxHeartbeats 4000000 in
theorem TopicMatches_any (w : World) (lv : Value) (A : List Ask1) (hA : AsksAt w w.heap.size lv A) (hE : Env w) :
    Calls Tryd.prog 3 #[lv] w fun e w' => e = .returned (.bool true) ∧ Below w.heap.size w w' := by
  obtain ⟨ao, cap, rfl, hc1, hc2, hasks⟩ := hA
  have HA := Lib.hid hasks
  clear hasks
  go_enter Tryd.func3, Tryd.ntmps3
  go_wp2
  go_loopw [3, 4, 5, 6, 7, 8, 9, 10] (fun i _ _ _ _ _ _ _ wr => ∃ k : Nat, k ≤ A.length ∧ k ≤ 20 ∧ i = .int .i64 k ∧ Below w.heap.size w wr) (fun i _ _ _ _ _ _ _ _ => A.length - (intOf i).toNat)
  case atStart => exact ⟨0, by omega, by omega, rfl, Below.refl _ _⟩
  case round =>
    obtain ⟨k, hk1, hk2, rfl, hb⟩ := hrel
    have hzs := hb.size
    by_cases hlt : k < A.length
    · by_cases hlt2 : k < 20
      · obtain ⟨a, ha⟩ : ∃ a, A[k]? = some a := ⟨_, List.getElem?_eq_getElem hlt⟩
        obtain ⟨b, o, rfl, hbl, hc0, hc1', hs1, hs2⟩ := HA.out k a ha
        obtain ⟨f, t0⟩ := a
        simp only at hc0 hc1' hs1 hs2
        have c0 := (hb.cell (p := ⟨b, _, none⟩) hbl).trans hc0
        have c1 := (hb.cell (p := ⟨b, _, none⟩) hbl).trans hc1'
        have HC0 := Lib.hid hc0
        clear hc0 hc1' ha
        cases hh : heavyB (f, t0)
        · have HH := Lib.hid hh
          have hf1 : f.size ≤ 1000 := by
            unfold heavyB at hh
            simp at hh
            exact hh.1
          clear hh
          go_wp2_with (go_at_call 11; refine (heavy_any _ (f, t0) hs1 hs2).mono ?_; rintro e w1 ⟨rfl, hb1⟩; rw [HH.out])
          have hbw1 := hb.trans (hb1.mono hzs)
          obtain ⟨wo, rfl⟩ : ∃ wo : World, wo = wr := ⟨_, rfl⟩
          clear c0 c1
          go_loopw [4, 5, 6, 7, 8, 9, 10] (fun j _ _ _ _ _ _ wr => ∃ q : Nat, q ≤ A.length ∧ q ≤ 20 ∧ j = .int .i64 q ∧ Below w.heap.size w wr) (fun j _ _ _ _ _ _ _ => A.length - (intOf j).toNat)
          case atStart => exact ⟨0, by omega, by omega, rfl, hbw1⟩
          case round =>
            obtain ⟨q, hq1, hq2, rfl, hbr⟩ := hrel
            by_cases hlq : q < A.length
            · by_cases hlq2 : q < 20
              · obtain ⟨a2, ha2⟩ : ∃ a, A[q]? = some a := ⟨_, List.getElem?_eq_getElem hlq⟩
                obtain ⟨b', o', he, hbl', hd0, hd1', hu1, hu2⟩ := HA.out q a2 ha2
                injection he with he
                injection he with he1 he2
                subst he1 he2
                obtain ⟨f0, t⟩ := a2
                simp only at hd0 hd1' hu1 hu2
                have c0 := (hbr.cell (p := ⟨b, _, none⟩) hbl).trans HC0.out
                have c1 := (hbr.cell (p := ⟨b, _, none⟩) hbl).trans hd1'
                clear hd0 hd1' ha2
                by_cases ht1 : t.size ≤ 1000
                · go_wp2
                  go_quiet (fail)
                  have hbq := below_drewN hbr nq
                  clear c0 c1
                  cases hf : ft f
                  · have HM : Hid (mRes f t = .tuple #[.bool false, .int .i64 1]) := Lib.hid (by unfold mRes; rw [hf]; rfl)
                    have HF := Lib.hid hf
                    clear hf
                    go_wp2_with fail
                    refine (rFilter_any _ f (by omega) (hE.below hbq)).mono ?_
                    rintro e w2 ⟨rfl, hb2⟩
                    have hbb2 := bel_tr hbq hb2
                    rw [HF.out]
                    go_wp2_with fail
                    refine (pMatch_any _ f t (by omega) (by omega) (hE.below hbb2)).mono ?_
                    rintro e w3 ⟨rfl, hb3⟩
                    have hbbz := bel_tr hbb2 hb3
                    rw [HM.out]
                    go_wp2_with (go_at_call 16; refine (num_any _ _).mono ?_; rintro e w' ⟨rfl, rfl⟩)
                    go_roundw
                    case rel => exact ⟨q + 1, by omega, by omega, by go_num, hbbz⟩
                    case measure => simp [intOf]; omega
                  · have HF := Lib.hid hf
                    cases hn : nm t
                    · have HM : Hid (mRes f t = .tuple #[.bool false, .int .i64 1]) := Lib.hid (by unfold mRes; rw [hf, hn]; rfl)
                      have HN := Lib.hid hn
                      clear hf hn
                      go_wp2_with fail
                      refine (rFilter_any _ f (by omega) (hE.below hbq)).mono ?_
                      rintro e w2 ⟨rfl, hb2⟩
                      have hbb2 := bel_tr hbq hb2
                      rw [HF.out]
                      go_wp2_with fail
                      refine (rName_any _ t hu2 (hE.below hbb2)).mono ?_
                      rintro e w3 ⟨rfl, hb3⟩
                      have hbb3 := bel_tr hbb2 hb3
                      rw [HN.out]
                      go_wp2_with fail
                      refine (pMatch_any _ f t (by omega) (by omega) (hE.below hbb3)).mono ?_
                      rintro e w4 ⟨rfl, hb4⟩
                      have hbbz := bel_tr hbb3 hb4
                      rw [HM.out]
                      go_wp2_with (go_at_call 16; refine (num_any _ _).mono ?_; rintro e w' ⟨rfl, rfl⟩)
                      go_roundw
                      case rel => exact ⟨q + 1, by omega, by omega, by go_num, hbbz⟩
                      case measure => simp [intOf]; omega
                    · have HM : Hid (mRes f t = .tuple #[.bool (fitB f t), .int .i64 0]) := Lib.hid (by unfold mRes; rw [hf, hn]; rfl)
                      have HN := Lib.hid hn
                      have HR : Hid (refB f t = fitB f t) := Lib.hid (ref_fit hf)
                      have hfl := (ft_len hf).1
                      have htl := (nm_len hn).1
                      obtain ⟨B, hB⟩ : ∃ B, B = fitB f t := ⟨_, rfl⟩
                      have HB := Lib.hid hB
                      clear hf hn hB
                      go_wp2_with fail
                      refine (rFilter_any _ f (by omega) (hE.below hbq)).mono ?_
                      rintro e w2 ⟨rfl, hb2⟩
                      have hbb2 := bel_tr hbq hb2
                      rw [HF.out]
                      go_wp2_with fail
                      refine (rName_any _ t hu2 (hE.below hbb2)).mono ?_
                      rintro e w3 ⟨rfl, hb3⟩
                      have hbb3 := bel_tr hbb2 hb3
                      rw [HN.out]
                      go_wp2_with fail
                      refine (rMatch_any _ f t (by omega) (by omega) hfl htl).mono ?_
                      rintro e w4 ⟨rfl, hb4⟩
                      have hbb4 := bel_tr hbb3 hb4
                      rw [HR.out, ← HB.out]
                      go_wp2_with fail
                      refine (pMatch_any _ f t (by omega) (by omega) (hE.below hbb4)).mono ?_
                      rintro e w5 ⟨rfl, hb5⟩
                      have hbbz := bel_tr hbb4 hb5
                      rw [HM.out, ← HB.out]
                      clear HB HR HM
                      cases B
                      all_goals
                        go_wp2_with (go_at_call 16; refine (num_any _ _).mono ?_; rintro e w' ⟨rfl, rfl⟩)
                        go_roundw
                        case rel => exact ⟨q + 1, by omega, by omega, by go_num, hbbz⟩
                        case measure => simp [intOf]; omega
                · have ht2 : 1000 < t.size := by omega
                  go_wp2
                  go_quiet (fail)
                  go_wp2
                  go_ret
                  exact ⟨rfl, below_drewN hbr _⟩
              · have hq3 : q = 20 := by omega
                subst hq3
                go_wp2
                go_roundw
                case rel => exact ⟨k + 1, by omega, by omega, by go_num, hbr⟩
                case measure => simp [intOf]; omega
            · have hq3 : q = A.length := by omega
              subst hq3
              go_wp2
              go_roundw
              case rel => exact ⟨k + 1, by omega, by omega, by go_num, hbr⟩
              case measure => simp [intOf]; omega
        · have HH := Lib.hid hh
          clear hh
          go_wp2_with (go_at_call 11; refine (heavy_any _ (f, t0) hs1 hs2).mono ?_; rintro e w1 ⟨rfl, hb1⟩; rw [HH.out])
          go_ret
          exact ⟨rfl, hb.trans (hb1.mono hzs)⟩
      · have hlt3 : k = 20 := by omega
        subst hlt3
        go_wp2_with (go_at_call 17; refine (wakes_any _ (hE.below hb)).mono ?_; rintro e w1 ⟨rfl, hb1⟩)
        go_ret
        exact ⟨rfl, bel_tr hb hb1⟩
    · have hlt3 : k = A.length := by omega
      subst hlt3
      go_wp2_with (go_at_call 17; refine (wakes_any _ (hE.below hb)).mono ?_; rintro e w1 ⟨rfl, hb1⟩)
      go_ret
      exact ⟨rfl, bel_tr hb hb1⟩
end Go.Proofs.YtimjbojoeacaeaaDoor
