/- TopicSelf: the walk. -/

import Derived.Test.YtimjbojoeacaeaaDoorTpArg
import Derived.Test.YtimjbojoeacaeaaDoorTpSelfPlain
import Derived.Deep.DeepCutAuto
namespace Go.Proofs.YtimjbojoeacaeaaDoor
open Go.RowKit Go.Shelf Go.Proofs
theorem bel_tr {w w1 w2 : World} (h : Below w.heap.size w w1) (h2 : Below w1.heap.size w1 w2) : Below w.heap.size w w2 := h.trans (h2.mono h.size)

set_option maxRecDepth 100000 in
set_option maxHeartbeats 1000000 in
theorem TopicSelf_any (w : World) (lv : Value) (A : List Ask1) (hA : AsksAt w w.heap.size lv A) (hE : Env w) :
    Calls Tryd.prog 4 #[lv] w fun e w' => e = .returned (.bool true) ∧ Below w.heap.size w w' := by
  obtain ⟨ao, cap, rfl, hc1, hc2, hasks⟩ := hA
  have HA := Lib.hid hasks
  clear hasks
  go_enter Tryd.func4, Tryd.ntmps4
  go_wp2
  go_loopw [3, 4, 5, 6, 7, 8, 9, 10, 11, 12, 13, 14, 15, 16, 17, 18, 19, 20] (fun i _ _ _ _ _ _ _ _ _ _ _ _ _ _ _ _ _ wr => ∃ k : Nat, k ≤ A.length ∧ k ≤ 20 ∧ i = .int .i64 k ∧ Below w.heap.size w wr) (fun i _ _ _ _ _ _ _ _ _ _ _ _ _ _ _ _ _ _ => A.length - (intOf i).toNat)
  case atStart => exact ⟨0, by omega, by omega, rfl, Below.refl _ _⟩
  case round =>
    obtain ⟨k, hk1, hk2, rfl, hb⟩ := hrel
    have hzs := hb.size
    by_cases hlt : k < A.length
    · by_cases hlt2 : k < 20
      · obtain ⟨a, ha⟩ : ∃ a, A[k]? = some a := ⟨_, List.getElem?_eq_getElem hlt⟩
        obtain ⟨b, o, rfl, hbl, _, hc1', _, hs2⟩ := HA.out k a ha
        obtain ⟨f, t⟩ := a
        simp only at hc1' hs2
        have c1 := (hb.cell (p := ⟨b, _, none⟩) hbl).trans hc1'
        clear hc1' ha
        by_cases hl : t.size ≤ 62
        · have hlz : ¬ (62 : Int) < (t.size : Int) := by omega
          cases hn : nm t
          · have HN := Lib.hid hn
            clear hn
            go_wp2_with fail
            refine (pName_any _ t (by omega) (hE.below hb)).mono ?_
            rintro e w1 ⟨rfl, hb1⟩
            have hbb := bel_tr hb hb1
            simp only [HN.out, ↓reduceIte, Bool.false_eq_true]
            go_wp2_with (go_at_call 16; refine (num_any _ _).mono ?_; rintro e w' ⟨rfl, rfl⟩)
            go_roundw
            case rel => exact ⟨k + 1, by omega, by omega, by go_num, hbb⟩
            case measure => simp [intOf]; omega
          · have HN := Lib.hid hn
            have M1 := Lib.hid (mRes_ok (ft_name hn) hn ((self_a hn t).trans (decide_eq_true rfl)))
            have M3 := Lib.hid (show mRes (t ++ (⟨#[47, 35]⟩ : ByteArray)) t = _ from mRes_ok (ft_with hn hl (.inr rfl)) hn (self_c hn))
            have M4 := Lib.hid (show mRes (t ++ (⟨#[47, 43]⟩ : ByteArray)) (t ++ (⟨#[47, 120]⟩ : ByteArray)) = _ from mRes_ok (ft_with hn hl (.inl rfl)) (nm_with hn hl) (self_d hn))
            have M5 := Lib.hid (show mRes (t ++ (⟨#[47, 43]⟩ : ByteArray)) t = _ from mRes_ok (ft_with hn hl (.inl rfl)) hn (self_x hn))
            have M6 := Lib.hid (show mRes (t ++ (⟨#[47, 35]⟩ : ByteArray)) (t ++ (⟨#[47, 120]⟩ : ByteArray)) = _ from mRes_ok (ft_with hn hl (.inr rfl)) (nm_with hn hl) (self_y hn))
            have Z0 : t.size ≤ 100000 := by omega
            have Z1 : (t ++ (⟨#[47, 35]⟩ : ByteArray)).size ≤ 100000 := by have := withL_size t 35; unfold withL at this; omega
            have Z2 : (t ++ (⟨#[47, 43]⟩ : ByteArray)).size ≤ 100000 := by have := withL_size t 43; unfold withL at this; omega
            have Z3 : (t ++ (⟨#[47, 120]⟩ : ByteArray)).size ≤ 100000 := by have := withL_size t 120; unfold withL at this; omega
            have hlo := (nm_len hn).1
            have hlo2 : 0 < t.size := hlo
            obtain ⟨bd, hbd⟩ : ∃ bd, bd = !(t.data.toList.headD 0 == 36) := ⟨_, rfl⟩
            have M2 := Lib.hid (mRes_ok (f := ⟨#[35]⟩) (by decide +kernel) hn ((self_b t).trans hbd.symm))
            have HB : Hid (((t[0].toNat : Int) != 36) = bd) := Lib.hid (by
              rw [hbd, head_byte hlo2]
              by_cases h36 : t[0] = 36
              · rw [h36]; rfl
              · rw [beq_eq_false_iff_ne.2 h36]
                exact bne_iff_ne.2 (fun e => h36 (UInt8.toNat_inj.1 (by have : (36 : UInt8).toNat = 36 := rfl; omega))))
            clear hn hbd
            go_wp2_with fail
            refine (pName_any _ t (by omega) (hE.below hb)).mono ?_
            rintro e w1 ⟨rfl, hb1⟩
            have hbb1 := bel_tr hb hb1
            simp only [HN.out, ↓reduceIte]
            clear hb1
            go_wp2_with (go_at_call 16; refine (num_any _ _).mono ?_; rintro e w' ⟨rfl, rfl⟩)
            refine (pMatch_any _ t t (by omega) (by omega) (hE.below hbb1)).mono ?_
            rintro e w2 ⟨rfl, hb2⟩
            have hbb2 := bel_tr hbb1 hb2
            rw [M1.out]
            clear hb2
            go_wp2_with fail
            refine (pMatch_any _ _ _ (by decide) Z0 (hE.below hbb2)).mono ?_
            rintro e w2 ⟨rfl, hb2⟩
            have hbb3 := bel_tr hbb2 hb2
            rw [M2.out]
            clear hb2
            go_wp2_with fail
            refine (pMatch_any _ _ _ Z1 Z0 (hE.below hbb3)).mono ?_
            rintro e w2 ⟨rfl, hb2⟩
            have hbb4 := bel_tr hbb3 hb2
            rw [M3.out]
            clear hb2
            go_wp2_with fail
            refine (pMatch_any _ _ _ Z2 Z3 (hE.below hbb4)).mono ?_
            rintro e w2 ⟨rfl, hb2⟩
            have hbb5 := bel_tr hbb4 hb2
            rw [M4.out]
            clear hb2
            go_wp2_with fail
            refine (pMatch_any _ _ _ Z2 Z0 (hE.below hbb5)).mono ?_
            rintro e w2 ⟨rfl, hb2⟩
            have hbb6 := bel_tr hbb5 hb2
            rw [M5.out]
            clear hb2
            go_wp2_with fail
            refine (pMatch_any _ _ _ Z1 Z3 (hE.below hbb6)).mono ?_
            rintro e w2 ⟨rfl, hb2⟩
            have hbb7 := bel_tr hbb6 hb2
            rw [M6.out]
            clear hb2
            clear M1 M2 M3 M4 M5 M6 Z0 Z1 Z2 Z3 hbb1 hbb2 hbb3 hbb4 hbb5 hbb6
            have hqq := HB.out
            clear HB
            go_wp2_with (go_at_call 16; refine (num_any _ _).mono ?_; rintro e w' ⟨rfl, rfl⟩)
            clear hqq c1
            obtain ⟨wo, rfl⟩ : ∃ wo : World, wo = wr := ⟨_, rfl⟩
            go_loopw [17, 18, 19, 20] (fun j _ _ _ wr => ∃ q : Nat, q ≤ A.length ∧ q ≤ 20 ∧ j = .int .i64 q ∧ Below w.heap.size w wr) (fun j _ _ _ _ => A.length - (intOf j).toNat)
            case atStart => exact ⟨0, by omega, by omega, rfl, hbb7⟩
            case round =>
              obtain ⟨q, hq1, hq2, rfl, hbr⟩ := hrel
              by_cases hlq : q < A.length
              · by_cases hlq2 : q < 20
                · obtain ⟨a2, ha2⟩ : ∃ a, A[q]? = some a := ⟨_, List.getElem?_eq_getElem hlq⟩
                  obtain ⟨b', o', he, _, _, hd1', _, hu2⟩ := HA.out q a2 ha2
                  injection he with he
                  injection he with he1 he2
                  subst he1 he2
                  obtain ⟨f0, u⟩ := a2
                  simp only at hd1' hu2
                  have c1 := (hbr.cell (p := ⟨b, _, none⟩) hbl).trans hd1'
                  clear hd1' ha2
                  by_cases hul : u.size ≤ 1000
                  · have hlz2 : ¬ (1000 : Int) < (u.size : Int) := by omega
                    cases hun : nm u
                    · have HUN := Lib.hid hun
                      clear hun
                      go_wp2_with fail
                      refine (pName_any _ u (by omega) (hE.below hbr)).mono ?_
                      rintro e w9 ⟨rfl, hb9⟩
                      have hbb9 := bel_tr hbr hb9
                      simp only [HUN.out, ↓reduceIte, Bool.false_eq_true]
                      go_wp2_with (go_at_call 16; refine (num_any _ _).mono ?_; rintro e w' ⟨rfl, rfl⟩)
                      go_roundw
                      case rel => exact ⟨q + 1, by omega, by omega, by go_num, hbb9⟩
                      case measure => simp [intOf]; omega
                    · have HUN := Lib.hid hun
                      obtain ⟨be, hbe⟩ : ∃ be, be = decide (t = u) := ⟨_, rfl⟩
                      have MU : Hid (mRes t u = .tuple #[.bool be, .int .i64 0]) := Lib.hid (mRes_ok (ft_name HN.out) hun ((self_a HN.out u).trans hbe.symm))
                      have HBE : Hid (be = decide (t = u)) := Lib.hid hbe
                      clear hun hbe
                      go_wp2_with fail
                      refine (pName_any _ u (by omega) (hE.below hbr)).mono ?_
                      rintro e w9 ⟨rfl, hb9⟩
                      have hbb9 := bel_tr hbr hb9
                      simp only [HUN.out, ↓reduceIte]
                      go_wp2_with (go_at_call 16; refine (num_any _ _).mono ?_; rintro e w' ⟨rfl, rfl⟩)
                      refine (pMatch_any _ _ _ (by omega) (by omega) (hE.below hbb9)).mono ?_
                      rintro e w10 ⟨rfl, hb10⟩
                      have hbb10 := bel_tr hbb9 hb10
                      rw [MU.out]
                      clear MU hb9 hb10 hbb9
                      cases hbe2 : be
                      all_goals
                        have hbe3 := HBE.out
                        rw [hbe2] at hbe3
                        clear hbe2 HBE
                      · have hne : ¬ t.toList = u.toList := fun e => of_decide_eq_false hbe3.symm (by
                          rw [Lib.toList_data, Lib.toList_data] at e
                          rw [← bs_of t, e, bs_of])
                        have hne2 : (t.toList == u.toList) = false := beq_eq_false_iff_ne.2 hne
                        clear hbe3
                        go_wp2_with (go_at_call 16; refine (num_any _ _).mono ?_; rintro e w' ⟨rfl, rfl⟩)
                        go_roundw
                        case rel => exact ⟨q + 1, by omega, by omega, by go_num, hbb10⟩
                        case measure => simp [intOf]; omega
                      · have he2 : t = u := of_decide_eq_true hbe3.symm
                        subst he2
                        clear hbe3
                        go_wp2_with (go_at_call 16; refine (num_any _ _).mono ?_; rintro e w' ⟨rfl, rfl⟩)
                        go_roundw
                        case rel => exact ⟨q + 1, by omega, by omega, by go_num, hbb10⟩
                        case measure => simp [intOf]; omega
                  · have hlz2 : (1000 : Int) < (u.size : Int) := by omega
                    go_wp2_with (go_at_call 16; refine (num_any _ _).mono ?_; rintro e w' ⟨rfl, rfl⟩)
                    go_roundw
                    case rel => exact ⟨q + 1, by omega, by omega, by go_num, hbr⟩
                    case measure => simp [intOf]; omega
                · have hq3 : q = 20 := by omega
                  subst hq3
                  go_wp2_with (go_at_call 16; refine (num_any _ _).mono ?_; rintro e w' ⟨rfl, rfl⟩)
                  go_roundw
                  case rel => exact ⟨k + 1, by omega, by omega, by go_num, hbr⟩
                  case measure => simp [intOf]; omega
              · have hq3 : q = A.length := by omega
                subst hq3
                go_wp2_with (go_at_call 16; refine (num_any _ _).mono ?_; rintro e w' ⟨rfl, rfl⟩)
                go_roundw
                case rel => exact ⟨k + 1, by omega, by omega, by go_num, hbr⟩
                case measure => simp [intOf]; omega
        · have hlz : (62 : Int) < (t.size : Int) := by omega
          go_wp2_with (go_at_call 16; refine (num_any _ _).mono ?_; rintro e w' ⟨rfl, rfl⟩)
          go_roundw
          case rel => exact ⟨k + 1, by omega, by omega, by go_num, hb⟩
          case measure => simp [intOf]; omega
      · have hlt3 : k = 20 := by omega
        subst hlt3
        go_wp2_with (go_at_call 17; refine (wakes_any _ (hE.below hb)).mono ?_; rintro e w1 ⟨rfl, hb1⟩)
        go_ret
        exact ⟨rfl, bel_tr hb hb1⟩
    · have hlt3 : k = A.length := by omega
      subst hlt3
      go_wp2_with (go_at_call 17; refine (wakes_any _ (hE.below hb)).mono ?_; rintro e w1 ⟨rfl, hb1⟩)
      go_ret
      exact ⟨rfl, bel_tr hb hb1⟩
end Go.Proofs.YtimjbojoeacaeaaDoor
