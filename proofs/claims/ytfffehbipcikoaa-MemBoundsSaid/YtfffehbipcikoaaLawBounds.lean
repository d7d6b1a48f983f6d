/- MemBounds: the walk: for every script the law returns true and leaves what was there alone. -/

import Derived.Test.YtfffehbipcikoaaMemAct
import Derived.Deep.DeepCutAuto
import Derived.Deep.RegionHeld3
namespace Go.Proofs.Ytfffehbipcikoaa
open Go.RowKit

def wantE (n : Nat) (A : Int) (k : Nat) : Int := if isW k then (if hasB n A k then 0 else 2) else 1
def inE (n : Nat) (A : Int) (k : Nat) : Int := if hasB n A k then 0 else 2
theorem want_eq (n : Nat) (A : Int) (k : Nat) : askE n A k = wantE n A k := rfl
theorem in_eq (n : Nat) (A : Int) (k : Nat) : readE n A k = inE n A k := by unfold readE inE; rw [if_neg (by omega)]
theorem made_rd (w : World) (n : Nat) (hn : n ≤ 1000) : Rd (w.alloc (.cells (u8s (List.replicate n 0)).toArray 5)) (w.alloc (.cells (u8s (List.replicate n 0)).toArray 5)).heap.size 1 (.slice (some ⟨w.heap.size, 0, none⟩) n n) (List.replicate n (0 : UInt8)).length (u8s (List.replicate n 0)) := by
  have h := Rd.of_whole (Whole.new w 5 (u8s (List.replicate n 0))) (by simp; unfold maxLen; omega)
  simpa using h

set_option maxRecDepth 100000 in
set_option maxHeartbeats 4000000 in
theorem MemBounds_any (N : Int) (ao : Option Addr) (len cap : Nat) (w : World) (_hlen : len ≤ 9223372036854775807) :
    Calls Try.prog 6 #[.agg #[.int .i64 N, .slice ao len cap]] w fun e w' => e = .returned (.bool true) ∧ Below w.heap.size w w' := by
  go_enter Try.func6, Try.ntmps6
  go_wp2
  go_loopw [3] (fun n wr => ∃ k : Nat, k ≤ 18 ∧ n = .int .i64 k ∧ Below (w.heap.size + 1) (w.alloc (.cells #[.int .i64 N, .slice ao len cap] 33)) wr) (fun n _ => 18 - (intOf n).toNat)
  case atStart => exact ⟨0, by omega, rfl, Below.refl _ _⟩
  case round =>
    obtain ⟨n, hn, rfl, hb⟩ := hrel
    by_cases hlt : n ≤ 17
    · go_wp2_with fail
      refine (New_ok n _ (by omega)).mono ?_
      rintro e w1 ⟨rfl, hm, hb1⟩
      have hb2 := hb.trans (hb1.mono (by have := hb.size; simp at this; omega))
      have HM := Lib.hid hm
      have hlenB := Lib.hid (List.length_replicate (n := n) (a := (0 : UInt8)))
      have hz1 := hb1.size
      clear hm
      go_wp2_with (first | (go_at_call 20; refine (num_any _ _).mono ?_; rintro e w' ⟨rfl, rfl⟩) | (go_at_call 35; refine (Len_any _ _ _ _ HM.out).mono ?_; rintro e w' ⟨rfl, rfl⟩; rw [hlenB.out]))
      have hz0 := hb.size
      obtain ⟨wo, hwo⟩ : ∃ wo : World, wo = wr := ⟨_, rfl⟩
      subst hwo
      go_loopw [6] (fun a wx => ∃ A : Int, -2 ≤ A ∧ A ≤ n + 3 ∧ a = .int .i64 A ∧ ∃ B : List UInt8, Hid (B.length = n) ∧ MemAt 114 wx (wo.heap.size + 1) wo.heap.size B ∧ Below (w.heap.size + 1) (w.alloc (.cells #[.int .i64 N, .slice ao len cap] 33)) wx) (fun a _ => (n + 3 - intOf a).toNat)
      case atStart => exact ⟨-2, by omega, by omega, rfl, _, hlenB, HM.out, hb2⟩
      case round =>
        obtain ⟨A, hA1, hA2, rfl, B, hBl, hMB, hbx⟩ := hrel
        have HMB := Lib.hid hMB
        clear hMB
        by_cases hA : A ≤ n + 2
        · go_wp2
          obtain ⟨wo2, hwo2⟩ : ∃ wo2 : World, wo2 = wr := ⟨_, rfl⟩
          subst hwo2
          go_loopw [7] (fun q wx => ∃ k : Nat, k ≤ 10 ∧ q = .int .i64 k ∧ ∃ B : List UInt8, Hid (B.length = n) ∧ MemAt 114 wx (wo.heap.size + 1) wo.heap.size B ∧ Below (w.heap.size + 1) (w.alloc (.cells #[.int .i64 N, .slice ao len cap] 33)) wx) (fun q _ => (10 - intOf q).toNat)
          case atStart => exact ⟨0, by omega, rfl, _, hBl, HMB.out, hbx⟩
          case round =>
            obtain ⟨k, hk, rfl, B, hBl, hMB, hbx⟩ := hrel
            have HMB := Lib.hid hMB
            clear hMB
            by_cases hk9 : k ≤ 9
            · go_upto_region 14 with fail
              go_cut [65] (fun s wx => s = .bool (!isW k) ∧ wx = wr)
              case first =>
                clear HMB hBl
                cases hW : isW k
                · have HW := Lib.hid hW
                  obtain ⟨a1, a2, a3, a4⟩ := isW_not hW
                  have c1 : ((k : Int) != 1) = true := bne_iff_ne.2 a1
                  have c2 : ((k : Int) != 2) = true := bne_iff_ne.2 a2
                  have c3 : ((k : Int) != 4) = true := bne_iff_ne.2 a3
                  have c4 : ((k : Int) != 8) = true := bne_iff_ne.2 a4
                  clear a1 a2 a3 a4 hW
                  go_wp2
                  go_meet
                  exact ⟨by (rw [HW.out]; try rfl), rfl⟩
                · have hk4 : k = 1 ∨ k = 2 ∨ k = 4 ∨ k = 8 := by rcases isW_cases hW with h | h | h | h <;> omega
                  clear hW
                  rcases hk4 with rfl | rfl | rfl | rfl
                  all_goals
                    go_wp2
                    go_meet
                    exact ⟨rfl, rfl⟩
              case rest =>
                obtain ⟨rfl, hcw⟩ := hcut
                subst hcw
                go_upto_if 65 with fail
                go_cut [8] (fun s wx => s = .int .i64 (wantE n A k) ∧ wx = wc)
                case first =>
                  clear HMB hBl
                  cases hW : isW k
                  · have hf : wantE n A k = 1 := by unfold wantE; rw [hW]; rfl
                    have HF := Lib.hid hf
                    clear hW hf
                    go_wp2
                    go_meet
                    exact ⟨by (rw [HF.out]; try rfl), rfl⟩
                  · by_cases hA0 : A < 0
                    · have HF : Hid (wantE n A k = 2) := Lib.hid (by unfold wantE; rw [hW, hasB_neg1 hA0]; rfl)
                      clear hW
                      go_wp2
                      go_meet
                      exact ⟨by (rw [HF.out]; try rfl), rfl⟩
                    · have hA0 : 0 ≤ A := by omega
                      by_cases hAk : (n : Int) < A + k
                      · have HF : Hid (wantE n A k = 2) := Lib.hid (by unfold wantE; rw [hW, hasB_neg2 hAk]; rfl)
                        clear hW
                        go_wp2
                        go_meet
                        exact ⟨by (rw [HF.out]; try rfl), rfl⟩
                      · have HF : Hid (wantE n A k = 0) := Lib.hid (by unfold wantE; rw [hW, hasB_ok hA0 (by omega)]; rfl)
                        have hAk : A + k ≤ n := by omega
                        clear hW
                        go_wp2
                        go_meet
                        exact ⟨by (rw [HF.out]; try rfl), rfl⟩
                case rest =>
                  obtain ⟨rfl, hcw⟩ := hcut
                  subst hcw
                  have HE : Hid (askE B.length A k = wantE n A k) := Lib.hid (by rw [hBl.out]; rfl)
                  go_wp2_with fail
                  refine (Get_any _ _ _ _ _ _ HMB.out (by have := hBl.out; omega)).mono ?_
                  rintro e w2 ⟨rfl, rfl⟩
                  rw [HE.out]
                  go_wp2_with fail
                  refine (Put_any _ _ _ _ _ _ 9223372036854775808 HMB.out (by have := hBl.out; omega)).mono ?_
                  rintro e w2 ⟨rfl, hm2, hl2⟩
                  rw [HE.out]
                  have hb2' := hbx.trans (hl2.belowB (by have := hbx.size; simp at this; omega) (by simp; have := hb.size; simp at this; omega))
                  have hBl2 : Hid ((putV B A k 9223372036854775808).length = n) := Lib.hid ((putV_length _ _ _ _).trans hBl.out)
                  obtain ⟨B2, hB2⟩ : ∃ B2, B2 = putV B A k 9223372036854775808 := ⟨_, rfl⟩
                  rw [← hB2] at hm2 hBl2
                  have HM2 := Lib.hid hm2
                  clear hm2 hl2 hB2
                  go_upto_region 21 with fail
                  go_cut [94] (fun s wx => s = .bool (hasB n A k) ∧ wx = w2)
                  case first =>
                    clear HMB hBl HM2 hBl2
                    by_cases hA0 : A < 0
                    · have HF : Hid (hasB n A k = false) := Lib.hid (hasB_neg1 hA0)
                      go_wp2
                      go_meet
                      exact ⟨by (rw [HF.out]; try rfl), rfl⟩
                    · have hA0 : 0 ≤ A := by omega
                      by_cases hAk : (n : Int) < A + k
                      · have HF : Hid (hasB n A k = false) := Lib.hid (hasB_neg2 hAk)
                        go_wp2
                        go_meet
                        exact ⟨by rw [HF.out]; try first | rfl | rw [decide_eq_false (by omega)], rfl⟩
                      · have hAk : A + k ≤ n := by omega
                        have HF : Hid (hasB n A k = true) := Lib.hid (hasB_ok hA0 hAk)
                        go_wp2
                        go_meet
                        exact ⟨by rw [HF.out]; try first | rfl | rw [decide_eq_true (by omega)], rfl⟩
                  case rest =>
                    obtain ⟨rfl, hcw⟩ := hcut
                    subst hcw
                    have HR : Hid (readE B2.length A k = inE n A k) := Lib.hid (by rw [hBl2.out]; exact in_eq _ _ _)
                    have hmk := run_make_row' (P := Try.prog) 39 5 (.int .u8 0) 1 Try.underlying39 info_u8 rfl .i64 .i64 k (by omega) (by omega)
                    rw [made_u8] at hmk
                    cases hH : hasB n A k
                    · have HF : Hid (inE n A k = 2) := Lib.hid (by unfold inE; rw [hH]; rfl)
                      have HW : Hid (∀ L : Nat, L = k → writeE B2.length A L = 2) := Lib.hid (fun L hL => by subst hL; unfold writeE; rw [hBl2.out, hH]; rfl)
                      clear hH
                      go_wp2_with fail
                      refine (Read_any _ _ _ _ _ _ HM2.out (by have := hBl2.out; omega) (by omega)).mono ?_
                      rintro e w3 ⟨v3, rfl, hown3, hb3⟩
                      rw [HR.out, HF.out]
                      obtain ⟨o3, c3, rfl, _⟩ := (Rd.of_own hown3).form
                      have HM3 := Lib.hid (HM2.out.belowH hb3)
                      have hbb3 := hb2'.trans (hb3.mono (by have := hb2'.size; simp at this; omega))
                      obtain ⟨L3, hL3⟩ : ∃ L3, L3 = u8s (List.replicate k (0 : UInt8)) := ⟨_, rfl⟩
                      have hr4 := made_rd w3 k (by omega)
                      rw [← hL3] at hmk hr4
                      have HR4 := Lib.hid hr4
                      have hL4 := Lib.hid hL3
                      clear hown3 hr4 hL3
                      go_wp2_with fail
                      refine (Write_any _ _ _ _ _ (.slice (some ⟨w3.heap.size, 0, none⟩) k k) (List.replicate k 0) (HM3.out.belowH ((Below.refl _ _).alloc (Nat.le_refl _) _)) (by have := hBl2.out; omega) ?_ (by simp; omega)).mono ?_
                      · rw [← hL4.out]
                        simpa using HR4.out
                      rintro e w4 ⟨rfl, hm4, hl4⟩
                      rw [HW.out _ (by simp)]
                      have hb4 := (hbb3.alloc (by have := hbb3.size; simp at this; omega) (.cells L3.toArray 5)).trans (hl4.belowB (by have := hbb3.size; simp at this ⊢; omega) (by simp; have := hb.size; simp at this; omega))
                      have hBl4 : Hid ((writeB B2 A (List.replicate k 0)).length = n) := Lib.hid ((writeB_length _ _ _).trans hBl2.out)
                      have HM4 := Lib.hid hm4
                      clear hm4 hl4
                      skip
                      go_wp2_with (go_at_call 20; refine (num_any _ _).mono ?_; rintro e w' ⟨rfl, rfl⟩)
                      go_roundw
                      case rel => exact ⟨k + 1, by omega, by go_num, _, hBl4, HM4.out, hb4⟩
                      case measure => simp [intOf]; omega
                    · have HF : Hid (inE n A k = 0) := Lib.hid (by unfold inE; rw [hH]; rfl)
                      have HW : Hid (∀ L : Nat, L = k → writeE B2.length A L = 0) := Lib.hid (fun L hL => by subst hL; unfold writeE; rw [hBl2.out, hH]; rfl)
                      have HL : Hid ((readB B2 A k).length = k) := Lib.hid (by
                        have h2 := hasB_iff.1 hH
                        have hz : readE B2.length A k = 0 := by rw [HR.out, HF.out]
                        unfold readB
                        rw [if_pos hz]
                        have := hBl2.out
                        simp
                        omega)
                      clear hH
                      go_wp2_with fail
                      refine (Read_any _ _ _ _ _ _ HM2.out (by have := hBl2.out; omega) (by omega)).mono ?_
                      rintro e w3 ⟨v3, rfl, hown3, hb3⟩
                      rw [HR.out, HF.out]
                      obtain ⟨o3, c3, rfl, _⟩ := (Rd.of_own hown3).form
                      have HM3 := Lib.hid (HM2.out.belowH hb3)
                      have hbb3 := hb2'.trans (hb3.mono (by have := hb2'.size; simp at this; omega))
                      obtain ⟨L3, hL3⟩ : ∃ L3, L3 = u8s (List.replicate k (0 : UInt8)) := ⟨_, rfl⟩
                      have hr4 := made_rd w3 k (by omega)
                      rw [← hL3] at hmk hr4
                      have HR4 := Lib.hid hr4
                      have hL4 := Lib.hid hL3
                      clear hown3 hr4 hL3
                      go_wp2_with fail
                      refine (Write_any _ _ _ _ _ (.slice (some ⟨w3.heap.size, 0, none⟩) k k) (List.replicate k 0) (HM3.out.belowH ((Below.refl _ _).alloc (Nat.le_refl _) _)) (by have := hBl2.out; omega) ?_ (by simp; omega)).mono ?_
                      · rw [← hL4.out]
                        simpa using HR4.out
                      rintro e w4 ⟨rfl, hm4, hl4⟩
                      rw [HW.out _ (by simp)]
                      have hb4 := (hbb3.alloc (by have := hbb3.size; simp at this; omega) (.cells L3.toArray 5)).trans (hl4.belowB (by have := hbb3.size; simp at this ⊢; omega) (by simp; have := hb.size; simp at this; omega))
                      have hBl4 : Hid ((writeB B2 A (List.replicate k 0)).length = n) := Lib.hid ((writeB_length _ _ _).trans hBl2.out)
                      have HM4 := Lib.hid hm4
                      clear hm4 hl4
                      have hLL := HL.out
                      go_wp2_with (go_at_call 20; refine (num_any _ _).mono ?_; rintro e w' ⟨rfl, rfl⟩)
                      go_roundw
                      case rel => exact ⟨k + 1, by omega, by go_num, _, hBl4, HM4.out, hb4⟩
                      case measure => simp [intOf]; omega
            · go_wp2
              go_roundw
              case rel => exact ⟨A + 1, by omega, by omega, rfl, B, hBl, HMB.out, hbx⟩
              case measure => simp [intOf]; omega
        · go_wp2
          go_roundw
          case rel => exact ⟨n + 1, by omega, rfl, hbx⟩
          case measure => simp [intOf]; omega
    · go_wp2_with fail
      refine (New_no (-1) _ (by omega)).mono ?_
      rintro e w1 ⟨rfl, rfl⟩
      go_wp2_with fail
      refine (New_no 65537 _ (by omega)).mono ?_
      rintro e w1 ⟨rfl, rfl⟩
      have c1 := (hb.cell (p := ⟨w.heap.size, 1, none⟩) (by simp)).trans (show _ = some (.slice ao len cap) by simp)
      go_wp2_with (first | (go_at_call 20; refine (num_any _ _).mono ?_; rintro e w' ⟨rfl, rfl⟩) | (go_at_call 25; refine (wakes1_any _).mono ?_; rintro e w2 ⟨rfl, hb2⟩))
      go_ret
      exact ⟨rfl, (((Below.refl _ _).alloc (Nat.le_refl _) _).trans (hb.mono (by omega))).trans (hb2.mono (by have := hb.size; simp at this; omega))⟩
end Go.Proofs.Ytfffehbipcikoaa
