/- MemBack: the walk: for every script the law returns true and leaves what was there alone. -/

import Derived.Test.YtfffehbipcikoaaMemAct
import Derived.Deep.DeepCutAuto
import Derived.Deep.RegionHeld3
namespace Go.Proofs.Ytfffehbipcikoaa
open Go.RowKit

set_option maxRecDepth 100000 in
set_option maxHeartbeats 4000000 in
theorem MemBack_any (N : Int) (lv : Value) (acts : List Act1) (w : World) (h : ActsAt w w.heap.size lv acts) :
    Calls Try.prog 4 #[.agg #[.int .i64 N, lv]] w fun e w' => e = .returned (.bool true) ∧ Below w.heap.size w w' := by
  obtain ⟨ao, cap, rfl, hc1, hc2, hacts⟩ := h
  have h' : ActsAt w w.heap.size (.slice ao acts.length cap) acts := ⟨ao, cap, rfl, hc1, hc2, hacts⟩
  have HS := Lib.hid h'
  have HA := Lib.hid hacts
  clear hacts h'
  go_enter Try.func4, Try.ntmps4
  go_wp2_with fail
  have hbx0 := (Below.refl w.heap.size w).alloc (Nat.le_refl _) (.cells #[.int .i64 N, .slice ao acts.length cap] 33)
  refine (Heavy_any _ N (.slice ao acts.length cap) acts ((HS.out.below hbx0).more (by simp))).mono ?_
  rintro e w1 ⟨hv, rfl, hlight, hb1⟩
  have c0 := (hb1.cell (p := ⟨w.heap.size, 0, none⟩) (by simp)).trans (show _ = some (.int .i64 N) by simp)
  have c1 := (hb1.cell (p := ⟨w.heap.size, 1, none⟩) (by simp)).trans (show _ = some (.slice ao acts.length cap) by simp)
  have HL := Lib.hid hlight
  clear hlight
  cases hv
  · have hb1z := hb1.size
    simp at hb1z
    go_wp2_with fail
    refine (New_ok 64 _ (by omega)).mono ?_
    rintro e w2 ⟨rfl, hm, hb2⟩
    have HM := Lib.hid hm
    clear hm
    go_wp2_with (go_at_call 20; refine (num_any _ _).mono ?_; rintro e w' ⟨rfl, rfl⟩)
    have hbb := hb1.trans (hb2.mono hb1.size)
    go_loopw [5] (fun i wr => ∃ k : Nat, k ≤ acts.length ∧ k ≤ 30 ∧ i = .int .i64 k ∧ ∃ B : List UInt8, Hid (B.length = 64) ∧ MemAt 114 wr (w1.heap.size + 1) w1.heap.size B ∧ Below (w.heap.size + 1) (w.alloc (.cells #[.int .i64 N, .slice ao acts.length cap] 33)) wr) (fun i _ => 30 - (intOf i).toNat)
    case atStart => exact ⟨0, by omega, by omega, rfl, _, Lib.hid (List.length_replicate), HM.out, hbb.mono (by simp)⟩
    case round =>
      obtain ⟨k, hk1, hk2, rfl, B, hBl, hM, hb⟩ := hrel
      have c1 := (hb.cell (p := ⟨w.heap.size, 1, none⟩) (by simp)).trans (show _ = some (.slice ao acts.length cap) by simp)
      by_cases hk : k < acts.length ∧ k < 30
      · obtain ⟨hk3, hk4⟩ := hk
        obtain ⟨a, ha⟩ : ∃ a, acts[k]? = some a := ⟨_, List.getElem?_eq_getElem hk3⟩
        obtain ⟨b, o, rfl, hA⟩ := HA.out k a ha
        obtain ⟨d0, d1, d2, d3, bv, d4, hr, hbl, hu, hn⟩ := hA.below (hbx0.trans (hb.mono (by omega)))
        obtain ⟨bo, bcap, rfl, hbc, _⟩ := hr.form
        have hbz := hb.size
        simp at hbz
        have Ha := Lib.hid ha
        clear ha hr hA
        have hmz := hM.head.lt
        have HMr := Lib.hid hM
        clear hM
        go_upto_region 10 with fail
        go_cut [7] (fun s wx => ∃ n : Nat, isW n = true ∧ s = .int .i64 n ∧ Below (wr.heap.size + 1) (wr.alloc (.cells #[.int .i64 a.dk, .int .i64 a.at_, .int .i64 a.n, .int .u64 a.v, .slice bo a.b.length bcap] 41)) wx)
        case first =>
          obtain ⟨j, hj⟩ : ∃ j, j = within a.n 4 := ⟨_, rfl⟩
          have hj0 := within_nn a.n 4 (by omega)
          have hj1 := within_lt a.n 4 (by omega)
          rw [← hj] at hj0 hj1
          have HJ := Lib.hid hj
          clear hj
          go_wp2_with fail
          refine (Within_any _ _ 4 (by omega) (by omega)).mono ?_
          rintro e w' ⟨rfl, rfl⟩
          rw [← HJ.out]
          have hj4 : j = 0 ∨ j = 1 ∨ j = 2 ∨ j = 3 := by omega
          clear hj0 hj1 HJ
          rcases hj4 with rfl | rfl | rfl | rfl
          · go_wp2
            go_meet
            exact ⟨1, rfl, rfl, (Below.refl _ _).alloc (by simp) _⟩
          · go_wp2
            go_meet
            exact ⟨2, rfl, rfl, (Below.refl _ _).alloc (by simp) _⟩
          · go_wp2
            go_meet
            exact ⟨4, rfl, rfl, (Below.refl _ _).alloc (by simp) _⟩
          · go_wp2
            go_meet
            exact ⟨8, rfl, rfl, (Below.refl _ _).alloc (by simp) _⟩
        case rest =>
          obtain ⟨n, hW, rfl, hcw⟩ := hcut
          have hn8 : 1 ≤ n ∧ n ≤ 8 := by rcases isW_cases hW with h | h | h | h <;> omega
          obtain ⟨hn1, hn8⟩ := hn8
          have HW := Lib.hid hW
          obtain ⟨p, hp⟩ : ∃ p : Nat, within a.at_ (65 - n) = p := Int.eq_ofNat_of_zero_le (within_nn _ _ (by omega))
          have hp2 := within_lt a.at_ (65 - n) (by omega)
          rw [hp] at hp2
          have HP := Lib.hid hp
          clear hW hp
          have e1 := (hcw.cell (p := ⟨wr.heap.size, 1, none⟩) (by simp)).trans (show _ = some (.int .i64 a.at_) by simp)
          have e3 := (hcw.cell (p := ⟨wr.heap.size, 3, none⟩) (by simp)).trans (show _ = some (.int .u64 a.v) by simp)
          have hbw : Below wr.heap.size wr wc := ((Below.refl _ _).alloc (Nat.le_refl _) _).trans (hcw.mono (by omega))
          have HMw := Lib.hid (HMr.out.belowH hbw)
          have hbwz := hcw.size
          simp at hbwz
          have hR : Hid (readE B.length 0 64 = 0) := Lib.hid (readB_all B 64 hBl.out).1
          have hRB : Hid (readB B 0 64 = B) := Lib.hid (readB_all B 64 hBl.out).2
          have hAsk : Hid (askE B.length p n = 0) := Lib.hid (by rw [hBl.out]; exact askE_ok HW.out (by omega) (by omega))
          go_wp2_with fail
          refine (Within_any _ _ (65 - n) (by omega) (by omega)).mono ?_
          rintro e w' ⟨rfl, rfl⟩
          rw [HP.out]
          go_wp2_with fail
          refine (Read_any _ _ _ _ 0 64 HMw.out (by have := hBl.out; omega) (by omega)).mono ?_
          rintro e w3 ⟨v3, rfl, hown3, hb3⟩
          rw [hR.out]
          rw [hRB.out, hBl.out] at hown3
          obtain ⟨o3, cap3, rfl, _⟩ := (Rd.of_own hown3).form
          have HO3 := Lib.hid hown3
          have HM3 := Lib.hid (HMw.out.belowH hb3)
          have hb3z := hb3.size
          have e1' := (hb3.cell (p := ⟨wr.heap.size, 1, none⟩) (by simp only; omega)).trans e1
          have e3' := (hb3.cell (p := ⟨wr.heap.size, 3, none⟩) (by simp only; omega)).trans e3
          clear hown3
          go_wp2_with fail
          refine (Put_any _ _ _ _ p n a.v HM3.out (by have := hBl.out; omega)).mono ?_
          rintro e w4 ⟨rfl, hm4, hl4⟩
          rw [hAsk.out]
          obtain ⟨B2, hB2⟩ : ∃ B2, B2 = putV B p n a.v := ⟨_, rfl⟩
          rw [← hB2] at hm4
          have HB2 := Lib.hid hB2
          have hBl2 : Hid (B2.length = 64) := Lib.hid (by rw [hB2, putV_length]; exact hBl.out)
          have hR2 : Hid (readE B2.length 0 64 = 0) := Lib.hid (readB_all B2 64 hBl2.out).1
          have hRB2 : Hid (readB B2 0 64 = B2) := Lib.hid (readB_all B2 64 hBl2.out).2
          have hAsk2 : Hid (askE B2.length p n = 0) := Lib.hid (by rw [hBl2.out, ← hBl.out]; exact hAsk.out)
          have HM4 := Lib.hid hm4
          have hl4z := hl4.size
          have HO4 := Lib.hid (own_left HO3.out hl4 (by simp; omega))
          have e3'' := (Left.belowB (B := w1.heap.size) hl4 (by omega) (by simp))
          have f3 := (hl4.block wr.heap.size (by omega) (by simp; omega))
          have e34 : w4.cell? ⟨wr.heap.size, 3, none⟩ = some (.int .u64 a.v) := (World.cell?_of_block (w := w3) f3).trans e3'
          clear hm4 hB2 e3'' f3
          go_wp2_with fail
          refine (Read_any _ _ _ _ 0 64 HM4.out (by have := hBl2.out; omega) (by omega)).mono ?_
          rintro e w5 ⟨v5, rfl, hown5, hb5⟩
          rw [hR2.out]
          rw [hRB2.out, hBl2.out] at hown5
          obtain ⟨o5, cap5, rfl, _⟩ := (Rd.of_own hown5).form
          have HO5 := Lib.hid hown5
          have HO35 := Lib.hid (own_below HO4.out hb5)
          have HM5 := Lib.hid (HM4.out.belowH hb5)
          have hb5z := hb5.size
          have e35 := (hb5.cell (p := ⟨wr.heap.size, 3, none⟩) (by simp only; omega)).trans e34
          clear hown5 e34 e3' e3
          go_wp2_with fail
          refine (Get_any _ _ _ _ p n HM5.out (by have := hBl2.out; omega)).mono ?_
          rintro e w' ⟨rfl, rfl⟩
          rw [hAsk2.out]
          have hpn : p + n ≤ B.length := by have := hBl.out; omega
          have HPN := Lib.hid hpn
          clear hpn
          go_upto_region 16 with fail
          go_cut [120] (fun s wx => s = .bool false ∧ ∃ nd, wx = w5.drewN nd)
          case first =>
            have hn4 : n = 1 ∨ n = 2 ∨ n = 4 ∨ n = 8 := by rcases isW_cases HW.out with h | h | h | h <;> omega
            clear HW hAsk hAsk2 HP hn1 hn8 hp2
            rcases hn4 with rfl | rfl | rfl | rfl
            · go_wp2_with fail
              go_quiet ((go_at_call 20; exact Calls.quiet_of_same (num_q _ _)))
              go_wp2_with fail
              go_meet
              refine ⟨?_, nq, rfl⟩
              have hbk := back1 B p a.v HPN.out hu.out
              have e : putV B p 1 a.v = B2 := HB2.out.symm
              rw [e] at hbk
              rw [hbk]
            · go_wp2_with fail
              go_quiet ((go_at_call 20; exact Calls.quiet_of_same (num_q _ _)))
              go_wp2_with fail
              go_meet
              refine ⟨?_, nq, rfl⟩
              have hbk := back2 B p a.v HPN.out hu.out
              have e : putV B p 2 a.v = B2 := HB2.out.symm
              rw [e] at hbk
              rw [hbk]
            · go_wp2_with fail
              go_quiet ((go_at_call 20; exact Calls.quiet_of_same (num_q _ _)))
              go_wp2_with fail
              go_meet
              refine ⟨?_, nq, rfl⟩
              have hbk := back4 B p a.v HPN.out hu.out
              have e : putV B p 4 a.v = B2 := HB2.out.symm
              rw [e] at hbk
              rw [hbk]
            · go_wp2_with fail
              go_quiet ((go_at_call 20; exact Calls.quiet_of_same (num_q _ _)))
              go_wp2_with fail
              go_meet
              refine ⟨?_, nq, rfl⟩
              have hbk := back8 B p a.v HPN.out hu.out
              have e : putV B p 8 a.v = B2 := HB2.out.symm
              rw [e] at hbk
              rw [hbk]
          case rest =>
            obtain ⟨rfl, nd, hcw⟩ := hcut
            subst hcw
            go_wp2_with fail
            go_loopw [16] (fun i wx => ∃ j : Nat, j ≤ 64 ∧ i = .int .i64 j ∧ ∃ nd, wx = w5.drewN nd) (fun i _ => 64 - (intOf i).toNat)
            case atStart => exact ⟨0, by omega, rfl, nd, rfl⟩
            case round =>
              obtain ⟨j, hj, rfl, nd, rfl⟩ := hrel
              by_cases hj64 : j < 64
              · obtain ⟨x5, y5, z5, rfl, _, hz5, hc5⟩ := (Rd.of_own HO5.out).at_ (k := j) (by omega)
                obtain ⟨x3, y3, z3, rfl, _, hz3, hc3⟩ := (Rd.of_own HO35.out).at_ (k := j) (by omega)
                rw [u8s_getD B2 j (by have := hBl2.out; omega)] at hz5
                rw [u8s_getD B j (by have := hBl.out; omega)] at hz3
                injection hz5 with hz5
                injection hz3 with hz3
                subst hz5 hz3
                by_cases hin : p ≤ j ∧ j < p + n
                · have hv := put_in B p n a.v j HW.out HPN.out hin.1 hin.2
                  rw [← HB2.out] at hv
                  rw [hv] at hc5
                  have HV := Lib.hid hv
                  obtain ⟨hin1, hin2⟩ := hin
                  clear hv
                  obtain ⟨q, rfl⟩ : ∃ q, j = p + q := ⟨j - p, by omega⟩
                  rw [Nat.add_sub_cancel_left] at hc5
                  have s1 : IntKind.i64.wrap (((p : Int) + q) - p) = q := by rw [IntWalk.i64_in _ (by omega)]; omega
                  have s2 : ((p : Int) + q) - p = q := by omega
                  go_upto_region 22 with fail
                  go_cut [147] (fun s wx => s = .bool false ∧ ∃ nd, wx = w5.drewN nd)
                  case first =>
                    go_quiet (fail)
                    go_wp2_with fail
                    go_meet
                    refine ⟨?_, _, World.drewN_drewN _ _ _⟩
                    first | (rw [byte_of]; simp; done) | (rw [byte_of']; simp; done) | (rw [byte_of2]; simp; done)
                  case rest =>
                    obtain ⟨rfl, nd2, hcw⟩ := hcut
                    subst hcw
                    clear s1 s2
                    go_wp2
                    go_roundw
                    case rel => exact ⟨p + q + 1, by omega, by go_num, _, rfl⟩
                    case measure => simp [intOf]; omega
                · have hv := put_out B p n a.v j HW.out HPN.out hin
                  rw [← HB2.out] at hv
                  rw [hv] at hc5
                  clear hv
                  by_cases hpj : p ≤ j
                  · have hjn : p + n ≤ j := by omega
                    clear hin
                    go_upto_region 24 with fail
                    go_cut [156] (fun s wx => s = .bool false ∧ ∃ nd, wx = w5.drewN nd)
                    case first =>
                      go_quiet (fail)
                      go_wp2_with fail
                      go_meet
                      exact ⟨by simp, _, World.drewN_drewN _ _ _⟩
                    case rest =>
                      obtain ⟨rfl, nd2, hcw⟩ := hcut
                      subst hcw
                      go_wp2
                      go_roundw
                      case rel => exact ⟨j + 1, by omega, by go_num, _, rfl⟩
                      case measure => simp [intOf]; omega
                  · have hjn : j < p := by omega
                    clear hin hpj
                    go_upto_region 24 with fail
                    go_cut [156] (fun s wx => s = .bool false ∧ ∃ nd, wx = w5.drewN nd)
                    case first =>
                      go_quiet (fail)
                      go_wp2_with fail
                      go_meet
                      exact ⟨by simp, _, World.drewN_drewN _ _ _⟩
                    case rest =>
                      obtain ⟨rfl, nd2, hcw⟩ := hcut
                      subst hcw
                      go_wp2
                      go_roundw
                      case rel => exact ⟨j + 1, by omega, by go_num, _, rfl⟩
                      case measure => simp [intOf]; omega
              · go_wp2
                have hbz5 := (hb.trans (hbw.mono (by omega))).trans (((hb3.mono (by omega)).trans (hl4.belowB (B := w.heap.size + 1) (by omega) (by simp; omega))).trans (hb5.mono (by omega)))
                go_roundw
                case rel => exact ⟨k + 1, by omega, by omega, by go_num, B2, hBl2, ⟨HM5.out.head, HM5.out.bytes⟩, below_drewN hbz5 _⟩
                case measure => simp [intOf]; omega
      · by_cases hk3 : k < acts.length
        · have hk4 : 30 ≤ k := by omega
          have hM' := Lib.hid hM
          clear hM
          go_wp2_with fail
          refine (wakes1_any _).mono ?_
          rintro e w9 ⟨rfl, hb9⟩
          go_wp2
          go_ret
          exact ⟨rfl, (hbx0.trans (hb.mono (by omega))).trans (hb9.mono (by have := hb.size; simp at this; omega))⟩
        · have hk4 : acts.length ≤ k := by omega
          have hM' := Lib.hid hM
          clear hM
          go_wp2_with fail
          refine (wakes1_any _).mono ?_
          rintro e w9 ⟨rfl, hb9⟩
          go_wp2
          go_ret
          exact ⟨rfl, (hbx0.trans (hb.mono (by omega))).trans (hb9.mono (by have := hb.size; simp at this; omega))⟩
  · go_wp2
    go_ret
    exact ⟨rfl, hbx0.trans (hb1.mono (by simp))⟩
end Go.Proofs.Ytfffehbipcikoaa
