/- SubsBest: the walk. -/

import Derived.Test.YtimjbojoeacaeaaDoorSbHeavy
import Derived.Test.YtimjbojoeacaeaaDoorSbWakes
import Derived.Outline
namespace Go.Proofs.YtimjbojoeacaeaaDoor
open Go.RowKit Go.Shelf Go.Proofs

theorem Within34 (w : World) : Calls Tryd.prog 24 #[.int .i64 3, .int .i64 4] w fun e w' => e = .returned (.int .i64 3) ∧ w = w' := by
  go_enter Tryd.func24, Tryd.ntmps24
  go_wp2
  go_ret
  exact ⟨rfl, rfl⟩

theorem rd_one {w : World} {Bd n cap k : Nat} {b o : Nat} {L : List Wish1} {x : Wish1} (h : Rd w Bd 2 (.slice (some ⟨b, o, none⟩) n cap) n (wCells L)) (hn : n = L.length) (hc : n ≤ cap) (hm : cap ≤ maxLen) (hx : L[k]? = some x) (B' : Nat) (hB : Bd ≤ B') :
    Rd w B' 2 (.slice (some ⟨b, o + k * 2, none⟩) 1 (cap - k)) [x].length (wCells [x]) := by
  obtain ⟨b', o', he, hb, c0, c1⟩ := wish_cell h hn hx
  injection he with he
  injection he with he1 he2
  subst he1 he2
  have hk := (List.getElem?_eq_some_iff.1 hx).1
  refine ⟨rfl, _, _, rfl, by simp; omega, by omega, (fun e => by cases e), fun _ => ⟨_, _, rfl, by omega, fun j u hu => ?_⟩⟩
  have : j = 0 ∨ j = 1 := by
    have := (List.getElem?_eq_some_iff.1 hu).1
    simp [wCells, wC] at this
    omega
  rcases this with rfl | rfl
  · simp [wCells, wC] at hu; subst hu; exact c0
  · simp [wCells, wC] at hu; subst hu; exact c1
theorem short_one {L : List Wish1} {k : Nat} {x : Wish1} (h : Short L) (hx : L[k]? = some x) : Short [x] := by
  intro i y hy
  cases i with
  | zero => simp at hy; subst hy; exact h k _ hx
  | succ i => simp at hy
theorem subsB_one {x : Wish1} (h : mayW x = true) : subsB [x] = true := by
  unfold subsB allW
  show (true && ((List.range 1).all _)) = true
  have : List.range 1 = [0] := rfl
  rw [this]
  simp [wOk, h]
theorem short_nil : Short [] := fun i x hx => by simp at hx
theorem q_nil : qRes [] ⟨#[97]⟩ = .tuple #[.int .i64 0, .int .i64 3] := by
  have h2 : nm ⟨#[97]⟩ = true := by decide +kernel
  unfold qRes
  rw [h2]; rfl
theorem Rd.nil0 (w : World) (Bd : Nat) (b : Nat) : Rd w Bd 2 (.slice (some ⟨b, 0, none⟩) 0 0) ([] : List Wish1).length (wCells []) :=
  ⟨rfl, _, _, rfl, by simp, by unfold maxLen; omega, (fun e => by cases e), fun h => by simp at h⟩
theorem q_hit {L : List Wish1} {t : ByteArray} {z : Int} (h1 : subsB L = true) (h2 : nm t = true) (h3 : bestFrom t (-1) L = z) (h4 : ¬ z < 0) : qRes L t = .tuple #[.int .i64 z, .int .i64 0] := by
  unfold qRes
  rw [h1, h2, h3]
  show (if z < 0 then _ else _ : Value) = _
  rw [if_neg h4]
theorem q_none {L : List Wish1} {t : ByteArray} {z : Int} (h1 : subsB L = true) (h2 : nm t = true) (h3 : bestFrom t (-1) L = z) (h4 : z < 0) : qRes L t = .tuple #[.int .i64 0, .int .i64 3] := by
  unfold qRes
  rw [h1, h2, h3]
  show (if z < 0 then _ else _ : Value) = _
  rw [if_pos h4]
theorem best_one (t : ByteArray) (x : Wish1) : bestFrom t (-1) [x] = if fitB x.f t then max (-1) x.q else -1 := rfl

set_option maxRecDepth 20000 in
set_option maxHeartbeats 4000000 in
theorem SubsBest_any (w : World) (sv lv : Value) (L : List Wish1) (A : List SAct) (hL : Rd w w.heap.size 2 sv L.length (wCells L)) (hR : ReachW L) (hA : ActsAt w w.heap.size lv A) (hl : L.length * 24 ≤ reachBytes) (hE : Env w) :
    Calls Tryd.prog 6 #[.agg #[sv, lv]] w fun e w' => e = .returned (.bool true) ∧ Below w.heap.size w w' := by
  have hb0 := (Below.refl w.heap.size w).alloc (Nat.le_refl _) (.cells #[sv, lv] 39)
  have hE0 := hE.below hb0
  obtain ⟨ao, cap, rfl, hc1, hc2⟩ := hL.form
  have hc3 : cap ≤ 9223372036854775807 := by unfold maxLen at hc2; omega
  have HA0 := Lib.hid hA
  obtain ⟨bo, cap2, rfl, hd1, hd2, hacts⟩ := hA
  have HL := Lib.hid (hL.below hb0)
  have HL' := Lib.hid hL
  have HA := Lib.hid hacts
  have HR := Lib.hid hR
  have HM := Lib.hid hc2
  have Hl := Lib.hid hl
  clear hL hacts hR hc2 hl
  go_enter Tryd.func6, Tryd.ntmps6
  go_wp2_with fail
  have hz0 : w.heap.size ≤ (w.alloc (.cells #[.slice ao L.length cap, .slice bo A.length cap2] 39)).heap.size := by simp
  refine (heavy_any _ _ _ L A (HL.out.more hz0) HR.out ((show ActsAt _ _ _ _ from by obtain ⟨x1, x2, x3, x4, x5, x6⟩ := HA0.out; exact ⟨x1, x2, x3, x4, x5, fun i a ha => by obtain ⟨b, o, y1, y2, y3, y4⟩ := x6 i a ha; exact ⟨b, o, y1, by simp; omega, ⟨(hb0.cell (p := ⟨b, _, none⟩) y2).trans y3.1, (hb0.cell (p := ⟨b, _, none⟩) y2).trans y3.2.1, (hb0.cell (p := ⟨b, _, none⟩) y2).trans y3.2.2.1, (hb0.cell (p := ⟨b, _, none⟩) y2).trans y3.2.2.2⟩, y4⟩⟩)) Hl.out).mono ?_
  rintro e w1 ⟨hv, rfl, hlight, hb1⟩
  have hbb1 := bel_tr hb0 hb1
  have HLI := Lib.hid hlight
  clear hlight
  cases hv
  · have hlt := HLI.out rfl
    have hS : Short L := fun i x hx => by have := hlt.2.1 i x hx; omega
    have HLT := Lib.hid hlt
    have HS := Lib.hid hS
    have c0 : w1.cell? ⟨w.heap.size, 0, none⟩ = some (.slice ao L.length cap) := cell_bel (by simp) hb1
    have c1 : w1.cell? ⟨w.heap.size, 1, none⟩ = some (.slice bo A.length cap2) := cell_bel (by simp) hb1
    have C0 := Lib.hid c0
    have C1 := Lib.hid c1
    have hz1 := hbb1.size
    clear hlt hS HLI
    cases hsb : subsB L
    · have HSB := Lib.hid hsb
      clear hsb
      go_wp2_with (go_at_call 21; refine (rSubs_any _ _ L ((HL'.out.below hbb1).more hz1) HS.out (hE.below hbb1)).mono ?_; rintro e w2 ⟨rfl, hb2⟩; rw [HSB.out])
      go_ret
      exact ⟨rfl, bel_tr hbb1 hb2⟩
    · have HSB := Lib.hid hsb
      clear hsb
      go_wp2_with (go_at_call 21; refine (rSubs_any _ _ L ((HL'.out.below hbb1).more hz1) HS.out (hE.below hbb1)).mono ?_; rintro e w2 ⟨rfl, hb2⟩; rw [HSB.out])
      have hbb2 := bel_tr hbb1 hb2
      have D0 := Lib.hid (cell_bel c0 hb2)
      have D1 := Lib.hid (cell_bel c1 hb2)
      clear c0 c1 C0 C1 HL
      have hw2z : w.heap.size + 1 ≤ w2.heap.size := by
        have z1 := hb1.size
        have z2 := hb2.size
        simp at z1
        omega
      go_loopw [3, 4, 5, 6, 7, 8, 9, 10] (fun i _ _ _ _ _ _ _ wr => ∃ k : Nat, k ≤ A.length ∧ k ≤ 25 ∧ i = .int .i64 k ∧ Below (w.heap.size + 1) w2 wr) (fun i _ _ _ _ _ _ _ _ => A.length - (intOf i).toNat)
      case atStart => exact ⟨0, by omega, by omega, rfl, Below.refl _ _⟩
      case round =>
        obtain ⟨k, hk1, hk2, rfl, hbr⟩ := hrel
        have e0 := (hbr.cell (p := ⟨w.heap.size, 0, none⟩) (by simp)).trans D0.out
        have e1 := (hbr.cell (p := ⟨w.heap.size, 1, none⟩) (by simp)).trans D1.out
        have hbw := hbb2.trans (hbr.mono (Nat.le_succ _))
        have hzr := hbr.size
        by_cases hlt : k < A.length
        · by_cases hlt2 : k < 25
          · obtain ⟨a, ha⟩ : ∃ a, A[k]? = some a := ⟨_, List.getElem?_eq_getElem hlt⟩
            obtain ⟨b, o, rfl, hbl, ⟨_, _, _, hc3'⟩, _, _, _, _⟩ := HA.out k a ha
            have htl := (HLT.out.2.2.2 k a ha).2
            obtain ⟨_, _, _, t⟩ := a
            simp only at hc3' htl
            have c3 := (hbw.cell (p := ⟨b, o + k * 4 + 3, none⟩) hbl).trans hc3'
            clear hc3' ha
            cases hn : nm t
            · have HN := Lib.hid hn
              clear hn
              go_wp2_with (go_at_call 13; refine (rName_any _ t (by omega) (hE.below hbw)).mono ?_; rintro e w3 ⟨rfl, hb3⟩; rw [HN.out])
              go_roundw
              case rel => exact ⟨k + 1, by omega, by omega, by go_num, bel_to hbr hb3 (by omega)⟩
              case measure => simp [intOf]; omega
            · have HN := Lib.hid hn
              clear hn
              go_wp2_with (go_at_call 13; refine (rName_any _ t (by omega) (hE.below hbw)).mono ?_; rintro e w3 ⟨rfl, hb3⟩; rw [HN.out])
              have hbr3 := bel_to hbr hb3 (by omega)
              clear c3 e0 e1
              obtain ⟨wo, rfl⟩ : ∃ wo : World, wo = wr := ⟨_, rfl⟩
              go_loopw [5, 6, 7, 8] (fun m j _ _ wr => ∃ (q : Nat) (z : Int), q ≤ L.length ∧ j = .int .i64 q ∧ m = .int .i64 z ∧ -1 ≤ z ∧ z ≤ 2 ∧ Hid (bestFrom t (-1) L = bestFrom t z (L.drop q)) ∧ Below (w.heap.size + 1) w2 wr) (fun _ j _ _ _ => L.length - (intOf j).toNat)
              case atStart => exact ⟨0, -1, by omega, rfl, rfl, by omega, by omega, Lib.hid (by simp), hbr3⟩
              case round =>
                obtain ⟨q, z, hq, rfl, rfl, hz1', hz2', HB, hbi⟩ := hrel
                have e0 := (hbi.cell (p := ⟨w.heap.size, 0, none⟩) (by simp)).trans D0.out
                have hbw4 := hbb2.trans (hbi.mono (Nat.le_succ _))
                by_cases hlq : q < L.length
                · obtain ⟨x, hx⟩ : ∃ x, L[q]? = some x := ⟨_, List.getElem?_eq_getElem hlq⟩
                  obtain ⟨b1, o1, rfl, hbl1, f0, f1⟩ := wish_cell (HL'.out.below hbw4) rfl hx
                  have HR1 := Lib.hid (rd_one (HL'.out.below hbw4) rfl hc1 HM.out hx wr.heap.size hbw4.size)
                  have HS1 := Lib.hid (short_one HS.out hx)
                  have hmx := subsB_q HSB.out q x hx
                  obtain ⟨hq0, hq2⟩ := mayW_q hmx
                  have HD := Lib.hid (bestFrom_drop t z hx)
                  have HO := Lib.hid (subsB_one hmx)
                  have HF0 := Lib.hid f1
                  obtain ⟨xf, xq⟩ := x
                  simp only at hq0 hq2 f1
                  clear hx hmx f0
                  cases hft : fitB xf t
                  · have HQ : Hid (qRes [⟨xf, xq⟩] t = .tuple #[.int .i64 0, .int .i64 3]) := Lib.hid (q_none (z := -1) HO.out HN.out (by rw [best_one, hft]; rfl) (by decide))
                    have HD2 : Hid (bestFrom t (-1) L = bestFrom t z (L.drop (q + 1))) := Lib.hid (by rw [HB.out, HD.out, hft]; rfl)
                    clear hft
                    go_wp2_with fail
                    refine (sMatch_any _ _ [⟨xf, xq⟩] t HR1.out HS1.out (by omega) (hE.below hbw4)).mono ?_
                    rintro e w4 ⟨rfl, hb4⟩
                    rw [HQ.out]
                    go_wp2_with (go_at_call 23; refine (num_any _ _).mono ?_; rintro e w' ⟨rfl, rfl⟩)
                    go_roundw
                    case rel => exact ⟨q + 1, z, by omega, by go_num, rfl, hz1', hz2', HD2, bel_to hbi hb4 (by have := hbi.size; omega)⟩
                    case measure => simp [intOf]; omega
                  · have hmax : max (-1) xq = xq := by omega
                    have HQ : Hid (qRes [⟨xf, xq⟩] t = .tuple #[.int .i64 xq, .int .i64 0]) := Lib.hid (q_hit HO.out HN.out (by rw [best_one, hft]; exact hmax) (by omega))
                    have HD2 : Hid (bestFrom t (-1) L = bestFrom t (max z xq) (L.drop (q + 1))) := Lib.hid (by rw [HB.out, HD.out, hft]; rfl)
                    have m1 : -1 ≤ max z xq := by omega
                    have m2 : max z xq ≤ 2 := by omega
                    have hne : (xq != xq) = false := by simp
                    clear hft hmax
                    go_wp2_with fail
                    refine (sMatch_any _ _ [⟨xf, xq⟩] t HR1.out HS1.out (by omega) (hE.below hbw4)).mono ?_
                    rintro e w4 ⟨rfl, hb4⟩
                    rw [HQ.out]
                    have hbi4 := bel_to hbi hb4 (by have := hbi.size; omega)
                    have e04 := (hbi4.cell (p := ⟨w.heap.size, 0, none⟩) (by simp)).trans D0.out
                    have f14 := cell_bel HF0.out hb4
                    clear e0 f1
                    go_wp2_with (go_at_call 23; refine (num_any _ _).mono ?_; rintro e w' ⟨rfl, rfl⟩)
                    go_roundw
                    case rel => exact ⟨q + 1, max z xq, by omega, by go_num, rfl, m1, m2, HD2, hbi4⟩
                    case measure => simp [intOf]; omega
                · have hq3 : q = L.length := by omega
                  subst hq3
                  have HBz : Hid (bestFrom t (-1) L = z) := Lib.hid (by rw [HB.out, List.drop_length]; rfl)
                  go_wp2_with fail
                  refine (sMatch_any _ _ L t ((HL'.out.below hbw4).more hbw4.size) HS.out (by omega) (hE.below hbw4)).mono ?_
                  rintro e w4 ⟨rfl, hb4⟩
                  have hbi4 := bel_to hbi hb4 (by have := hbi.size; omega)
                  by_cases hz : z < 0
                  · have HQ : Hid (qRes L t = .tuple #[.int .i64 0, .int .i64 3]) := Lib.hid (q_none HSB.out HN.out HBz.out hz)
                    rw [HQ.out]
                    go_wp2_with (go_at_call 23; refine (num_any _ _).mono ?_; rintro e w' ⟨rfl, rfl⟩)
                    go_roundw
                    case rel => exact ⟨k + 1, by omega, by omega, by go_num, hbi4⟩
                    case measure => simp [intOf]; omega
                  · have HQ : Hid (qRes L t = .tuple #[.int .i64 z, .int .i64 0]) := Lib.hid (q_hit HSB.out HN.out HBz.out hz)
                    have hz0 : 0 ≤ z := by omega
                    have hne : (z != z) = false := by simp
                    rw [HQ.out]
                    clear hz
                    go_wp2_with (go_at_call 23; refine (num_any _ _).mono ?_; rintro e w' ⟨rfl, rfl⟩)
                    go_roundw
                    case rel => exact ⟨k + 1, by omega, by omega, by go_num, hbi4⟩
                    case measure => simp [intOf]; omega
          · have hk3 : k = 25 := by omega
            subst hk3
            go_wp2_with fail
            refine (sMatch_any _ _ [] ⟨#[97]⟩ (Rd.nil0 _ _ _) short_nil (by decide) (hE.below (hbw.alloc (by omega) _))).mono ?_
            rintro e w3 ⟨rfl, hb3⟩
            rw [q_nil]
            have hbw3 := bel_tr (hbw.alloc (by omega) _) hb3
            go_wp2_with (first | (go_at_call 23; refine (num_any _ _).mono ?_; rintro e w' ⟨rfl, rfl⟩) | (go_at_call 24; refine (Within34 _).mono ?_; rintro e w' ⟨rfl, rfl⟩) | (go_at_call 25; refine (swakes_any _).mono ?_; rintro e w4 ⟨rfl, hb4⟩))
            go_ret
            exact ⟨rfl, bel_tr hbw3 hb4⟩
        · have hk3 : k = A.length := by omega
          subst hk3
          go_wp2_with fail
          refine (sMatch_any _ _ [] ⟨#[97]⟩ (Rd.nil0 _ _ _) short_nil (by decide) (hE.below (hbw.alloc (by omega) _))).mono ?_
          rintro e w3 ⟨rfl, hb3⟩
          rw [q_nil]
          have hbw3 := bel_tr (hbw.alloc (by omega) _) hb3
          go_wp2_with (first | (go_at_call 23; refine (num_any _ _).mono ?_; rintro e w' ⟨rfl, rfl⟩) | (go_at_call 24; refine (Within34 _).mono ?_; rintro e w' ⟨rfl, rfl⟩) | (go_at_call 25; refine (swakes_any _).mono ?_; rintro e w4 ⟨rfl, hb4⟩))
          go_ret
          exact ⟨rfl, bel_tr hbw3 hb4⟩
  · go_wp2
    go_ret
    exact ⟨rfl, hbb1⟩
end Go.Proofs.YtimjbojoeacaeaaDoor
