/- Wishes that may be, by the page; the best quality, by the program. -/


import Derived.Test.YtknnaeejkmlnbaaGreatDoorSbMay
namespace Go.Proofs.YtknnaeejkmlnbaaGreatDoor
open Go.RowKit Go.Shelf Go.Proofs

set_option maxHeartbeats 4000000 in
theorem rSubs_any (w : World) (v : Value) (L : List Wish1) (h : Rd w w.heap.size 2 v L.length (wCells L)) (hs : Short L) (hE : Env w) :
    Calls Tryz.prog 48 #[v] w fun e w' => e = .returned (.bool (subsB L)) ∧ Below w.heap.size w w' := by
  obtain ⟨ao, cap, rfl, hc, hm⟩ := h.form
  have hc2 : cap ≤ 9223372036854775807 := by unfold maxLen at hm; omega
  have H := Lib.hid h
  have HS := Lib.hid hs
  clear h hm hs
  by_cases h16 : L.length ≤ 16
  · have h16z : ¬ (16 : Int) < (L.length : Int) := by omega
    have HT : Hid (subsB L = allW L) := Lib.hid (by unfold subsB; simp [h16])
    go_enter Tryz.func48, Tryz.ntmps48
    go_wp2
    go_loopw [3] (fun i wr => ∃ k : Nat, k ≤ L.length ∧ i = .int .i64 k ∧ Hid (preW L k) ∧ Below w.heap.size w wr) (fun i _ => L.length - (intOf i).toNat)
    case atStart => exact ⟨0, by omega, rfl, Lib.hid (fun j x hj => by omega), Below.refl _ _⟩
    case round =>
      obtain ⟨i, hi, rfl, HP, hb⟩ := hrel
      by_cases hlt : i < L.length
      · obtain ⟨x, hx⟩ : ∃ x, L[i]? = some x := ⟨_, List.getElem?_eq_getElem hlt⟩
        obtain ⟨b, o, rfl, hbl, c0, c1⟩ := wish_cell (H.out.below hb) rfl hx
        have hsx := HS.out i x hx
        have HX := Lib.hid hx
        clear hx
        cases hmx : mayW x
        · have HB : Hid (subsB L = false) := Lib.hid (by rw [HT.out, allW_bad HX.out (wOk_no hmx)])
          have HM := Lib.hid hmx
          clear hmx
          go_wp2
          refine wp_region_held_drew (S := fun wx => wx.cell? ⟨b, o + i * 2, none⟩ = some (.string x.f) ∧ wx.cell? ⟨b, o + i * 2 + 1, none⟩ = some (.int .i64 x.q) ∧ Below w.heap.size w wx) (by kernel_rfl) ⟨c0, c1, hb.drew⟩ (fun hHeld => ?_)
          refine tk 0 (by assumption) ?_
          (try simp only [aPt])
          refine tk 1 (by assumption) ?_
          (try simp only [aPt])
          refine tk 2 (by assumption) ?_
          (try simp only [aPt])
          refine tk 3 (by assumption) ?_
          (try simp only [aPt])
          refine wpAnyH_ready (rs := [4]) (by kernel_rfl) (by simp) ?_
          refine call_h 4 ⟨?_, ?_, fun K hK => ?_⟩
          rotate_left 1
          · (simp only [List.getElem?_toArray, List.getElem?_cons_succ, List.getElem?_cons_zero]; exact rfl)
          go_simp
          (go_at_call 74; refine (rWish_is _ x hsx (hE.below hHeld.2.2) HM.out).mono ?_; rintro e wz ⟨rfl, hbz⟩)
          go_wp2_with fail
          refine hK.out _ _ ⟨cell_bel hHeld.1 hbz, cell_bel hHeld.2.1 hbz, bel_tr hHeld.2.2 hbz⟩ (fun hHeld => ?_)
          clear hK K
          (try simp only [aPt])
          refine tk 5 (by assumption) ?_
          (try simp only [aPt])
          refine tk 6 (by assumption) ?_
          (try simp only [aPt])
          refine tk 7 (by assumption) ?_
          (try simp only [aPt])
          refine tk 8 (by assumption) ?_
          (try simp only [aPt])
          refine tk 9 (by assumption) ?_
          (try simp only [aPt])
          refine tk 10 (by assumption) ?_
          (try simp only [aPt])
          refine tk 11 (by assumption) ?_
          (try simp only [aPt])
          refine tk 12 (by assumption) ?_
          (try simp only [aPt])
          refine tk 13 (by assumption) ?_
          (try simp only [aPt])
          refine tk 14 (by assumption) ?_
          (try simp only [aPt])
          refine tk 15 (by assumption) ?_
          (try simp only [aPt])
          refine tk 16 (by assumption) ?_
          (try simp only [aPt])
          refine tk 17 (by assumption) ?_
          (try simp only [aPt])
          refine tk 18 (by assumption) ?_
          (try simp only [aPt])
          refine tk 19 (by assumption) ?_
          (try simp only [aPt])
          refine tk 20 (by assumption) ?_
          (try simp only [aPt])
          refine tk 21 (by assumption) ?_
          (try simp only [aPt])
          refine tk 22 (by assumption) ?_
          (try simp only [aPt])
          refine tk 23 (by assumption) ?_
          (try simp only [aPt])
          refine wpAnyH_done (by kernel_rfl) ?_ _
          go_wp2
          go_ret
          exact ⟨by rw [HB.out]; rfl, hHeld.2.2⟩
        · have HM := Lib.hid hmx
          by_cases hi1 : i = 0
          · have HS1 : Hid (preW L (i + 1)) := Lib.hid (preW_step HP.out HX.out (by subst hi1; exact wOk_zero hmx))
            have hi0 : decide ((0 : Int) < (i : Int)) = false := decide_eq_false (by omega)
            have hi0' : ¬ (0 < i) := by omega
            have hi0'' : decide (0 < i) = false := decide_eq_false hi0'
            clear hmx hi1
            go_wp2
            refine wp_region_held_drew (S := fun wx => wx.cell? ⟨b, o + i * 2, none⟩ = some (.string x.f) ∧ wx.cell? ⟨b, o + i * 2 + 1, none⟩ = some (.int .i64 x.q) ∧ Below w.heap.size w wx) (by kernel_rfl) ⟨c0, c1, hb.drew⟩ (fun hHeld => ?_)
            refine tk 0 (by assumption) ?_
            (try simp only [aPt])
            refine tk 1 (by assumption) ?_
            (try simp only [aPt])
            refine tk 2 (by assumption) ?_
            (try simp only [aPt])
            refine tk 3 (by assumption) ?_
            (try simp only [aPt])
            refine wpAnyH_ready (rs := [4]) (by kernel_rfl) (by simp) ?_
            refine call_h 4 ⟨?_, ?_, fun K hK => ?_⟩
            rotate_left 1
            · (simp only [List.getElem?_toArray, List.getElem?_cons_succ, List.getElem?_cons_zero]; exact rfl)
            go_simp
            (go_at_call 74; refine (rWish_is _ x hsx (hE.below hHeld.2.2) HM.out).mono ?_; rintro e wz ⟨rfl, hbz⟩)
            go_wp2_with fail
            refine hK.out _ _ ⟨cell_bel hHeld.1 hbz, cell_bel hHeld.2.1 hbz, bel_tr hHeld.2.2 hbz⟩ (fun hHeld => ?_)
            clear hK K
            (try simp only [aPt])
            refine tk 5 (by assumption) ?_
            (try simp only [aPt])
            refine tk 6 (by assumption) ?_
            (try simp only [aPt])
            refine tk 7 (by assumption) ?_
            (try simp only [aPt])
            refine tk 8 (by assumption) ?_
            (try simp only [aPt])
            refine tk 9 (by assumption) ?_
            (try simp only [aPt])
            refine tk 10 (by assumption) ?_
            (try simp only [aPt])
            refine tk 11 (by assumption) ?_
            (try simp only [aPt])
            refine tk 12 (by assumption) ?_
            (try simp only [aPt])
            refine tk 13 (by assumption) ?_
            (try simp only [aPt])
            refine tk 14 (by assumption) ?_
            (try simp only [aPt])
            refine tk 15 (by assumption) ?_
            (try simp only [aPt])
            refine tk 16 (by assumption) ?_
            (try simp only [aPt])
            refine tk 17 (by assumption) ?_
            (try simp only [aPt])
            refine tk 18 (by assumption) ?_
            (try simp only [aPt])
            refine tk 19 (by assumption) ?_
            (try simp only [aPt])
            refine tk 20 (by assumption) ?_
            (try simp only [aPt])
            refine tk 21 (by assumption) ?_
            (try simp only [aPt])
            refine tk 22 (by assumption) ?_
            (try simp only [aPt])
            refine tk 23 (by assumption) ?_
            (try simp only [aPt])
            refine wpAnyH_done (by kernel_rfl) ?_ _
            go_wp2
            go_roundw
            case rel => exact ⟨i + 1, by omega, by go_num, HS1, hHeld.2.2⟩
            case measure => simp [intOf]; omega
          · obtain ⟨j, hj⟩ : ∃ j, i = j + 1 := ⟨i - 1, by omega⟩
            obtain ⟨y, hy⟩ : ∃ y, L[j]? = some y := ⟨_, List.getElem?_eq_getElem (by omega)⟩
            obtain ⟨b', o', he, _, d0, _⟩ := wish_cell (H.out.below hb) rfl hy
            injection he with he
            injection he with he1 he2
            subst he1 he2
            have hwo : wOk L i x = lessB y.f x.f := by subst hj; exact wOk_succ hmx hy
            have hi0 : decide ((0 : Int) < (i : Int)) = true := decide_eq_true (by omega)
            have hi0' : 0 < i := by omega
            have hi0'' : decide (0 < i) = true := decide_eq_true hi0'
            have hj0 : (0 : Int) ≤ (j : Int) := by omega
            have hjl : (j : Int) < (L.length : Int) := by omega
            have hw1 : IntKind.i64.wrap ((i : Int) - 1) = (j : Int) := by
              have : (i : Int) - 1 = j := by omega
              rw [this]; exact IntWalk.i64_in _ ⟨by omega, by omega⟩
            clear hmx hi1 hy hj
            cases hls : lessB y.f x.f
            · have HB : Hid (subsB L = false) := Lib.hid (by rw [HT.out, allW_bad HX.out (hwo.trans hls)])
              have hl2 : Op.bytesLess y.f.toList x.f.toList = false := hls
              clear hls hwo
              go_wp2
              refine wp_region_held_drew (S := fun wx => wx.cell? ⟨b, o + i * 2, none⟩ = some (.string x.f) ∧ wx.cell? ⟨b, o + i * 2 + 1, none⟩ = some (.int .i64 x.q) ∧ wx.cell? ⟨b, o + j * 2, none⟩ = some (.string y.f) ∧ Below w.heap.size w wx) (by kernel_rfl) ⟨c0, c1, d0, hb.drew⟩ (fun hHeld => ?_)
              refine tk 0 (by assumption) ?_
              (try simp only [aPt])
              refine tk 1 (by assumption) ?_
              (try simp only [aPt])
              refine tk 2 (by assumption) ?_
              (try simp only [aPt])
              refine tk 3 (by assumption) ?_
              (try simp only [aPt])
              refine wpAnyH_ready (rs := [4]) (by kernel_rfl) (by simp) ?_
              refine call_h 4 ⟨?_, ?_, fun K hK => ?_⟩
              rotate_left 1
              · (simp only [List.getElem?_toArray, List.getElem?_cons_succ, List.getElem?_cons_zero]; exact rfl)
              go_simp
              (go_at_call 74; refine (rWish_is _ x hsx (hE.below hHeld.2.2.2) HM.out).mono ?_; rintro e wz ⟨rfl, hbz⟩)
              go_wp2_with fail
              refine hK.out _ _ ⟨cell_bel hHeld.1 hbz, cell_bel hHeld.2.1 hbz, cell_bel hHeld.2.2.1 hbz, bel_tr hHeld.2.2.2 hbz⟩ (fun hHeld => ?_)
              clear hK K
              (try simp only [aPt])
              refine tk 5 (by assumption) ?_
              (try simp only [aPt])
              refine tk 6 (by assumption) ?_
              (try simp only [aPt])
              refine tk 7 (by assumption) ?_
              (try simp only [aPt])
              refine tk 8 (by assumption) ?_
              (try simp only [aPt])
              refine tk 9 (by assumption) ?_
              (try simp only [aPt])
              refine tk 10 (by assumption) ?_
              (try simp only [aPt])
              refine tk 11 (by assumption) ?_
              (try simp only [aPt])
              refine tk 12 (by assumption) ?_
              (try simp only [aPt])
              refine tk 13 (by assumption) ?_
              (try simp only [aPt])
              refine tk 14 (by assumption) ?_
              (try simp only [aPt])
              refine tk 15 (by assumption) ?_
              (try simp only [aPt])
              refine tk 16 (by assumption) ?_
              (try simp only [aPt])
              refine tk 17 (by assumption) ?_
              (try simp only [aPt])
              refine tk 18 (by assumption) ?_
              (try simp only [aPt])
              refine tk 19 (by assumption) ?_
              (try simp only [aPt])
              refine tk 20 (by assumption) ?_
              (try simp only [aPt])
              refine tk 21 (by assumption) ?_
              (try simp only [aPt])
              refine tk 22 (by assumption) ?_
              (try simp only [aPt])
              refine tk 23 (by assumption) ?_
              (try simp only [aPt])
              refine wpAnyH_done (by kernel_rfl) ?_ _
              go_wp2
              go_ret
              exact ⟨by rw [HB.out]; rfl, hHeld.2.2.2⟩
            · have HS1 : Hid (preW L (i + 1)) := Lib.hid (preW_step HP.out HX.out (hwo.trans hls))
              have hl2 : Op.bytesLess y.f.toList x.f.toList = true := hls
              clear hls hwo
              go_wp2
              refine wp_region_held_drew (S := fun wx => wx.cell? ⟨b, o + i * 2, none⟩ = some (.string x.f) ∧ wx.cell? ⟨b, o + i * 2 + 1, none⟩ = some (.int .i64 x.q) ∧ wx.cell? ⟨b, o + j * 2, none⟩ = some (.string y.f) ∧ Below w.heap.size w wx) (by kernel_rfl) ⟨c0, c1, d0, hb.drew⟩ (fun hHeld => ?_)
              refine tk 0 (by assumption) ?_
              (try simp only [aPt])
              refine tk 1 (by assumption) ?_
              (try simp only [aPt])
              refine tk 2 (by assumption) ?_
              (try simp only [aPt])
              refine tk 3 (by assumption) ?_
              (try simp only [aPt])
              refine wpAnyH_ready (rs := [4]) (by kernel_rfl) (by simp) ?_
              refine call_h 4 ⟨?_, ?_, fun K hK => ?_⟩
              rotate_left 1
              · (simp only [List.getElem?_toArray, List.getElem?_cons_succ, List.getElem?_cons_zero]; exact rfl)
              go_simp
              (go_at_call 74; refine (rWish_is _ x hsx (hE.below hHeld.2.2.2) HM.out).mono ?_; rintro e wz ⟨rfl, hbz⟩)
              go_wp2_with fail
              refine hK.out _ _ ⟨cell_bel hHeld.1 hbz, cell_bel hHeld.2.1 hbz, cell_bel hHeld.2.2.1 hbz, bel_tr hHeld.2.2.2 hbz⟩ (fun hHeld => ?_)
              clear hK K
              (try simp only [aPt])
              refine tk 5 (by assumption) ?_
              (try simp only [aPt])
              refine tk 6 (by assumption) ?_
              (try simp only [aPt])
              refine tk 7 (by assumption) ?_
              (try simp only [aPt])
              refine tk 8 (by assumption) ?_
              (try simp only [aPt])
              refine tk 9 (by assumption) ?_
              (try simp only [aPt])
              refine tk 10 (by assumption) ?_
              (try simp only [aPt])
              refine tk 11 (by assumption) ?_
              (try simp only [aPt])
              refine tk 12 (by assumption) ?_
              (try simp only [aPt])
              refine tk 13 (by assumption) ?_
              (try simp only [aPt])
              refine tk 14 (by assumption) ?_
              (try simp only [aPt])
              refine tk 15 (by assumption) ?_
              (try simp only [aPt])
              refine tk 16 (by assumption) ?_
              (try simp only [aPt])
              refine tk 17 (by assumption) ?_
              (try simp only [aPt])
              refine tk 18 (by assumption) ?_
              (try simp only [aPt])
              refine tk 19 (by assumption) ?_
              (try simp only [aPt])
              refine tk 20 (by assumption) ?_
              (try simp only [aPt])
              refine tk 21 (by assumption) ?_
              (try simp only [aPt])
              refine tk 22 (by assumption) ?_
              (try simp only [aPt])
              refine tk 23 (by assumption) ?_
              (try simp only [aPt])
              refine wpAnyH_done (by kernel_rfl) ?_ _
              go_wp2
              go_roundw
              case rel => exact ⟨i + 1, by omega, by go_num, HS1, hHeld.2.2.2⟩
              case measure => simp [intOf]; omega
      · have : i = L.length := by omega
        subst this
        have HQ : Hid (subsB L = true) := Lib.hid (by rw [HT.out, allW_good HP.out])
        go_wp2
        go_ret
        exact ⟨by rw [HQ.out]; rfl, hb⟩
  · have h16z : (16 : Int) < (L.length : Int) := by omega
    have HT : Hid (subsB L = false) := Lib.hid (by unfold subsB; simp [h16])
    clear h16
    go_enter Tryz.func48, Tryz.ntmps48
    go_wp2
    go_ret
    exact ⟨by rw [HT.out]; rfl, Below.refl _ _⟩

end Go.Proofs.YtknnaeejkmlnbaaGreatDoor
