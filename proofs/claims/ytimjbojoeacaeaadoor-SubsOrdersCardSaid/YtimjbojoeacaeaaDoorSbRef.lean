/- Wishes that may be, by the page; the best quality, by the program. -/


import Derived.Test.YtimjbojoeacaeaaDoorSbMay
namespace Go.Proofs.YtimjbojoeacaeaaDoor
open Go.RowKit Go.Shelf Go.Proofs

set_option maxHeartbeats 4000000 in
theorem rSubs_any (w : World) (v : Value) (L : List Wish1) (h : Rd w w.heap.size 2 v L.length (wCells L)) (hs : Short L) (hE : Env w) :
    Calls Tryd.prog 21 #[v] w fun e w' => e = .returned (.bool (subsB L)) ∧ Below w.heap.size w w' := by
  obtain ⟨ao, cap, rfl, hc, hm⟩ := h.form
  have hc2 : cap ≤ 9223372036854775807 := by unfold maxLen at hm; omega
  have H := Lib.hid h
  have HS := Lib.hid hs
  clear h hm hs
  by_cases h16 : L.length ≤ 16
  · have h16z : ¬ (16 : Int) < (L.length : Int) := by omega
    have HT : Hid (subsB L = allW L) := Lib.hid (by unfold subsB; simp [h16])
    go_enter Tryd.func21, Tryd.ntmps21
    go_wp2
    go_loopw [3] (fun i wr => ∃ k : Nat, k ≤ L.length ∧ i = .int .i64 k ∧ Hid (preW L k) ∧ Below w.heap.size w wr) (fun i _ => L.length - (intOf i).toNat)
    case atStart => exact ⟨0, by omega, rfl, Lib.hid (fun j x hj => by omega), Below.refl _ _⟩
    case round =>
      obtain ⟨i, hi, rfl, HP, hb⟩ := hrel
      by_cases hlt : i < L.length
      · obtain ⟨x, hx⟩ : ∃ x, L[i]? = some x := ⟨_, List.getElem?_eq_getElem hlt⟩
        obtain ⟨b, o, rfl, hbl, c0, c1⟩ := wish_cell (H.out.below hb) rfl hx
        have hsx := HS.out i x hx
        have HX := Lib.hid hx
        clear hx
        cases hmx : mayW x
        · have HB : Hid (subsB L = false) := Lib.hid (by rw [HT.out, allW_bad HX.out (wOk_no hmx)])
          have HM := Lib.hid hmx
          clear hmx
          go_wp2
          refine wp_region_held_drew (S := fun wx => wx.cell? ⟨b, o + i * 2, none⟩ = some (.string x.f) ∧ wx.cell? ⟨b, o + i * 2 + 1, none⟩ = some (.int .i64 x.q) ∧ Below w.heap.size w wx) (by kernel_rfl) ⟨c0, c1, hb.drew⟩ (fun hHeld => ?_)
          refine take_h 0 ⟨?_, ?_, ?_, by kernel_rfl, by kernel_rfl, by kernel_rfl, ?_, ?_, by assumption, ?_⟩
          rotate_left 2
          · (simp only [List.getElem?_toArray, List.getElem?_cons_succ, List.getElem?_cons_zero]; exact rfl)
          · exact fun _ _ _ h => h
          · first
              | (refine Or.inr ⟨by rfl, ?_⟩; exact rfl)
              | (refine Or.inl ⟨by rfl, ?_⟩
                 intro w hSw
                 (try dsimp only at hSw)
                 (try go_split_ands)
                 go_simp
                 (first | done | with_reducible rfl))
          try simp only [Act.put, List.setIfInBounds_toArray, List.set_cons_zero, List.set_cons_succ]
          refine take_h 1 ⟨?_, ?_, ?_, by kernel_rfl, by kernel_rfl, by kernel_rfl, ?_, ?_, by assumption, ?_⟩
          rotate_left 2
          · (simp only [List.getElem?_toArray, List.getElem?_cons_succ, List.getElem?_cons_zero]; exact rfl)
          · exact fun _ _ _ h => h
          · first
              | (refine Or.inr ⟨by rfl, ?_⟩; exact rfl)
              | (refine Or.inl ⟨by rfl, ?_⟩
                 intro w hSw
                 (try dsimp only at hSw)
                 (try go_split_ands)
                 go_simp
                 (first | done | with_reducible rfl))
          try simp only [Act.put, List.setIfInBounds_toArray, List.set_cons_zero, List.set_cons_succ]
          refine take_h 2 ⟨?_, ?_, ?_, by kernel_rfl, by kernel_rfl, by kernel_rfl, ?_, ?_, by assumption, ?_⟩
          rotate_left 2
          · (simp only [List.getElem?_toArray, List.getElem?_cons_succ, List.getElem?_cons_zero]; exact rfl)
          · exact fun _ _ _ h => h
          · first
              | (refine Or.inr ⟨by rfl, ?_⟩; exact rfl)
              | (refine Or.inl ⟨by rfl, ?_⟩
                 intro w hSw
                 (try dsimp only at hSw)
                 (try go_split_ands)
                 go_simp
                 (first | done | with_reducible rfl))
          try simp only [Act.put, List.setIfInBounds_toArray, List.set_cons_zero, List.set_cons_succ]
          refine take_h 3 ⟨?_, ?_, ?_, by kernel_rfl, by kernel_rfl, by kernel_rfl, ?_, ?_, by assumption, ?_⟩
          rotate_left 2
          · (simp only [List.getElem?_toArray, List.getElem?_cons_succ, List.getElem?_cons_zero]; exact rfl)
          · exact fun _ _ _ h => h
          · first
              | (refine Or.inr ⟨by rfl, ?_⟩; exact rfl)
              | (refine Or.inl ⟨by rfl, ?_⟩
                 intro w hSw
                 (try dsimp only at hSw)
                 (try go_split_ands)
                 go_simp
                 (first | done | with_reducible rfl))
          try simp only [Act.put, List.setIfInBounds_toArray, List.set_cons_zero, List.set_cons_succ]
          refine wpAnyH_ready (rs := [4]) (by kernel_rfl) (by simp) ?_
          refine call_h 4 ⟨?_, ?_, fun K hK => ?_⟩
          rotate_left 1
          · (simp only [List.getElem?_toArray, List.getElem?_cons_succ, List.getElem?_cons_zero]; exact rfl)
          go_simp
          (go_at_call 45; refine (rWish_is _ x hsx (hE.below hHeld.2.2) HM.out).mono ?_; rintro e wz ⟨rfl, hbz⟩)
          go_wp2_with fail
          refine hK.out _ _ ⟨cell_bel hHeld.1 hbz, cell_bel hHeld.2.1 hbz, bel_tr hHeld.2.2 hbz⟩ (fun hHeld => ?_)
          clear hK K
          (try simp only [Act.put, List.setIfInBounds_toArray, List.set_cons_zero, List.set_cons_succ])
          refine take_h 5 ⟨?_, ?_, ?_, by kernel_rfl, by kernel_rfl, by kernel_rfl, ?_, ?_, by assumption, ?_⟩
          rotate_left 2
          · (simp only [List.getElem?_toArray, List.getElem?_cons_succ, List.getElem?_cons_zero]; exact rfl)
          · exact fun _ _ _ h => h
          · first
              | (refine Or.inr ⟨by rfl, ?_⟩; exact rfl)
              | (refine Or.inl ⟨by rfl, ?_⟩
                 intro w hSw
                 (try dsimp only at hSw)
                 (try go_split_ands)
                 go_simp
                 (first | done | with_reducible rfl))
          try simp only [Act.put, List.setIfInBounds_toArray, List.set_cons_zero, List.set_cons_succ]
          refine take_h 6 ⟨?_, ?_, ?_, by kernel_rfl, by kernel_rfl, by kernel_rfl, ?_, ?_, by assumption, ?_⟩
          rotate_left 2
          · (simp only [List.getElem?_toArray, List.getElem?_cons_succ, List.getElem?_cons_zero]; exact rfl)
          · exact fun _ _ _ h => h
          · first
              | (refine Or.inr ⟨by rfl, ?_⟩; exact rfl)
              | (refine Or.inl ⟨by rfl, ?_⟩
                 intro w hSw
                 (try dsimp only at hSw)
                 (try go_split_ands)
                 go_simp
                 (first | done | with_reducible rfl))
          try simp only [Act.put, List.setIfInBounds_toArray, List.set_cons_zero, List.set_cons_succ]
          refine take_h 7 ⟨?_, ?_, ?_, by kernel_rfl, by kernel_rfl, by kernel_rfl, ?_, ?_, by assumption, ?_⟩
          rotate_left 2
          · (simp only [List.getElem?_toArray, List.getElem?_cons_succ, List.getElem?_cons_zero]; exact rfl)
          · exact fun _ _ _ h => h
          · first
              | (refine Or.inr ⟨by rfl, ?_⟩; exact rfl)
              | (refine Or.inl ⟨by rfl, ?_⟩
                 intro w hSw
                 (try dsimp only at hSw)
                 (try go_split_ands)
                 go_simp
                 (first | done | with_reducible rfl))
          try simp only [Act.put, List.setIfInBounds_toArray, List.set_cons_zero, List.set_cons_succ]
          refine take_h 8 ⟨?_, ?_, ?_, by kernel_rfl, by kernel_rfl, by kernel_rfl, ?_, ?_, by assumption, ?_⟩
          rotate_left 2
          · (simp only [List.getElem?_toArray, List.getElem?_cons_succ, List.getElem?_cons_zero]; exact rfl)
          · exact fun _ _ _ h => h
          · first
              | (refine Or.inr ⟨by rfl, ?_⟩; exact rfl)
              | (refine Or.inl ⟨by rfl, ?_⟩
                 intro w hSw
                 (try dsimp only at hSw)
                 (try go_split_ands)
                 go_simp
                 (first | done | with_reducible rfl))
          try simp only [Act.put, List.setIfInBounds_toArray, List.set_cons_zero, List.set_cons_succ]
          refine take_h 9 ⟨?_, ?_, ?_, by kernel_rfl, by kernel_rfl, by kernel_rfl, ?_, ?_, by assumption, ?_⟩
          rotate_left 2
          · (simp only [List.getElem?_toArray, List.getElem?_cons_succ, List.getElem?_cons_zero]; exact rfl)
          · exact fun _ _ _ h => h
          · first
              | (refine Or.inr ⟨by rfl, ?_⟩; exact rfl)
              | (refine Or.inl ⟨by rfl, ?_⟩
                 intro w hSw
                 (try dsimp only at hSw)
                 (try go_split_ands)
                 go_simp
                 (first | done | with_reducible rfl))
          try simp only [Act.put, List.setIfInBounds_toArray, List.set_cons_zero, List.set_cons_succ]
          refine take_h 10 ⟨?_, ?_, ?_, by kernel_rfl, by kernel_rfl, by kernel_rfl, ?_, ?_, by assumption, ?_⟩
          rotate_left 2
          · (simp only [List.getElem?_toArray, List.getElem?_cons_succ, List.getElem?_cons_zero]; exact rfl)
          · exact fun _ _ _ h => h
          · first
              | (refine Or.inr ⟨by rfl, ?_⟩; exact rfl)
              | (refine Or.inl ⟨by rfl, ?_⟩
                 intro w hSw
                 (try dsimp only at hSw)
                 (try go_split_ands)
                 go_simp
                 (first | done | with_reducible rfl))
          try simp only [Act.put, List.setIfInBounds_toArray, List.set_cons_zero, List.set_cons_succ]
          refine take_h 11 ⟨?_, ?_, ?_, by kernel_rfl, by kernel_rfl, by kernel_rfl, ?_, ?_, by assumption, ?_⟩
          rotate_left 2
          · (simp only [List.getElem?_toArray, List.getElem?_cons_succ, List.getElem?_cons_zero]; exact rfl)
          · exact fun _ _ _ h => h
          · first
              | (refine Or.inr ⟨by rfl, ?_⟩; exact rfl)
              | (refine Or.inl ⟨by rfl, ?_⟩
                 intro w hSw
                 (try dsimp only at hSw)
                 (try go_split_ands)
                 go_simp
                 (first | done | with_reducible rfl))
          try simp only [Act.put, List.setIfInBounds_toArray, List.set_cons_zero, List.set_cons_succ]
          refine take_h 12 ⟨?_, ?_, ?_, by kernel_rfl, by kernel_rfl, by kernel_rfl, ?_, ?_, by assumption, ?_⟩
          rotate_left 2
          · (simp only [List.getElem?_toArray, List.getElem?_cons_succ, List.getElem?_cons_zero]; exact rfl)
          · exact fun _ _ _ h => h
          · first
              | (refine Or.inr ⟨by rfl, ?_⟩; exact rfl)
              | (refine Or.inl ⟨by rfl, ?_⟩
                 intro w hSw
                 (try dsimp only at hSw)
                 (try go_split_ands)
                 go_simp
                 (first | done | with_reducible rfl))
          try simp only [Act.put, List.setIfInBounds_toArray, List.set_cons_zero, List.set_cons_succ]
          refine take_h 13 ⟨?_, ?_, ?_, by kernel_rfl, by kernel_rfl, by kernel_rfl, ?_, ?_, by assumption, ?_⟩
          rotate_left 2
          · (simp only [List.getElem?_toArray, List.getElem?_cons_succ, List.getElem?_cons_zero]; exact rfl)
          · exact fun _ _ _ h => h
          · first
              | (refine Or.inr ⟨by rfl, ?_⟩; exact rfl)
              | (refine Or.inl ⟨by rfl, ?_⟩
                 intro w hSw
                 (try dsimp only at hSw)
                 (try go_split_ands)
                 go_simp
                 (first | done | with_reducible rfl))
          try simp only [Act.put, List.setIfInBounds_toArray, List.set_cons_zero, List.set_cons_succ]
          refine take_h 14 ⟨?_, ?_, ?_, by kernel_rfl, by kernel_rfl, by kernel_rfl, ?_, ?_, by assumption, ?_⟩
          rotate_left 2
          · (simp only [List.getElem?_toArray, List.getElem?_cons_succ, List.getElem?_cons_zero]; exact rfl)
          · exact fun _ _ _ h => h
          · first
              | (refine Or.inr ⟨by rfl, ?_⟩; exact rfl)
              | (refine Or.inl ⟨by rfl, ?_⟩
                 intro w hSw
                 (try dsimp only at hSw)
                 (try go_split_ands)
                 go_simp
                 (first | done | with_reducible rfl))
          try simp only [Act.put, List.setIfInBounds_toArray, List.set_cons_zero, List.set_cons_succ]
          refine take_h 15 ⟨?_, ?_, ?_, by kernel_rfl, by kernel_rfl, by kernel_rfl, ?_, ?_, by assumption, ?_⟩
          rotate_left 2
          · (simp only [List.getElem?_toArray, List.getElem?_cons_succ, List.getElem?_cons_zero]; exact rfl)
          · exact fun _ _ _ h => h
          · first
              | (refine Or.inr ⟨by rfl, ?_⟩; exact rfl)
              | (refine Or.inl ⟨by rfl, ?_⟩
                 intro w hSw
                 (try dsimp only at hSw)
                 (try go_split_ands)
                 go_simp
                 (first | done | with_reducible rfl))
          try simp only [Act.put, List.setIfInBounds_toArray, List.set_cons_zero, List.set_cons_succ]
          refine take_h 16 ⟨?_, ?_, ?_, by kernel_rfl, by kernel_rfl, by kernel_rfl, ?_, ?_, by assumption, ?_⟩
          rotate_left 2
          · (simp only [List.getElem?_toArray, List.getElem?_cons_succ, List.getElem?_cons_zero]; exact rfl)
          · exact fun _ _ _ h => h
          · first
              | (refine Or.inr ⟨by rfl, ?_⟩; exact rfl)
              | (refine Or.inl ⟨by rfl, ?_⟩
                 intro w hSw
                 (try dsimp only at hSw)
                 (try go_split_ands)
                 go_simp
                 (first | done | with_reducible rfl))
          try simp only [Act.put, List.setIfInBounds_toArray, List.set_cons_zero, List.set_cons_succ]
          refine take_h 17 ⟨?_, ?_, ?_, by kernel_rfl, by kernel_rfl, by kernel_rfl, ?_, ?_, by assumption, ?_⟩
          rotate_left 2
          · (simp only [List.getElem?_toArray, List.getElem?_cons_succ, List.getElem?_cons_zero]; exact rfl)
          · exact fun _ _ _ h => h
          · first
              | (refine Or.inr ⟨by rfl, ?_⟩; exact rfl)
              | (refine Or.inl ⟨by rfl, ?_⟩
                 intro w hSw
                 (try dsimp only at hSw)
                 (try go_split_ands)
                 go_simp
                 (first | done | with_reducible rfl))
          try simp only [Act.put, List.setIfInBounds_toArray, List.set_cons_zero, List.set_cons_succ]
          refine take_h 18 ⟨?_, ?_, ?_, by kernel_rfl, by kernel_rfl, by kernel_rfl, ?_, ?_, by assumption, ?_⟩
          rotate_left 2
          · (simp only [List.getElem?_toArray, List.getElem?_cons_succ, List.getElem?_cons_zero]; exact rfl)
          · exact fun _ _ _ h => h
          · first
              | (refine Or.inr ⟨by rfl, ?_⟩; exact rfl)
              | (refine Or.inl ⟨by rfl, ?_⟩
                 intro w hSw
                 (try dsimp only at hSw)
                 (try go_split_ands)
                 go_simp
                 (first | done | with_reducible rfl))
          try simp only [Act.put, List.setIfInBounds_toArray, List.set_cons_zero, List.set_cons_succ]
          refine take_h 19 ⟨?_, ?_, ?_, by kernel_rfl, by kernel_rfl, by kernel_rfl, ?_, ?_, by assumption, ?_⟩
          rotate_left 2
          · (simp only [List.getElem?_toArray, List.getElem?_cons_succ, List.getElem?_cons_zero]; exact rfl)
          · exact fun _ _ _ h => h
          · first
              | (refine Or.inr ⟨by rfl, ?_⟩; exact rfl)
              | (refine Or.inl ⟨by rfl, ?_⟩
                 intro w hSw
                 (try dsimp only at hSw)
                 (try go_split_ands)
                 go_simp
                 (first | done | with_reducible rfl))
          try simp only [Act.put, List.setIfInBounds_toArray, List.set_cons_zero, List.set_cons_succ]
          refine take_h 20 ⟨?_, ?_, ?_, by kernel_rfl, by kernel_rfl, by kernel_rfl, ?_, ?_, by assumption, ?_⟩
          rotate_left 2
          · (simp only [List.getElem?_toArray, List.getElem?_cons_succ, List.getElem?_cons_zero]; exact rfl)
          · exact fun _ _ _ h => h
          · first
              | (refine Or.inr ⟨by rfl, ?_⟩; exact rfl)
              | (refine Or.inl ⟨by rfl, ?_⟩
                 intro w hSw
                 (try dsimp only at hSw)
                 (try go_split_ands)
                 go_simp
                 (first | done | with_reducible rfl))
          try simp only [Act.put, List.setIfInBounds_toArray, List.set_cons_zero, List.set_cons_succ]
          refine take_h 21 ⟨?_, ?_, ?_, by kernel_rfl, by kernel_rfl, by kernel_rfl, ?_, ?_, by assumption, ?_⟩
          rotate_left 2
          · (simp only [List.getElem?_toArray, List.getElem?_cons_succ, List.getElem?_cons_zero]; exact rfl)
          · exact fun _ _ _ h => h
          · first
              | (refine Or.inr ⟨by rfl, ?_⟩; exact rfl)
              | (refine Or.inl ⟨by rfl, ?_⟩
                 intro w hSw
                 (try dsimp only at hSw)
                 (try go_split_ands)
                 go_simp
                 (first | done | with_reducible rfl))
          try simp only [Act.put, List.setIfInBounds_toArray, List.set_cons_zero, List.set_cons_succ]
          refine take_h 22 ⟨?_, ?_, ?_, by kernel_rfl, by kernel_rfl, by kernel_rfl, ?_, ?_, by assumption, ?_⟩
          rotate_left 2
          · (simp only [List.getElem?_toArray, List.getElem?_cons_succ, List.getElem?_cons_zero]; exact rfl)
          · exact fun _ _ _ h => h
          · first
              | (refine Or.inr ⟨by rfl, ?_⟩; exact rfl)
              | (refine Or.inl ⟨by rfl, ?_⟩
                 intro w hSw
                 (try dsimp only at hSw)
                 (try go_split_ands)
                 go_simp
                 (first | done | with_reducible rfl))
          try simp only [Act.put, List.setIfInBounds_toArray, List.set_cons_zero, List.set_cons_succ]
          refine take_h 23 ⟨?_, ?_, ?_, by kernel_rfl, by kernel_rfl, by kernel_rfl, ?_, ?_, by assumption, ?_⟩
          rotate_left 2
          · (simp only [List.getElem?_toArray, List.getElem?_cons_succ, List.getElem?_cons_zero]; exact rfl)
          · exact fun _ _ _ h => h
          · first
              | (refine Or.inr ⟨by rfl, ?_⟩; exact rfl)
              | (refine Or.inl ⟨by rfl, ?_⟩
                 intro w hSw
                 (try dsimp only at hSw)
                 (try go_split_ands)
                 go_simp
                 (first | done | with_reducible rfl))
          try simp only [Act.put, List.setIfInBounds_toArray, List.set_cons_zero, List.set_cons_succ]
          refine wpAnyH_done (by kernel_rfl) ?_ _
          go_wp2
          go_ret
          exact ⟨by rw [HB.out]; rfl, hHeld.2.2⟩
        · have HM := Lib.hid hmx
          by_cases hi1 : i = 0
          · have HS1 : Hid (preW L (i + 1)) := Lib.hid (preW_step HP.out HX.out (by subst hi1; exact wOk_zero hmx))
            have hi0 : decide ((0 : Int) < (i : Int)) = false := decide_eq_false (by omega)
            have hi0' : ¬ (0 < i) := by omega
            have hi0'' : decide (0 < i) = false := decide_eq_false hi0'
            clear hmx hi1
            go_wp2
            refine wp_region_held_drew (S := fun wx => wx.cell? ⟨b, o + i * 2, none⟩ = some (.string x.f) ∧ wx.cell? ⟨b, o + i * 2 + 1, none⟩ = some (.int .i64 x.q) ∧ Below w.heap.size w wx) (by kernel_rfl) ⟨c0, c1, hb.drew⟩ (fun hHeld => ?_)
            refine take_h 0 ⟨?_, ?_, ?_, by kernel_rfl, by kernel_rfl, by kernel_rfl, ?_, ?_, by assumption, ?_⟩
            rotate_left 2
            · (simp only [List.getElem?_toArray, List.getElem?_cons_succ, List.getElem?_cons_zero]; exact rfl)
            · exact fun _ _ _ h => h
            · first
                | (refine Or.inr ⟨by rfl, ?_⟩; exact rfl)
                | (refine Or.inl ⟨by rfl, ?_⟩
                   intro w hSw
                   (try dsimp only at hSw)
                   (try go_split_ands)
                   go_simp
                   (first | done | with_reducible rfl))
            try simp only [Act.put, List.setIfInBounds_toArray, List.set_cons_zero, List.set_cons_succ]
            refine take_h 1 ⟨?_, ?_, ?_, by kernel_rfl, by kernel_rfl, by kernel_rfl, ?_, ?_, by assumption, ?_⟩
            rotate_left 2
            · (simp only [List.getElem?_toArray, List.getElem?_cons_succ, List.getElem?_cons_zero]; exact rfl)
            · exact fun _ _ _ h => h
            · first
                | (refine Or.inr ⟨by rfl, ?_⟩; exact rfl)
                | (refine Or.inl ⟨by rfl, ?_⟩
                   intro w hSw
                   (try dsimp only at hSw)
                   (try go_split_ands)
                   go_simp
                   (first | done | with_reducible rfl))
            try simp only [Act.put, List.setIfInBounds_toArray, List.set_cons_zero, List.set_cons_succ]
            refine take_h 2 ⟨?_, ?_, ?_, by kernel_rfl, by kernel_rfl, by kernel_rfl, ?_, ?_, by assumption, ?_⟩
            rotate_left 2
            · (simp only [List.getElem?_toArray, List.getElem?_cons_succ, List.getElem?_cons_zero]; exact rfl)
            · exact fun _ _ _ h => h
            · first
                | (refine Or.inr ⟨by rfl, ?_⟩; exact rfl)
                | (refine Or.inl ⟨by rfl, ?_⟩
                   intro w hSw
                   (try dsimp only at hSw)
                   (try go_split_ands)
                   go_simp
                   (first | done | with_reducible rfl))
            try simp only [Act.put, List.setIfInBounds_toArray, List.set_cons_zero, List.set_cons_succ]
            refine take_h 3 ⟨?_, ?_, ?_, by kernel_rfl, by kernel_rfl, by kernel_rfl, ?_, ?_, by assumption, ?_⟩
            rotate_left 2
            · (simp only [List.getElem?_toArray, List.getElem?_cons_succ, List.getElem?_cons_zero]; exact rfl)
            · exact fun _ _ _ h => h
            · first
                | (refine Or.inr ⟨by rfl, ?_⟩; exact rfl)
                | (refine Or.inl ⟨by rfl, ?_⟩
                   intro w hSw
                   (try dsimp only at hSw)
                   (try go_split_ands)
                   go_simp
                   (first | done | with_reducible rfl))
            try simp only [Act.put, List.setIfInBounds_toArray, List.set_cons_zero, List.set_cons_succ]
            refine wpAnyH_ready (rs := [4]) (by kernel_rfl) (by simp) ?_
            refine call_h 4 ⟨?_, ?_, fun K hK => ?_⟩
            rotate_left 1
            · (simp only [List.getElem?_toArray, List.getElem?_cons_succ, List.getElem?_cons_zero]; exact rfl)
            go_simp
            (go_at_call 45; refine (rWish_is _ x hsx (hE.below hHeld.2.2) HM.out).mono ?_; rintro e wz ⟨rfl, hbz⟩)
            go_wp2_with fail
            refine hK.out _ _ ⟨cell_bel hHeld.1 hbz, cell_bel hHeld.2.1 hbz, bel_tr hHeld.2.2 hbz⟩ (fun hHeld => ?_)
            clear hK K
            (try simp only [Act.put, List.setIfInBounds_toArray, List.set_cons_zero, List.set_cons_succ])
            refine take_h 5 ⟨?_, ?_, ?_, by kernel_rfl, by kernel_rfl, by kernel_rfl, ?_, ?_, by assumption, ?_⟩
            rotate_left 2
            · (simp only [List.getElem?_toArray, List.getElem?_cons_succ, List.getElem?_cons_zero]; exact rfl)
            · exact fun _ _ _ h => h
            · first
                | (refine Or.inr ⟨by rfl, ?_⟩; exact rfl)
                | (refine Or.inl ⟨by rfl, ?_⟩
                   intro w hSw
                   (try dsimp only at hSw)
                   (try go_split_ands)
                   go_simp
                   (first | done | with_reducible rfl))
            try simp only [Act.put, List.setIfInBounds_toArray, List.set_cons_zero, List.set_cons_succ]
            refine take_h 6 ⟨?_, ?_, ?_, by kernel_rfl, by kernel_rfl, by kernel_rfl, ?_, ?_, by assumption, ?_⟩
            rotate_left 2
            · (simp only [List.getElem?_toArray, List.getElem?_cons_succ, List.getElem?_cons_zero]; exact rfl)
            · exact fun _ _ _ h => h
            · first
                | (refine Or.inr ⟨by rfl, ?_⟩; exact rfl)
                | (refine Or.inl ⟨by rfl, ?_⟩
                   intro w hSw
                   (try dsimp only at hSw)
                   (try go_split_ands)
                   go_simp
                   (first | done | with_reducible rfl))
            try simp only [Act.put, List.setIfInBounds_toArray, List.set_cons_zero, List.set_cons_succ]
            refine take_h 7 ⟨?_, ?_, ?_, by kernel_rfl, by kernel_rfl, by kernel_rfl, ?_, ?_, by assumption, ?_⟩
            rotate_left 2
            · (simp only [List.getElem?_toArray, List.getElem?_cons_succ, List.getElem?_cons_zero]; exact rfl)
            · exact fun _ _ _ h => h
            · first
                | (refine Or.inr ⟨by rfl, ?_⟩; exact rfl)
                | (refine Or.inl ⟨by rfl, ?_⟩
                   intro w hSw
                   (try dsimp only at hSw)
                   (try go_split_ands)
                   go_simp
                   (first | done | with_reducible rfl))
            try simp only [Act.put, List.setIfInBounds_toArray, List.set_cons_zero, List.set_cons_succ]
            refine take_h 8 ⟨?_, ?_, ?_, by kernel_rfl, by kernel_rfl, by kernel_rfl, ?_, ?_, by assumption, ?_⟩
            rotate_left 2
            · (simp only [List.getElem?_toArray, List.getElem?_cons_succ, List.getElem?_cons_zero]; exact rfl)
            · exact fun _ _ _ h => h
            · first
                | (refine Or.inr ⟨by rfl, ?_⟩; exact rfl)
                | (refine Or.inl ⟨by rfl, ?_⟩
                   intro w hSw
                   (try dsimp only at hSw)
                   (try go_split_ands)
                   go_simp
                   (first | done | with_reducible rfl))
            try simp only [Act.put, List.setIfInBounds_toArray, List.set_cons_zero, List.set_cons_succ]
            refine take_h 9 ⟨?_, ?_, ?_, by kernel_rfl, by kernel_rfl, by kernel_rfl, ?_, ?_, by assumption, ?_⟩
            rotate_left 2
            · (simp only [List.getElem?_toArray, List.getElem?_cons_succ, List.getElem?_cons_zero]; exact rfl)
            · exact fun _ _ _ h => h
            · first
                | (refine Or.inr ⟨by rfl, ?_⟩; exact rfl)
                | (refine Or.inl ⟨by rfl, ?_⟩
                   intro w hSw
                   (try dsimp only at hSw)
                   (try go_split_ands)
                   go_simp
                   (first | done | with_reducible rfl))
            try simp only [Act.put, List.setIfInBounds_toArray, List.set_cons_zero, List.set_cons_succ]
            refine take_h 10 ⟨?_, ?_, ?_, by kernel_rfl, by kernel_rfl, by kernel_rfl, ?_, ?_, by assumption, ?_⟩
            rotate_left 2
            · (simp only [List.getElem?_toArray, List.getElem?_cons_succ, List.getElem?_cons_zero]; exact rfl)
            · exact fun _ _ _ h => h
            · first
                | (refine Or.inr ⟨by rfl, ?_⟩; exact rfl)
                | (refine Or.inl ⟨by rfl, ?_⟩
                   intro w hSw
                   (try dsimp only at hSw)
                   (try go_split_ands)
                   go_simp
                   (first | done | with_reducible rfl))
            try simp only [Act.put, List.setIfInBounds_toArray, List.set_cons_zero, List.set_cons_succ]
            refine take_h 11 ⟨?_, ?_, ?_, by kernel_rfl, by kernel_rfl, by kernel_rfl, ?_, ?_, by assumption, ?_⟩
            rotate_left 2
            · (simp only [List.getElem?_toArray, List.getElem?_cons_succ, List.getElem?_cons_zero]; exact rfl)
            · exact fun _ _ _ h => h
            · first
                | (refine Or.inr ⟨by rfl, ?_⟩; exact rfl)
                | (refine Or.inl ⟨by rfl, ?_⟩
                   intro w hSw
                   (try dsimp only at hSw)
                   (try go_split_ands)
                   go_simp
                   (first | done | with_reducible rfl))
            try simp only [Act.put, List.setIfInBounds_toArray, List.set_cons_zero, List.set_cons_succ]
            refine take_h 12 ⟨?_, ?_, ?_, by kernel_rfl, by kernel_rfl, by kernel_rfl, ?_, ?_, by assumption, ?_⟩
            rotate_left 2
            · (simp only [List.getElem?_toArray, List.getElem?_cons_succ, List.getElem?_cons_zero]; exact rfl)
            · exact fun _ _ _ h => h
            · first
                | (refine Or.inr ⟨by rfl, ?_⟩; exact rfl)
                | (refine Or.inl ⟨by rfl, ?_⟩
                   intro w hSw
                   (try dsimp only at hSw)
                   (try go_split_ands)
                   go_simp
                   (first | done | with_reducible rfl))
            try simp only [Act.put, List.setIfInBounds_toArray, List.set_cons_zero, List.set_cons_succ]
            refine take_h 13 ⟨?_, ?_, ?_, by kernel_rfl, by kernel_rfl, by kernel_rfl, ?_, ?_, by assumption, ?_⟩
            rotate_left 2
            · (simp only [List.getElem?_toArray, List.getElem?_cons_succ, List.getElem?_cons_zero]; exact rfl)
            · exact fun _ _ _ h => h
            · first
                | (refine Or.inr ⟨by rfl, ?_⟩; exact rfl)
                | (refine Or.inl ⟨by rfl, ?_⟩
                   intro w hSw
                   (try dsimp only at hSw)
                   (try go_split_ands)
                   go_simp
                   (first | done | with_reducible rfl))
            try simp only [Act.put, List.setIfInBounds_toArray, List.set_cons_zero, List.set_cons_succ]
            refine take_h 14 ⟨?_, ?_, ?_, by kernel_rfl, by kernel_rfl, by kernel_rfl, ?_, ?_, by assumption, ?_⟩
            rotate_left 2
            · (simp only [List.getElem?_toArray, List.getElem?_cons_succ, List.getElem?_cons_zero]; exact rfl)
            · exact fun _ _ _ h => h
            · first
                | (refine Or.inr ⟨by rfl, ?_⟩; exact rfl)
                | (refine Or.inl ⟨by rfl, ?_⟩
                   intro w hSw
                   (try dsimp only at hSw)
                   (try go_split_ands)
                   go_simp
                   (first | done | with_reducible rfl))
            try simp only [Act.put, List.setIfInBounds_toArray, List.set_cons_zero, List.set_cons_succ]
            refine take_h 15 ⟨?_, ?_, ?_, by kernel_rfl, by kernel_rfl, by kernel_rfl, ?_, ?_, by assumption, ?_⟩
            rotate_left 2
            · (simp only [List.getElem?_toArray, List.getElem?_cons_succ, List.getElem?_cons_zero]; exact rfl)
            · exact fun _ _ _ h => h
            · first
                | (refine Or.inr ⟨by rfl, ?_⟩; exact rfl)
                | (refine Or.inl ⟨by rfl, ?_⟩
                   intro w hSw
                   (try dsimp only at hSw)
                   (try go_split_ands)
                   go_simp
                   (first | done | with_reducible rfl))
            try simp only [Act.put, List.setIfInBounds_toArray, List.set_cons_zero, List.set_cons_succ]
            refine take_h 16 ⟨?_, ?_, ?_, by kernel_rfl, by kernel_rfl, by kernel_rfl, ?_, ?_, by assumption, ?_⟩
            rotate_left 2
            · (simp only [List.getElem?_toArray, List.getElem?_cons_succ, List.getElem?_cons_zero]; exact rfl)
            · exact fun _ _ _ h => h
            · first
                | (refine Or.inr ⟨by rfl, ?_⟩; exact rfl)
                | (refine Or.inl ⟨by rfl, ?_⟩
                   intro w hSw
                   (try dsimp only at hSw)
                   (try go_split_ands)
                   go_simp
                   (first | done | with_reducible rfl))
            try simp only [Act.put, List.setIfInBounds_toArray, List.set_cons_zero, List.set_cons_succ]
            refine take_h 17 ⟨?_, ?_, ?_, by kernel_rfl, by kernel_rfl, by kernel_rfl, ?_, ?_, by assumption, ?_⟩
            rotate_left 2
            · (simp only [List.getElem?_toArray, List.getElem?_cons_succ, List.getElem?_cons_zero]; exact rfl)
            · exact fun _ _ _ h => h
            · first
                | (refine Or.inr ⟨by rfl, ?_⟩; exact rfl)
                | (refine Or.inl ⟨by rfl, ?_⟩
                   intro w hSw
                   (try dsimp only at hSw)
                   (try go_split_ands)
                   go_simp
                   (first | done | with_reducible rfl))
            try simp only [Act.put, List.setIfInBounds_toArray, List.set_cons_zero, List.set_cons_succ]
            refine take_h 18 ⟨?_, ?_, ?_, by kernel_rfl, by kernel_rfl, by kernel_rfl, ?_, ?_, by assumption, ?_⟩
            rotate_left 2
            · (simp only [List.getElem?_toArray, List.getElem?_cons_succ, List.getElem?_cons_zero]; exact rfl)
            · exact fun _ _ _ h => h
            · first
                | (refine Or.inr ⟨by rfl, ?_⟩; exact rfl)
                | (refine Or.inl ⟨by rfl, ?_⟩
                   intro w hSw
                   (try dsimp only at hSw)
                   (try go_split_ands)
                   go_simp
                   (first | done | with_reducible rfl))
            try simp only [Act.put, List.setIfInBounds_toArray, List.set_cons_zero, List.set_cons_succ]
            refine take_h 19 ⟨?_, ?_, ?_, by kernel_rfl, by kernel_rfl, by kernel_rfl, ?_, ?_, by assumption, ?_⟩
            rotate_left 2
            · (simp only [List.getElem?_toArray, List.getElem?_cons_succ, List.getElem?_cons_zero]; exact rfl)
            · exact fun _ _ _ h => h
            · first
                | (refine Or.inr ⟨by rfl, ?_⟩; exact rfl)
                | (refine Or.inl ⟨by rfl, ?_⟩
                   intro w hSw
                   (try dsimp only at hSw)
                   (try go_split_ands)
                   go_simp
                   (first | done | with_reducible rfl))
            try simp only [Act.put, List.setIfInBounds_toArray, List.set_cons_zero, List.set_cons_succ]
            refine take_h 20 ⟨?_, ?_, ?_, by kernel_rfl, by kernel_rfl, by kernel_rfl, ?_, ?_, by assumption, ?_⟩
            rotate_left 2
            · (simp only [List.getElem?_toArray, List.getElem?_cons_succ, List.getElem?_cons_zero]; exact rfl)
            · exact fun _ _ _ h => h
            · first
                | (refine Or.inr ⟨by rfl, ?_⟩; exact rfl)
                | (refine Or.inl ⟨by rfl, ?_⟩
                   intro w hSw
                   (try dsimp only at hSw)
                   (try go_split_ands)
                   go_simp
                   (first | done | with_reducible rfl))
            try simp only [Act.put, List.setIfInBounds_toArray, List.set_cons_zero, List.set_cons_succ]
            refine take_h 21 ⟨?_, ?_, ?_, by kernel_rfl, by kernel_rfl, by kernel_rfl, ?_, ?_, by assumption, ?_⟩
            rotate_left 2
            · (simp only [List.getElem?_toArray, List.getElem?_cons_succ, List.getElem?_cons_zero]; exact rfl)
            · exact fun _ _ _ h => h
            · first
                | (refine Or.inr ⟨by rfl, ?_⟩; exact rfl)
                | (refine Or.inl ⟨by rfl, ?_⟩
                   intro w hSw
                   (try dsimp only at hSw)
                   (try go_split_ands)
                   go_simp
                   (first | done | with_reducible rfl))
            try simp only [Act.put, List.setIfInBounds_toArray, List.set_cons_zero, List.set_cons_succ]
            refine take_h 22 ⟨?_, ?_, ?_, by kernel_rfl, by kernel_rfl, by kernel_rfl, ?_, ?_, by assumption, ?_⟩
            rotate_left 2
            · (simp only [List.getElem?_toArray, List.getElem?_cons_succ, List.getElem?_cons_zero]; exact rfl)
            · exact fun _ _ _ h => h
            · first
                | (refine Or.inr ⟨by rfl, ?_⟩; exact rfl)
                | (refine Or.inl ⟨by rfl, ?_⟩
                   intro w hSw
                   (try dsimp only at hSw)
                   (try go_split_ands)
                   go_simp
                   (first | done | with_reducible rfl))
            try simp only [Act.put, List.setIfInBounds_toArray, List.set_cons_zero, List.set_cons_succ]
            refine take_h 23 ⟨?_, ?_, ?_, by kernel_rfl, by kernel_rfl, by kernel_rfl, ?_, ?_, by assumption, ?_⟩
            rotate_left 2
            · (simp only [List.getElem?_toArray, List.getElem?_cons_succ, List.getElem?_cons_zero]; exact rfl)
            · exact fun _ _ _ h => h
            · first
                | (refine Or.inr ⟨by rfl, ?_⟩; exact rfl)
                | (refine Or.inl ⟨by rfl, ?_⟩
                   intro w hSw
                   (try dsimp only at hSw)
                   (try go_split_ands)
                   go_simp
                   (first | done | with_reducible rfl))
            try simp only [Act.put, List.setIfInBounds_toArray, List.set_cons_zero, List.set_cons_succ]
            refine wpAnyH_done (by kernel_rfl) ?_ _
            go_wp2
            go_roundw
            case rel => exact ⟨i + 1, by omega, by go_num, HS1, hHeld.2.2⟩
            case measure => simp [intOf]; omega
          · obtain ⟨j, hj⟩ : ∃ j, i = j + 1 := ⟨i - 1, by omega⟩
            obtain ⟨y, hy⟩ : ∃ y, L[j]? = some y := ⟨_, List.getElem?_eq_getElem (by omega)⟩
            obtain ⟨b', o', he, _, d0, _⟩ := wish_cell (H.out.below hb) rfl hy
            injection he with he
            injection he with he1 he2
            subst he1 he2
            have hwo : wOk L i x = lessB y.f x.f := by subst hj; exact wOk_succ hmx hy
            have hi0 : decide ((0 : Int) < (i : Int)) = true := decide_eq_true (by omega)
            have hi0' : 0 < i := by omega
            have hi0'' : decide (0 < i) = true := decide_eq_true hi0'
            have hj0 : (0 : Int) ≤ (j : Int) := by omega
            have hjl : (j : Int) < (L.length : Int) := by omega
            have hw1 : IntKind.i64.wrap ((i : Int) - 1) = (j : Int) := by
              have : (i : Int) - 1 = j := by omega
              rw [this]; exact IntWalk.i64_in _ ⟨by omega, by omega⟩
            clear hmx hi1 hy hj
            cases hls : lessB y.f x.f
            · have HB : Hid (subsB L = false) := Lib.hid (by rw [HT.out, allW_bad HX.out (hwo.trans hls)])
              have hl2 : Op.bytesLess y.f.toList x.f.toList = false := hls
              clear hls hwo
              go_wp2
              refine wp_region_held_drew (S := fun wx => wx.cell? ⟨b, o + i * 2, none⟩ = some (.string x.f) ∧ wx.cell? ⟨b, o + i * 2 + 1, none⟩ = some (.int .i64 x.q) ∧ wx.cell? ⟨b, o + j * 2, none⟩ = some (.string y.f) ∧ Below w.heap.size w wx) (by kernel_rfl) ⟨c0, c1, d0, hb.drew⟩ (fun hHeld => ?_)
              refine take_h 0 ⟨?_, ?_, ?_, by kernel_rfl, by kernel_rfl, by kernel_rfl, ?_, ?_, by assumption, ?_⟩
              rotate_left 2
              · (simp only [List.getElem?_toArray, List.getElem?_cons_succ, List.getElem?_cons_zero]; exact rfl)
              · exact fun _ _ _ h => h
              · first
                  | (refine Or.inr ⟨by rfl, ?_⟩; exact rfl)
                  | (refine Or.inl ⟨by rfl, ?_⟩
                     intro w hSw
                     (try dsimp only at hSw)
                     (try go_split_ands)
                     go_simp
                     (first | done | with_reducible rfl))
              try simp only [Act.put, List.setIfInBounds_toArray, List.set_cons_zero, List.set_cons_succ]
              refine take_h 1 ⟨?_, ?_, ?_, by kernel_rfl, by kernel_rfl, by kernel_rfl, ?_, ?_, by assumption, ?_⟩
              rotate_left 2
              · (simp only [List.getElem?_toArray, List.getElem?_cons_succ, List.getElem?_cons_zero]; exact rfl)
              · exact fun _ _ _ h => h
              · first
                  | (refine Or.inr ⟨by rfl, ?_⟩; exact rfl)
                  | (refine Or.inl ⟨by rfl, ?_⟩
                     intro w hSw
                     (try dsimp only at hSw)
                     (try go_split_ands)
                     go_simp
                     (first | done | with_reducible rfl))
              try simp only [Act.put, List.setIfInBounds_toArray, List.set_cons_zero, List.set_cons_succ]
              refine take_h 2 ⟨?_, ?_, ?_, by kernel_rfl, by kernel_rfl, by kernel_rfl, ?_, ?_, by assumption, ?_⟩
              rotate_left 2
              · (simp only [List.getElem?_toArray, List.getElem?_cons_succ, List.getElem?_cons_zero]; exact rfl)
              · exact fun _ _ _ h => h
              · first
                  | (refine Or.inr ⟨by rfl, ?_⟩; exact rfl)
                  | (refine Or.inl ⟨by rfl, ?_⟩
                     intro w hSw
                     (try dsimp only at hSw)
                     (try go_split_ands)
                     go_simp
                     (first | done | with_reducible rfl))
              try simp only [Act.put, List.setIfInBounds_toArray, List.set_cons_zero, List.set_cons_succ]
              refine take_h 3 ⟨?_, ?_, ?_, by kernel_rfl, by kernel_rfl, by kernel_rfl, ?_, ?_, by assumption, ?_⟩
              rotate_left 2
              · (simp only [List.getElem?_toArray, List.getElem?_cons_succ, List.getElem?_cons_zero]; exact rfl)
              · exact fun _ _ _ h => h
              · first
                  | (refine Or.inr ⟨by rfl, ?_⟩; exact rfl)
                  | (refine Or.inl ⟨by rfl, ?_⟩
                     intro w hSw
                     (try dsimp only at hSw)
                     (try go_split_ands)
                     go_simp
                     (first | done | with_reducible rfl))
              try simp only [Act.put, List.setIfInBounds_toArray, List.set_cons_zero, List.set_cons_succ]
              refine wpAnyH_ready (rs := [4]) (by kernel_rfl) (by simp) ?_
              refine call_h 4 ⟨?_, ?_, fun K hK => ?_⟩
              rotate_left 1
              · (simp only [List.getElem?_toArray, List.getElem?_cons_succ, List.getElem?_cons_zero]; exact rfl)
              go_simp
              (go_at_call 45; refine (rWish_is _ x hsx (hE.below hHeld.2.2.2) HM.out).mono ?_; rintro e wz ⟨rfl, hbz⟩)
              go_wp2_with fail
              refine hK.out _ _ ⟨cell_bel hHeld.1 hbz, cell_bel hHeld.2.1 hbz, cell_bel hHeld.2.2.1 hbz, bel_tr hHeld.2.2.2 hbz⟩ (fun hHeld => ?_)
              clear hK K
              (try simp only [Act.put, List.setIfInBounds_toArray, List.set_cons_zero, List.set_cons_succ])
              refine take_h 5 ⟨?_, ?_, ?_, by kernel_rfl, by kernel_rfl, by kernel_rfl, ?_, ?_, by assumption, ?_⟩
              rotate_left 2
              · (simp only [List.getElem?_toArray, List.getElem?_cons_succ, List.getElem?_cons_zero]; exact rfl)
              · exact fun _ _ _ h => h
              · first
                  | (refine Or.inr ⟨by rfl, ?_⟩; exact rfl)
                  | (refine Or.inl ⟨by rfl, ?_⟩
                     intro w hSw
                     (try dsimp only at hSw)
                     (try go_split_ands)
                     go_simp
                     (first | done | with_reducible rfl))
              try simp only [Act.put, List.setIfInBounds_toArray, List.set_cons_zero, List.set_cons_succ]
              refine take_h 6 ⟨?_, ?_, ?_, by kernel_rfl, by kernel_rfl, by kernel_rfl, ?_, ?_, by assumption, ?_⟩
              rotate_left 2
              · (simp only [List.getElem?_toArray, List.getElem?_cons_succ, List.getElem?_cons_zero]; exact rfl)
              · exact fun _ _ _ h => h
              · first
                  | (refine Or.inr ⟨by rfl, ?_⟩; exact rfl)
                  | (refine Or.inl ⟨by rfl, ?_⟩
                     intro w hSw
                     (try dsimp only at hSw)
                     (try go_split_ands)
                     go_simp
                     (first | done | with_reducible rfl))
              try simp only [Act.put, List.setIfInBounds_toArray, List.set_cons_zero, List.set_cons_succ]
              refine take_h 7 ⟨?_, ?_, ?_, by kernel_rfl, by kernel_rfl, by kernel_rfl, ?_, ?_, by assumption, ?_⟩
              rotate_left 2
              · (simp only [List.getElem?_toArray, List.getElem?_cons_succ, List.getElem?_cons_zero]; exact rfl)
              · exact fun _ _ _ h => h
              · first
                  | (refine Or.inr ⟨by rfl, ?_⟩; exact rfl)
                  | (refine Or.inl ⟨by rfl, ?_⟩
                     intro w hSw
                     (try dsimp only at hSw)
                     (try go_split_ands)
                     go_simp
                     (first | done | with_reducible rfl))
              try simp only [Act.put, List.setIfInBounds_toArray, List.set_cons_zero, List.set_cons_succ]
              refine take_h 8 ⟨?_, ?_, ?_, by kernel_rfl, by kernel_rfl, by kernel_rfl, ?_, ?_, by assumption, ?_⟩
              rotate_left 2
              · (simp only [List.getElem?_toArray, List.getElem?_cons_succ, List.getElem?_cons_zero]; exact rfl)
              · exact fun _ _ _ h => h
              · first
                  | (refine Or.inr ⟨by rfl, ?_⟩; exact rfl)
                  | (refine Or.inl ⟨by rfl, ?_⟩
                     intro w hSw
                     (try dsimp only at hSw)
                     (try go_split_ands)
                     go_simp
                     (first | done | with_reducible rfl))
              try simp only [Act.put, List.setIfInBounds_toArray, List.set_cons_zero, List.set_cons_succ]
              refine take_h 9 ⟨?_, ?_, ?_, by kernel_rfl, by kernel_rfl, by kernel_rfl, ?_, ?_, by assumption, ?_⟩
              rotate_left 2
              · (simp only [List.getElem?_toArray, List.getElem?_cons_succ, List.getElem?_cons_zero]; exact rfl)
              · exact fun _ _ _ h => h
              · first
                  | (refine Or.inr ⟨by rfl, ?_⟩; exact rfl)
                  | (refine Or.inl ⟨by rfl, ?_⟩
                     intro w hSw
                     (try dsimp only at hSw)
                     (try go_split_ands)
                     go_simp
                     (first | done | with_reducible rfl))
              try simp only [Act.put, List.setIfInBounds_toArray, List.set_cons_zero, List.set_cons_succ]
              refine take_h 10 ⟨?_, ?_, ?_, by kernel_rfl, by kernel_rfl, by kernel_rfl, ?_, ?_, by assumption, ?_⟩
              rotate_left 2
              · (simp only [List.getElem?_toArray, List.getElem?_cons_succ, List.getElem?_cons_zero]; exact rfl)
              · exact fun _ _ _ h => h
              · first
                  | (refine Or.inr ⟨by rfl, ?_⟩; exact rfl)
                  | (refine Or.inl ⟨by rfl, ?_⟩
                     intro w hSw
                     (try dsimp only at hSw)
                     (try go_split_ands)
                     go_simp
                     (first | done | with_reducible rfl))
              try simp only [Act.put, List.setIfInBounds_toArray, List.set_cons_zero, List.set_cons_succ]
              refine take_h 11 ⟨?_, ?_, ?_, by kernel_rfl, by kernel_rfl, by kernel_rfl, ?_, ?_, by assumption, ?_⟩
              rotate_left 2
              · (simp only [List.getElem?_toArray, List.getElem?_cons_succ, List.getElem?_cons_zero]; exact rfl)
              · exact fun _ _ _ h => h
              · first
                  | (refine Or.inr ⟨by rfl, ?_⟩; exact rfl)
                  | (refine Or.inl ⟨by rfl, ?_⟩
                     intro w hSw
                     (try dsimp only at hSw)
                     (try go_split_ands)
                     go_simp
                     (first | done | with_reducible rfl))
              try simp only [Act.put, List.setIfInBounds_toArray, List.set_cons_zero, List.set_cons_succ]
              refine take_h 12 ⟨?_, ?_, ?_, by kernel_rfl, by kernel_rfl, by kernel_rfl, ?_, ?_, by assumption, ?_⟩
              rotate_left 2
              · (simp only [List.getElem?_toArray, List.getElem?_cons_succ, List.getElem?_cons_zero]; exact rfl)
              · exact fun _ _ _ h => h
              · first
                  | (refine Or.inr ⟨by rfl, ?_⟩; exact rfl)
                  | (refine Or.inl ⟨by rfl, ?_⟩
                     intro w hSw
                     (try dsimp only at hSw)
                     (try go_split_ands)
                     go_simp
                     (first | done | with_reducible rfl))
              try simp only [Act.put, List.setIfInBounds_toArray, List.set_cons_zero, List.set_cons_succ]
              refine take_h 13 ⟨?_, ?_, ?_, by kernel_rfl, by kernel_rfl, by kernel_rfl, ?_, ?_, by assumption, ?_⟩
              rotate_left 2
              · (simp only [List.getElem?_toArray, List.getElem?_cons_succ, List.getElem?_cons_zero]; exact rfl)
              · exact fun _ _ _ h => h
              · first
                  | (refine Or.inr ⟨by rfl, ?_⟩; exact rfl)
                  | (refine Or.inl ⟨by rfl, ?_⟩
                     intro w hSw
                     (try dsimp only at hSw)
                     (try go_split_ands)
                     go_simp
                     (first | done | with_reducible rfl))
              try simp only [Act.put, List.setIfInBounds_toArray, List.set_cons_zero, List.set_cons_succ]
              refine take_h 14 ⟨?_, ?_, ?_, by kernel_rfl, by kernel_rfl, by kernel_rfl, ?_, ?_, by assumption, ?_⟩
              rotate_left 2
              · (simp only [List.getElem?_toArray, List.getElem?_cons_succ, List.getElem?_cons_zero]; exact rfl)
              · exact fun _ _ _ h => h
              · first
                  | (refine Or.inr ⟨by rfl, ?_⟩; exact rfl)
                  | (refine Or.inl ⟨by rfl, ?_⟩
                     intro w hSw
                     (try dsimp only at hSw)
                     (try go_split_ands)
                     go_simp
                     (first | done | with_reducible rfl))
              try simp only [Act.put, List.setIfInBounds_toArray, List.set_cons_zero, List.set_cons_succ]
              refine take_h 15 ⟨?_, ?_, ?_, by kernel_rfl, by kernel_rfl, by kernel_rfl, ?_, ?_, by assumption, ?_⟩
              rotate_left 2
              · (simp only [List.getElem?_toArray, List.getElem?_cons_succ, List.getElem?_cons_zero]; exact rfl)
              · exact fun _ _ _ h => h
              · first
                  | (refine Or.inr ⟨by rfl, ?_⟩; exact rfl)
                  | (refine Or.inl ⟨by rfl, ?_⟩
                     intro w hSw
                     (try dsimp only at hSw)
                     (try go_split_ands)
                     go_simp
                     (first | done | with_reducible rfl))
              try simp only [Act.put, List.setIfInBounds_toArray, List.set_cons_zero, List.set_cons_succ]
              refine take_h 16 ⟨?_, ?_, ?_, by kernel_rfl, by kernel_rfl, by kernel_rfl, ?_, ?_, by assumption, ?_⟩
              rotate_left 2
              · (simp only [List.getElem?_toArray, List.getElem?_cons_succ, List.getElem?_cons_zero]; exact rfl)
              · exact fun _ _ _ h => h
              · first
                  | (refine Or.inr ⟨by rfl, ?_⟩; exact rfl)
                  | (refine Or.inl ⟨by rfl, ?_⟩
                     intro w hSw
                     (try dsimp only at hSw)
                     (try go_split_ands)
                     go_simp
                     (first | done | with_reducible rfl))
              try simp only [Act.put, List.setIfInBounds_toArray, List.set_cons_zero, List.set_cons_succ]
              refine take_h 17 ⟨?_, ?_, ?_, by kernel_rfl, by kernel_rfl, by kernel_rfl, ?_, ?_, by assumption, ?_⟩
              rotate_left 2
              · (simp only [List.getElem?_toArray, List.getElem?_cons_succ, List.getElem?_cons_zero]; exact rfl)
              · exact fun _ _ _ h => h
              · first
                  | (refine Or.inr ⟨by rfl, ?_⟩; exact rfl)
                  | (refine Or.inl ⟨by rfl, ?_⟩
                     intro w hSw
                     (try dsimp only at hSw)
                     (try go_split_ands)
                     go_simp
                     (first | done | with_reducible rfl))
              try simp only [Act.put, List.setIfInBounds_toArray, List.set_cons_zero, List.set_cons_succ]
              refine take_h 18 ⟨?_, ?_, ?_, by kernel_rfl, by kernel_rfl, by kernel_rfl, ?_, ?_, by assumption, ?_⟩
              rotate_left 2
              · (simp only [List.getElem?_toArray, List.getElem?_cons_succ, List.getElem?_cons_zero]; exact rfl)
              · exact fun _ _ _ h => h
              · first
                  | (refine Or.inr ⟨by rfl, ?_⟩; exact rfl)
                  | (refine Or.inl ⟨by rfl, ?_⟩
                     intro w hSw
                     (try dsimp only at hSw)
                     (try go_split_ands)
                     go_simp
                     (first | done | with_reducible rfl))
              try simp only [Act.put, List.setIfInBounds_toArray, List.set_cons_zero, List.set_cons_succ]
              refine take_h 19 ⟨?_, ?_, ?_, by kernel_rfl, by kernel_rfl, by kernel_rfl, ?_, ?_, by assumption, ?_⟩
              rotate_left 2
              · (simp only [List.getElem?_toArray, List.getElem?_cons_succ, List.getElem?_cons_zero]; exact rfl)
              · exact fun _ _ _ h => h
              · first
                  | (refine Or.inr ⟨by rfl, ?_⟩; exact rfl)
                  | (refine Or.inl ⟨by rfl, ?_⟩
                     intro w hSw
                     (try dsimp only at hSw)
                     (try go_split_ands)
                     go_simp
                     (first | done | with_reducible rfl))
              try simp only [Act.put, List.setIfInBounds_toArray, List.set_cons_zero, List.set_cons_succ]
              refine take_h 20 ⟨?_, ?_, ?_, by kernel_rfl, by kernel_rfl, by kernel_rfl, ?_, ?_, by assumption, ?_⟩
              rotate_left 2
              · (simp only [List.getElem?_toArray, List.getElem?_cons_succ, List.getElem?_cons_zero]; exact rfl)
              · exact fun _ _ _ h => h
              · first
                  | (refine Or.inr ⟨by rfl, ?_⟩; exact rfl)
                  | (refine Or.inl ⟨by rfl, ?_⟩
                     intro w hSw
                     (try dsimp only at hSw)
                     (try go_split_ands)
                     go_simp
                     (first | done | with_reducible rfl))
              try simp only [Act.put, List.setIfInBounds_toArray, List.set_cons_zero, List.set_cons_succ]
              refine take_h 21 ⟨?_, ?_, ?_, by kernel_rfl, by kernel_rfl, by kernel_rfl, ?_, ?_, by assumption, ?_⟩
              rotate_left 2
              · (simp only [List.getElem?_toArray, List.getElem?_cons_succ, List.getElem?_cons_zero]; exact rfl)
              · exact fun _ _ _ h => h
              · first
                  | (refine Or.inr ⟨by rfl, ?_⟩; exact rfl)
                  | (refine Or.inl ⟨by rfl, ?_⟩
                     intro w hSw
                     (try dsimp only at hSw)
                     (try go_split_ands)
                     go_simp
                     (first | done | with_reducible rfl))
              try simp only [Act.put, List.setIfInBounds_toArray, List.set_cons_zero, List.set_cons_succ]
              refine take_h 22 ⟨?_, ?_, ?_, by kernel_rfl, by kernel_rfl, by kernel_rfl, ?_, ?_, by assumption, ?_⟩
              rotate_left 2
              · (simp only [List.getElem?_toArray, List.getElem?_cons_succ, List.getElem?_cons_zero]; exact rfl)
              · exact fun _ _ _ h => h
              · first
                  | (refine Or.inr ⟨by rfl, ?_⟩; exact rfl)
                  | (refine Or.inl ⟨by rfl, ?_⟩
                     intro w hSw
                     (try dsimp only at hSw)
                     (try go_split_ands)
                     go_simp
                     (first | done | with_reducible rfl))
              try simp only [Act.put, List.setIfInBounds_toArray, List.set_cons_zero, List.set_cons_succ]
              refine take_h 23 ⟨?_, ?_, ?_, by kernel_rfl, by kernel_rfl, by kernel_rfl, ?_, ?_, by assumption, ?_⟩
              rotate_left 2
              · (simp only [List.getElem?_toArray, List.getElem?_cons_succ, List.getElem?_cons_zero]; exact rfl)
              · exact fun _ _ _ h => h
              · first
                  | (refine Or.inr ⟨by rfl, ?_⟩; exact rfl)
                  | (refine Or.inl ⟨by rfl, ?_⟩
                     intro w hSw
                     (try dsimp only at hSw)
                     (try go_split_ands)
                     go_simp
                     (first | done | with_reducible rfl))
              try simp only [Act.put, List.setIfInBounds_toArray, List.set_cons_zero, List.set_cons_succ]
              refine wpAnyH_done (by kernel_rfl) ?_ _
              go_wp2
              go_ret
              exact ⟨by rw [HB.out]; rfl, hHeld.2.2.2⟩
            · have HS1 : Hid (preW L (i + 1)) := Lib.hid (preW_step HP.out HX.out (hwo.trans hls))
              have hl2 : Op.bytesLess y.f.toList x.f.toList = true := hls
              clear hls hwo
              go_wp2
              refine wp_region_held_drew (S := fun wx => wx.cell? ⟨b, o + i * 2, none⟩ = some (.string x.f) ∧ wx.cell? ⟨b, o + i * 2 + 1, none⟩ = some (.int .i64 x.q) ∧ wx.cell? ⟨b, o + j * 2, none⟩ = some (.string y.f) ∧ Below w.heap.size w wx) (by kernel_rfl) ⟨c0, c1, d0, hb.drew⟩ (fun hHeld => ?_)
              refine take_h 0 ⟨?_, ?_, ?_, by kernel_rfl, by kernel_rfl, by kernel_rfl, ?_, ?_, by assumption, ?_⟩
              rotate_left 2
              · (simp only [List.getElem?_toArray, List.getElem?_cons_succ, List.getElem?_cons_zero]; exact rfl)
              · exact fun _ _ _ h => h
              · first
                  | (refine Or.inr ⟨by rfl, ?_⟩; exact rfl)
                  | (refine Or.inl ⟨by rfl, ?_⟩
                     intro w hSw
                     (try dsimp only at hSw)
                     (try go_split_ands)
                     go_simp
                     (first | done | with_reducible rfl))
              try simp only [Act.put, List.setIfInBounds_toArray, List.set_cons_zero, List.set_cons_succ]
              refine take_h 1 ⟨?_, ?_, ?_, by kernel_rfl, by kernel_rfl, by kernel_rfl, ?_, ?_, by assumption, ?_⟩
              rotate_left 2
              · (simp only [List.getElem?_toArray, List.getElem?_cons_succ, List.getElem?_cons_zero]; exact rfl)
              · exact fun _ _ _ h => h
              · first
                  | (refine Or.inr ⟨by rfl, ?_⟩; exact rfl)
                  | (refine Or.inl ⟨by rfl, ?_⟩
                     intro w hSw
                     (try dsimp only at hSw)
                     (try go_split_ands)
                     go_simp
                     (first | done | with_reducible rfl))
              try simp only [Act.put, List.setIfInBounds_toArray, List.set_cons_zero, List.set_cons_succ]
              refine take_h 2 ⟨?_, ?_, ?_, by kernel_rfl, by kernel_rfl, by kernel_rfl, ?_, ?_, by assumption, ?_⟩
              rotate_left 2
              · (simp only [List.getElem?_toArray, List.getElem?_cons_succ, List.getElem?_cons_zero]; exact rfl)
              · exact fun _ _ _ h => h
              · first
                  | (refine Or.inr ⟨by rfl, ?_⟩; exact rfl)
                  | (refine Or.inl ⟨by rfl, ?_⟩
                     intro w hSw
                     (try dsimp only at hSw)
                     (try go_split_ands)
                     go_simp
                     (first | done | with_reducible rfl))
              try simp only [Act.put, List.setIfInBounds_toArray, List.set_cons_zero, List.set_cons_succ]
              refine take_h 3 ⟨?_, ?_, ?_, by kernel_rfl, by kernel_rfl, by kernel_rfl, ?_, ?_, by assumption, ?_⟩
              rotate_left 2
              · (simp only [List.getElem?_toArray, List.getElem?_cons_succ, List.getElem?_cons_zero]; exact rfl)
              · exact fun _ _ _ h => h
              · first
                  | (refine Or.inr ⟨by rfl, ?_⟩; exact rfl)
                  | (refine Or.inl ⟨by rfl, ?_⟩
                     intro w hSw
                     (try dsimp only at hSw)
                     (try go_split_ands)
                     go_simp
                     (first | done | with_reducible rfl))
              try simp only [Act.put, List.setIfInBounds_toArray, List.set_cons_zero, List.set_cons_succ]
              refine wpAnyH_ready (rs := [4]) (by kernel_rfl) (by simp) ?_
              refine call_h 4 ⟨?_, ?_, fun K hK => ?_⟩
              rotate_left 1
              · (simp only [List.getElem?_toArray, List.getElem?_cons_succ, List.getElem?_cons_zero]; exact rfl)
              go_simp
              (go_at_call 45; refine (rWish_is _ x hsx (hE.below hHeld.2.2.2) HM.out).mono ?_; rintro e wz ⟨rfl, hbz⟩)
              go_wp2_with fail
              refine hK.out _ _ ⟨cell_bel hHeld.1 hbz, cell_bel hHeld.2.1 hbz, cell_bel hHeld.2.2.1 hbz, bel_tr hHeld.2.2.2 hbz⟩ (fun hHeld => ?_)
              clear hK K
              (try simp only [Act.put, List.setIfInBounds_toArray, List.set_cons_zero, List.set_cons_succ])
              refine take_h 5 ⟨?_, ?_, ?_, by kernel_rfl, by kernel_rfl, by kernel_rfl, ?_, ?_, by assumption, ?_⟩
              rotate_left 2
              · (simp only [List.getElem?_toArray, List.getElem?_cons_succ, List.getElem?_cons_zero]; exact rfl)
              · exact fun _ _ _ h => h
              · first
                  | (refine Or.inr ⟨by rfl, ?_⟩; exact rfl)
                  | (refine Or.inl ⟨by rfl, ?_⟩
                     intro w hSw
                     (try dsimp only at hSw)
                     (try go_split_ands)
                     go_simp
                     (first | done | with_reducible rfl))
              try simp only [Act.put, List.setIfInBounds_toArray, List.set_cons_zero, List.set_cons_succ]
              refine take_h 6 ⟨?_, ?_, ?_, by kernel_rfl, by kernel_rfl, by kernel_rfl, ?_, ?_, by assumption, ?_⟩
              rotate_left 2
              · (simp only [List.getElem?_toArray, List.getElem?_cons_succ, List.getElem?_cons_zero]; exact rfl)
              · exact fun _ _ _ h => h
              · first
                  | (refine Or.inr ⟨by rfl, ?_⟩; exact rfl)
                  | (refine Or.inl ⟨by rfl, ?_⟩
                     intro w hSw
                     (try dsimp only at hSw)
                     (try go_split_ands)
                     go_simp
                     (first | done | with_reducible rfl))
              try simp only [Act.put, List.setIfInBounds_toArray, List.set_cons_zero, List.set_cons_succ]
              refine take_h 7 ⟨?_, ?_, ?_, by kernel_rfl, by kernel_rfl, by kernel_rfl, ?_, ?_, by assumption, ?_⟩
              rotate_left 2
              · (simp only [List.getElem?_toArray, List.getElem?_cons_succ, List.getElem?_cons_zero]; exact rfl)
              · exact fun _ _ _ h => h
              · first
                  | (refine Or.inr ⟨by rfl, ?_⟩; exact rfl)
                  | (refine Or.inl ⟨by rfl, ?_⟩
                     intro w hSw
                     (try dsimp only at hSw)
                     (try go_split_ands)
                     go_simp
                     (first | done | with_reducible rfl))
              try simp only [Act.put, List.setIfInBounds_toArray, List.set_cons_zero, List.set_cons_succ]
              refine take_h 8 ⟨?_, ?_, ?_, by kernel_rfl, by kernel_rfl, by kernel_rfl, ?_, ?_, by assumption, ?_⟩
              rotate_left 2
              · (simp only [List.getElem?_toArray, List.getElem?_cons_succ, List.getElem?_cons_zero]; exact rfl)
              · exact fun _ _ _ h => h
              · first
                  | (refine Or.inr ⟨by rfl, ?_⟩; exact rfl)
                  | (refine Or.inl ⟨by rfl, ?_⟩
                     intro w hSw
                     (try dsimp only at hSw)
                     (try go_split_ands)
                     go_simp
                     (first | done | with_reducible rfl))
              try simp only [Act.put, List.setIfInBounds_toArray, List.set_cons_zero, List.set_cons_succ]
              refine take_h 9 ⟨?_, ?_, ?_, by kernel_rfl, by kernel_rfl, by kernel_rfl, ?_, ?_, by assumption, ?_⟩
              rotate_left 2
              · (simp only [List.getElem?_toArray, List.getElem?_cons_succ, List.getElem?_cons_zero]; exact rfl)
              · exact fun _ _ _ h => h
              · first
                  | (refine Or.inr ⟨by rfl, ?_⟩; exact rfl)
                  | (refine Or.inl ⟨by rfl, ?_⟩
                     intro w hSw
                     (try dsimp only at hSw)
                     (try go_split_ands)
                     go_simp
                     (first | done | with_reducible rfl))
              try simp only [Act.put, List.setIfInBounds_toArray, List.set_cons_zero, List.set_cons_succ]
              refine take_h 10 ⟨?_, ?_, ?_, by kernel_rfl, by kernel_rfl, by kernel_rfl, ?_, ?_, by assumption, ?_⟩
              rotate_left 2
              · (simp only [List.getElem?_toArray, List.getElem?_cons_succ, List.getElem?_cons_zero]; exact rfl)
              · exact fun _ _ _ h => h
              · first
                  | (refine Or.inr ⟨by rfl, ?_⟩; exact rfl)
                  | (refine Or.inl ⟨by rfl, ?_⟩
                     intro w hSw
                     (try dsimp only at hSw)
                     (try go_split_ands)
                     go_simp
                     (first | done | with_reducible rfl))
              try simp only [Act.put, List.setIfInBounds_toArray, List.set_cons_zero, List.set_cons_succ]
              refine take_h 11 ⟨?_, ?_, ?_, by kernel_rfl, by kernel_rfl, by kernel_rfl, ?_, ?_, by assumption, ?_⟩
              rotate_left 2
              · (simp only [List.getElem?_toArray, List.getElem?_cons_succ, List.getElem?_cons_zero]; exact rfl)
              · exact fun _ _ _ h => h
              · first
                  | (refine Or.inr ⟨by rfl, ?_⟩; exact rfl)
                  | (refine Or.inl ⟨by rfl, ?_⟩
                     intro w hSw
                     (try dsimp only at hSw)
                     (try go_split_ands)
                     go_simp
                     (first | done | with_reducible rfl))
              try simp only [Act.put, List.setIfInBounds_toArray, List.set_cons_zero, List.set_cons_succ]
              refine take_h 12 ⟨?_, ?_, ?_, by kernel_rfl, by kernel_rfl, by kernel_rfl, ?_, ?_, by assumption, ?_⟩
              rotate_left 2
              · (simp only [List.getElem?_toArray, List.getElem?_cons_succ, List.getElem?_cons_zero]; exact rfl)
              · exact fun _ _ _ h => h
              · first
                  | (refine Or.inr ⟨by rfl, ?_⟩; exact rfl)
                  | (refine Or.inl ⟨by rfl, ?_⟩
                     intro w hSw
                     (try dsimp only at hSw)
                     (try go_split_ands)
                     go_simp
                     (first | done | with_reducible rfl))
              try simp only [Act.put, List.setIfInBounds_toArray, List.set_cons_zero, List.set_cons_succ]
              refine take_h 13 ⟨?_, ?_, ?_, by kernel_rfl, by kernel_rfl, by kernel_rfl, ?_, ?_, by assumption, ?_⟩
              rotate_left 2
              · (simp only [List.getElem?_toArray, List.getElem?_cons_succ, List.getElem?_cons_zero]; exact rfl)
              · exact fun _ _ _ h => h
              · first
                  | (refine Or.inr ⟨by rfl, ?_⟩; exact rfl)
                  | (refine Or.inl ⟨by rfl, ?_⟩
                     intro w hSw
                     (try dsimp only at hSw)
                     (try go_split_ands)
                     go_simp
                     (first | done | with_reducible rfl))
              try simp only [Act.put, List.setIfInBounds_toArray, List.set_cons_zero, List.set_cons_succ]
              refine take_h 14 ⟨?_, ?_, ?_, by kernel_rfl, by kernel_rfl, by kernel_rfl, ?_, ?_, by assumption, ?_⟩
              rotate_left 2
              · (simp only [List.getElem?_toArray, List.getElem?_cons_succ, List.getElem?_cons_zero]; exact rfl)
              · exact fun _ _ _ h => h
              · first
                  | (refine Or.inr ⟨by rfl, ?_⟩; exact rfl)
                  | (refine Or.inl ⟨by rfl, ?_⟩
                     intro w hSw
                     (try dsimp only at hSw)
                     (try go_split_ands)
                     go_simp
                     (first | done | with_reducible rfl))
              try simp only [Act.put, List.setIfInBounds_toArray, List.set_cons_zero, List.set_cons_succ]
              refine take_h 15 ⟨?_, ?_, ?_, by kernel_rfl, by kernel_rfl, by kernel_rfl, ?_, ?_, by assumption, ?_⟩
              rotate_left 2
              · (simp only [List.getElem?_toArray, List.getElem?_cons_succ, List.getElem?_cons_zero]; exact rfl)
              · exact fun _ _ _ h => h
              · first
                  | (refine Or.inr ⟨by rfl, ?_⟩; exact rfl)
                  | (refine Or.inl ⟨by rfl, ?_⟩
                     intro w hSw
                     (try dsimp only at hSw)
                     (try go_split_ands)
                     go_simp
                     (first | done | with_reducible rfl))
              try simp only [Act.put, List.setIfInBounds_toArray, List.set_cons_zero, List.set_cons_succ]
              refine take_h 16 ⟨?_, ?_, ?_, by kernel_rfl, by kernel_rfl, by kernel_rfl, ?_, ?_, by assumption, ?_⟩
              rotate_left 2
              · (simp only [List.getElem?_toArray, List.getElem?_cons_succ, List.getElem?_cons_zero]; exact rfl)
              · exact fun _ _ _ h => h
              · first
                  | (refine Or.inr ⟨by rfl, ?_⟩; exact rfl)
                  | (refine Or.inl ⟨by rfl, ?_⟩
                     intro w hSw
                     (try dsimp only at hSw)
                     (try go_split_ands)
                     go_simp
                     (first | done | with_reducible rfl))
              try simp only [Act.put, List.setIfInBounds_toArray, List.set_cons_zero, List.set_cons_succ]
              refine take_h 17 ⟨?_, ?_, ?_, by kernel_rfl, by kernel_rfl, by kernel_rfl, ?_, ?_, by assumption, ?_⟩
              rotate_left 2
              · (simp only [List.getElem?_toArray, List.getElem?_cons_succ, List.getElem?_cons_zero]; exact rfl)
              · exact fun _ _ _ h => h
              · first
                  | (refine Or.inr ⟨by rfl, ?_⟩; exact rfl)
                  | (refine Or.inl ⟨by rfl, ?_⟩
                     intro w hSw
                     (try dsimp only at hSw)
                     (try go_split_ands)
                     go_simp
                     (first | done | with_reducible rfl))
              try simp only [Act.put, List.setIfInBounds_toArray, List.set_cons_zero, List.set_cons_succ]
              refine take_h 18 ⟨?_, ?_, ?_, by kernel_rfl, by kernel_rfl, by kernel_rfl, ?_, ?_, by assumption, ?_⟩
              rotate_left 2
              · (simp only [List.getElem?_toArray, List.getElem?_cons_succ, List.getElem?_cons_zero]; exact rfl)
              · exact fun _ _ _ h => h
              · first
                  | (refine Or.inr ⟨by rfl, ?_⟩; exact rfl)
                  | (refine Or.inl ⟨by rfl, ?_⟩
                     intro w hSw
                     (try dsimp only at hSw)
                     (try go_split_ands)
                     go_simp
                     (first | done | with_reducible rfl))
              try simp only [Act.put, List.setIfInBounds_toArray, List.set_cons_zero, List.set_cons_succ]
              refine take_h 19 ⟨?_, ?_, ?_, by kernel_rfl, by kernel_rfl, by kernel_rfl, ?_, ?_, by assumption, ?_⟩
              rotate_left 2
              · (simp only [List.getElem?_toArray, List.getElem?_cons_succ, List.getElem?_cons_zero]; exact rfl)
              · exact fun _ _ _ h => h
              · first
                  | (refine Or.inr ⟨by rfl, ?_⟩; exact rfl)
                  | (refine Or.inl ⟨by rfl, ?_⟩
                     intro w hSw
                     (try dsimp only at hSw)
                     (try go_split_ands)
                     go_simp
                     (first | done | with_reducible rfl))
              try simp only [Act.put, List.setIfInBounds_toArray, List.set_cons_zero, List.set_cons_succ]
              refine take_h 20 ⟨?_, ?_, ?_, by kernel_rfl, by kernel_rfl, by kernel_rfl, ?_, ?_, by assumption, ?_⟩
              rotate_left 2
              · (simp only [List.getElem?_toArray, List.getElem?_cons_succ, List.getElem?_cons_zero]; exact rfl)
              · exact fun _ _ _ h => h
              · first
                  | (refine Or.inr ⟨by rfl, ?_⟩; exact rfl)
                  | (refine Or.inl ⟨by rfl, ?_⟩
                     intro w hSw
                     (try dsimp only at hSw)
                     (try go_split_ands)
                     go_simp
                     (first | done | with_reducible rfl))
              try simp only [Act.put, List.setIfInBounds_toArray, List.set_cons_zero, List.set_cons_succ]
              refine take_h 21 ⟨?_, ?_, ?_, by kernel_rfl, by kernel_rfl, by kernel_rfl, ?_, ?_, by assumption, ?_⟩
              rotate_left 2
              · (simp only [List.getElem?_toArray, List.getElem?_cons_succ, List.getElem?_cons_zero]; exact rfl)
              · exact fun _ _ _ h => h
              · first
                  | (refine Or.inr ⟨by rfl, ?_⟩; exact rfl)
                  | (refine Or.inl ⟨by rfl, ?_⟩
                     intro w hSw
                     (try dsimp only at hSw)
                     (try go_split_ands)
                     go_simp
                     (first | done | with_reducible rfl))
              try simp only [Act.put, List.setIfInBounds_toArray, List.set_cons_zero, List.set_cons_succ]
              refine take_h 22 ⟨?_, ?_, ?_, by kernel_rfl, by kernel_rfl, by kernel_rfl, ?_, ?_, by assumption, ?_⟩
              rotate_left 2
              · (simp only [List.getElem?_toArray, List.getElem?_cons_succ, List.getElem?_cons_zero]; exact rfl)
              · exact fun _ _ _ h => h
              · first
                  | (refine Or.inr ⟨by rfl, ?_⟩; exact rfl)
                  | (refine Or.inl ⟨by rfl, ?_⟩
                     intro w hSw
                     (try dsimp only at hSw)
                     (try go_split_ands)
                     go_simp
                     (first | done | with_reducible rfl))
              try simp only [Act.put, List.setIfInBounds_toArray, List.set_cons_zero, List.set_cons_succ]
              refine take_h 23 ⟨?_, ?_, ?_, by kernel_rfl, by kernel_rfl, by kernel_rfl, ?_, ?_, by assumption, ?_⟩
              rotate_left 2
              · (simp only [List.getElem?_toArray, List.getElem?_cons_succ, List.getElem?_cons_zero]; exact rfl)
              · exact fun _ _ _ h => h
              · first
                  | (refine Or.inr ⟨by rfl, ?_⟩; exact rfl)
                  | (refine Or.inl ⟨by rfl, ?_⟩
                     intro w hSw
                     (try dsimp only at hSw)
                     (try go_split_ands)
                     go_simp
                     (first | done | with_reducible rfl))
              try simp only [Act.put, List.setIfInBounds_toArray, List.set_cons_zero, List.set_cons_succ]
              refine wpAnyH_done (by kernel_rfl) ?_ _
              go_wp2
              go_roundw
              case rel => exact ⟨i + 1, by omega, by go_num, HS1, hHeld.2.2.2⟩
              case measure => simp [intOf]; omega
      · have : i = L.length := by omega
        subst this
        have HQ : Hid (subsB L = true) := Lib.hid (by rw [HT.out, allW_good HP.out])
        go_wp2
        go_ret
        exact ⟨by rw [HQ.out]; rfl, hb⟩
  · have h16z : (16 : Int) < (L.length : Int) := by omega
    have HT : Hid (subsB L = false) := Lib.hid (by unfold subsB; simp [h16])
    clear h16
    go_enter Tryd.func21, Tryd.ntmps21
    go_wp2
    go_ret
    exact ⟨by rw [HT.out]; rfl, Below.refl _ _⟩

/-- The greatest quality of those that match, from what was found so far. -/
def bestFrom (t : ByteArray) : Int → List Wish1 → Int
  | q, [] => q
  | q, x :: r => bestFrom t (if fitB x.f t then max q x.q else q) r
theorem bestFrom_drop (t : ByteArray) (q : Int) {L : List Wish1} {i : Nat} {x : Wish1} (h : L[i]? = some x) : bestFrom t q (L.drop i) = bestFrom t (if fitB x.f t then max q x.q else q) (L.drop (i + 1)) := by
  obtain ⟨hi, rfl⟩ := List.getElem?_eq_some_iff.1 h
  rw [List.drop_eq_getElem_cons hi]; rfl

set_option maxHeartbeats 2000000 in
theorem pBest_any (w : World) (v : Value) (L : List Wish1) (t : ByteArray) (h : Rd w w.heap.size 2 v L.length (wCells L)) (hs : Short L) (ht : t.size ≤ 100000) (ht1 : 1 ≤ t.size) (hE : Env w)
    (hq : ∀ (i : Nat) (x : Wish1), L[i]? = some x → -1 ≤ x.q ∧ x.q ≤ 9223372036854775807) :
    Calls Tryd.prog 56 #[v, .string t] w fun e w' => e = .returned (.int .i64 (bestFrom t (-1) L)) ∧ Below w.heap.size w w' := by
  obtain ⟨ao, cap, rfl, hc, hm⟩ := h.form
  have hc2 : cap ≤ 9223372036854775807 := by unfold maxLen at hm; omega
  have H := Lib.hid h
  have HS := Lib.hid hs
  have HQ := Lib.hid hq
  clear h hm hs hq
  go_enter Tryd.func56, Tryd.ntmps56
  go_wp2
  go_loopw [5, 10] (fun q i wr => ∃ (k : Nat) (z : Int), k ≤ L.length ∧ i = .int .i64 k ∧ q = .int .i64 z ∧ -1 ≤ z ∧ z ≤ 9223372036854775807 ∧ Hid (bestFrom t (-1) L = bestFrom t z (L.drop k)) ∧ Below w.heap.size w wr) (fun _ i _ => L.length - (intOf i).toNat)
  case atStart => exact ⟨0, -1, by omega, rfl, rfl, by omega, by omega, Lib.hid (by simp), Below.refl _ _⟩
  case round =>
    obtain ⟨i, z, hi, rfl, rfl, hz1, hz2, HB, hb⟩ := hrel
    by_cases hlt : i < L.length
    · obtain ⟨x, hx⟩ : ∃ x, L[i]? = some x := ⟨_, List.getElem?_eq_getElem hlt⟩
      obtain ⟨b, o, rfl, hbl, c0, c1⟩ := wish_cell (H.out.below hb) rfl hx
      have hsx := HS.out i x hx
      obtain ⟨hxq, hxq2⟩ := HQ.out i x hx
      have HD := Lib.hid (bestFrom_drop t z hx)
      have hbs := hb.size
      clear hx
      obtain ⟨xf, xq⟩ := x
      simp only at c0 c1 hsx hxq hxq2
      go_wp2_with fail
      refine (Fits_any _ _ _ hsx ht ht1 (hE.below (hb.alloc hbs _))).mono ?_
      rintro e w1 ⟨rfl, hb1⟩
      have hbb := bel_tr (hb.alloc hbs _) hb1
      cases hf : fitB xf t
      · have HD2 : Hid (bestFrom t (-1) L = bestFrom t z (L.drop (i + 1))) := Lib.hid (by rw [HB.out, HD.out, hf]; rfl)
        clear hf
        go_wp2
        go_roundw
        case rel => exact ⟨i + 1, z, by omega, by go_num, rfl, by omega, by omega, HD2, hbb⟩
        case measure => simp [intOf]; omega
      · have HD2 : Hid (bestFrom t (-1) L = bestFrom t (max z xq) (L.drop (i + 1))) := Lib.hid (by rw [HB.out, HD.out, hf]; rfl)
        have d1 : w1.cell? ⟨wr.heap.size, 1, none⟩ = some (.int .i64 xq) := cell_bel (by simp) hb1
        have hmx1 : -1 ≤ max z xq := by omega
        have hmx2 : max z xq ≤ 9223372036854775807 := by omega
        clear hf
        go_wp2
        go_roundw
        case rel => exact ⟨i + 1, max z xq, by omega, by go_num, rfl, hmx1, hmx2, HD2, hbb⟩
        case measure => simp [intOf]; omega
    · have : i = L.length := by omega
      subst this
      go_wp2
      go_ret
      exact ⟨by rw [HB.out, List.drop_length]; rfl, hb⟩

theorem bestFrom_ge (t : ByteArray) : ∀ (L : List Wish1) (q : Int), q ≤ bestFrom t q L := by
  intro L
  induction L with
  | nil => intro q; exact Int.le_refl _
  | cons x r ih =>
    intro q
    have e : bestFrom t q (x :: r) = bestFrom t (if fitB x.f t then max q x.q else q) r := rfl
    rw [e]
    refine Int.le_trans ?_ (ih _)
    split <;> omega

/-- What subs.Match answers. -/
def qRes (L : List Wish1) (t : ByteArray) : Value :=
  if subsB L && nm t then (if bestFrom t (-1) L < 0 then .tuple #[.int .i64 0, .int .i64 3] else .tuple #[.int .i64 (bestFrom t (-1) L), .int .i64 0]) else .tuple #[.int .i64 0, .int .i64 1]

theorem subsB_q {L : List Wish1} (h : subsB L = true) : ∀ (i : Nat) (x : Wish1), L[i]? = some x → mayW x = true := by
  unfold subsB allW at h
  rw [Bool.and_eq_true, List.all_eq_true] at h
  intro i x hx
  have := h.2 i (List.mem_range.2 (List.getElem?_eq_some_iff.1 hx).1)
  rw [hx] at this
  simp only [wOk, Bool.and_eq_true] at this
  exact this.1
theorem mayW_q {x : Wish1} (h : mayW x = true) : 0 ≤ x.q ∧ x.q ≤ 2 := by
  unfold mayW at h
  simp only [Bool.and_eq_true, decide_eq_true_eq] at h
  exact h.2

set_option maxHeartbeats 1000000 in
theorem sMatch_any (w : World) (v : Value) (L : List Wish1) (t : ByteArray) (h : Rd w w.heap.size 2 v L.length (wCells L)) (hs : Short L) (ht : t.size ≤ 100000) (hE : Env w) :
    Calls Tryd.prog 22 #[v, .string t] w fun e w' => e = .returned (qRes L t) ∧ Below w.heap.size w w' := by
  have H := Lib.hid h
  clear h
  cases h1 : subsB L
  · have HT : Hid (qRes L t = .tuple #[.int .i64 0, .int .i64 1]) := Lib.hid (by unfold qRes; rw [h1]; rfl)
    have H1 := Lib.hid h1
    clear h1
    go_enter Tryd.func22, Tryd.ntmps22
    go_wp2_with (go_at_call 55; refine (pMay_any _ _ L H.out hs hE).mono ?_; rintro e w' ⟨rfl, hb⟩; rw [H1.out])
    go_ret2
    exact ⟨by rw [HT.out]; rfl, hb⟩
  · have H1 := Lib.hid h1
    cases h2 : nm t
    · have HT : Hid (qRes L t = .tuple #[.int .i64 0, .int .i64 1]) := Lib.hid (by unfold qRes; rw [h1, h2]; rfl)
      have H2 := Lib.hid h2
      clear h1 h2
      go_enter Tryd.func22, Tryd.ntmps22
      go_wp2_with fail
      refine (pMay_any _ _ L H.out hs hE).mono ?_
      rintro e w1 ⟨rfl, hb1⟩
      rw [H1.out]
      go_wp2_with (go_at_call 53; refine (IsName_any _ t (by omega) (hE.below hb1)).mono ?_; rintro e w' ⟨rfl, hb⟩; rw [H2.out])
      go_ret2
      exact ⟨by rw [HT.out]; rfl, bel_tr hb1 hb⟩
    · have H2 := Lib.hid h2
      have hlt := (nm_len h2).1
      have hmq : ∀ (i : Nat) (x : Wish1), L[i]? = some x → -1 ≤ x.q ∧ x.q ≤ 9223372036854775807 := fun i x hx => by
        have := mayW_q (subsB_q h1 i x hx)
        omega
      have HMQ := Lib.hid hmq
      obtain ⟨B, hB⟩ : ∃ B, B = bestFrom t (-1) L := ⟨_, rfl⟩
      have HT : Hid (qRes L t = if B < 0 then .tuple #[.int .i64 0, .int .i64 3] else .tuple #[.int .i64 B, .int .i64 0]) := Lib.hid (by unfold qRes; rw [h1, h2, hB]; rfl)
      have HB := Lib.hid hB
      clear h1 h2 hmq hB
      by_cases hlo : B < 0
      · have HT2 : Hid (qRes L t = .tuple #[.int .i64 0, .int .i64 3]) := Lib.hid (by rw [HT.out, if_pos hlo])
        go_enter Tryd.func22, Tryd.ntmps22
        go_wp2_with fail
        refine (pMay_any _ _ L H.out hs hE).mono ?_
        rintro e w1 ⟨rfl, hb1⟩
        rw [H1.out]
        go_wp2_with fail
        refine (IsName_any _ t (by omega) (hE.below hb1)).mono ?_
        rintro e w2 ⟨rfl, hb2⟩
        rw [H2.out]
        have hbb2 := bel_tr hb1 hb2
        go_wp2_with fail
        refine (pBest_any _ _ L t ((H.out.below hbb2).more hbb2.size) hs ht hlt (hE.below hbb2) HMQ.out).mono ?_
        rintro e w3 ⟨rfl, hb3⟩
        rw [← HB.out]
        go_wp2
        go_ret2
        exact ⟨by rw [HT2.out]; rfl, bel_tr hbb2 hb3⟩
      · have HT2 : Hid (qRes L t = .tuple #[.int .i64 B, .int .i64 0]) := Lib.hid (by rw [HT.out, if_neg hlo])
        have hlo2 : 0 ≤ B := by omega
        go_enter Tryd.func22, Tryd.ntmps22
        go_wp2_with fail
        refine (pMay_any _ _ L H.out hs hE).mono ?_
        rintro e w1 ⟨rfl, hb1⟩
        rw [H1.out]
        go_wp2_with fail
        refine (IsName_any _ t (by omega) (hE.below hb1)).mono ?_
        rintro e w2 ⟨rfl, hb2⟩
        rw [H2.out]
        have hbb2 := bel_tr hb1 hb2
        go_wp2_with fail
        refine (pBest_any _ _ L t ((H.out.below hbb2).more hbb2.size) hs ht hlt (hE.below hbb2) HMQ.out).mono ?_
        rintro e w3 ⟨rfl, hb3⟩
        rw [← HB.out]
        go_wp2
        go_ret2
        exact ⟨by rw [HT2.out]; rfl, bel_tr hbb2 hb3⟩
end Go.Proofs.YtimjbojoeacaeaaDoor
