/- Law 6: Disk, num, EqStrings. Law 6: wakes. -/


import Derived.Test.YtcgdlmlolmfinaaLkOps
import Derived.Test.YtcgdlmlolmfinaaDkNew
namespace Go.Proofs.Ytcgdlmlolmfinaa
section
open Go.RowKit
set_option maxRecDepth 20000 in
theorem knum (w : World) (z : Int) : Calls Try.prog 8 #[.int .i64 z] w fun e w' => e = .returned (.int .i64 z) ∧ w = w' := by
  go_enter Try.func8, Try.ntmps8
  go_wp2
  go_ret
  exact ⟨rfl, rfl⟩
set_option maxRecDepth 20000 in
set_option maxHeartbeats 2000000 in
theorem kdisk (w : World) : Calls Try.prog 7 #[] w fun e w' => ∃ R F, e = .returned (.pointer (some ⟨R, 0, none⟩)) ∧ DkG w' (w.heap.size + 1) R F (newS noughts) ∧ Left [] w w' := by
  have hmk := run_make_row' (P := Try.prog) 33 5 (.int .u8 0) 1 Try.underlying33 info_u8 rfl .i64 .i64 262144 (by omega) (by omega)
  rw [made_u8L] at hmk
  simp only [show (((262144 : Nat) : Nat) : Int) = 262144 from rfl] at hmk
  rw [show List.replicate 262144 (0 : UInt8) = noughts from rfl] at hmk
  obtain ⟨NL, hNL⟩ : ∃ NL, NL = noughts := ⟨_, rfl⟩
  have hlen : NL.length = 262144 := by rw [hNL]; exact noughts_len
  rw [← hNL] at hmk ⊢
  clear hNL
  obtain ⟨Z, hZ⟩ : ∃ Z, Z = u8s NL := ⟨_, rfl⟩
  rw [← hZ] at hmk
  obtain ⟨w1, hw1⟩ : ∃ w1, w1 = w.alloc (.cells Z.toArray 5) := ⟨_, rfl⟩
  have hs1 : w1.heap.size = w.heap.size + 1 := by rw [hw1]; simp
  have hW : Whole w1 w.heap.size 5 (u8s NL) := by rw [hw1, hZ]; exact Whole.new w 5 _
  have hrd := Rd.of_whole hW (by unfold maxLen u8s; rw [List.length_map, hlen]; omega)
  have hul : (u8s NL).length = 262144 := by unfold u8s; rw [List.length_map, hlen]
  rw [hul] at hrd
  have hNW := New_g w1 (bv := .slice (some ⟨w.heap.size, 0, none⟩) 262144 262144) (B := NL) (by rw [hlen]; exact hrd) (by omega)
  have hm : mayD NL.length := by unfold mayD; omega
  unfold NewP at hNW
  simp only [if_pos hm] at hNW
  have HN := Lib.hid hNW
  have HL : Hid (Left [] w w1 ∧ w1.heap.size = w.heap.size + 1) := Lib.hid ⟨by rw [hw1]; exact (Left.refl _ _).alloc _, hs1⟩
  have hch := hw1.symm
  have HZ := Lib.hid hZ
  clear hNW hm hul hrd hW hs1 hw1 hlen hZ
  go_enter Try.func7, Try.ntmps7
  go_wp2_with fail
  refine HN.out.mono ?_
  rintro e w2 ⟨R, F, rfl, hd, hl⟩
  have HD : Hid (DkG w2 (w.heap.size + 1) R F (newS NL) ∧ Left [] w w2) := Lib.hid ⟨by rw [← HL.out.2]; exact hd, HL.out.1.trans hl (by simp)⟩
  clear hd hl hch
  go_wp2_with (go_at_call 8; refine (knum _ _).mono ?_; rintro e w' ⟨rfl, rfl⟩)
  go_ret
  exact ⟨R, F, rfl, HD.out⟩
set_option maxRecDepth 20000 in
set_option maxHeartbeats 2000000 in
theorem keqs (w : World) (va vb : Value) (a b : List (List UInt8)) (Ba Bb : Nat) (ha : Rd w Ba 1 va a.length (a.map strL)) (hb : Rd w Bb 1 vb b.length (b.map strL)) :
    Calls Try.prog 12 #[va, vb] w fun e w' => e = .returned (.bool (decide (a = b))) ∧ ∃ nd, w' = w.drewN nd := by
  obtain ⟨ao, ac, rfl, _, ham⟩ := ha.form
  obtain ⟨bo, bc, rfl, _, hbm⟩ := hb.form
  have ha63 : a.length ≤ 9223372036854775807 := by unfold maxLen at ham; omega
  have hb63 : b.length ≤ 9223372036854775807 := by unfold maxLen at hbm; omega
  have HA := Lib.hid ha
  have HB := Lib.hid hb
  clear ha hb ham hbm
  by_cases hn : a.length = b.length
  · have hn' : ((a.length : Int) != (b.length : Int)) = false := by rw [hn]; simp
    have HN := Lib.hid hn
    clear hn
    go_enter Try.func12, Try.ntmps12
    go_wp2
    go_loopw [5] (fun i wr => ∃ k : Nat, i = .int .i64 k ∧ k ≤ a.length ∧ Hid (a.take k = b.take k) ∧ ∃ nd, wr = w.drewN nd) (fun i _ => a.length + 1 - (intOf i).toNat)
    case atStart => exact ⟨0, rfl, by omega, Lib.hid (by simp), 0, rfl⟩
    case round =>
      obtain ⟨k, rfl, hk, HT, nd, rfl⟩ := hrel
      by_cases hlt : k < a.length
      · have hlt' : (k : Int) < (a.length : Int) := by omega
        have hltb : (k : Int) < (b.length : Int) := by have := HN.out; omega
        obtain ⟨x, hx⟩ : ∃ x, a[k]? = some x := ⟨_, List.getElem?_eq_getElem hlt⟩
        obtain ⟨y, hy⟩ : ∃ y, b[k]? = some y := ⟨_, List.getElem?_eq_getElem (by have := HN.out; omega)⟩
        obtain ⟨g1, o1, q1, e1, _, c1⟩ := rd_strs HA.out hx hlt
        injection e1 with e1a _ e1b
        subst e1a e1b
        obtain ⟨g2, o2, q2, e2, _, c2⟩ := rd_strs HB.out hy (by have := HN.out; omega)
        injection e2 with e2a _ e2b
        subst e2a e2b
        have hb1 := hlt
        have hb2 : k < b.length := by have := HN.out; omega
        have HX := Lib.hid (And.intro hx hy)
        clear hx hy
        by_cases hxy : x = y
        · have hsn : (x == y) = true := beq_iff_eq.2 hxy
          have HT2 : Hid (a.take (k + 1) = b.take (k + 1)) := Lib.hid (by
            rw [List.take_add_one, List.take_add_one, HX.out.1, HX.out.2, HT.out, hxy])
          clear hxy
          go_wp2
          refine wp_region_held_drew (S := fun wx => wx.cell? ⟨g1, o1 + k, none⟩ = some (.string ⟨x.toArray⟩) ∧ wx.cell? ⟨g2, o2 + k, none⟩ = some (.string ⟨y.toArray⟩) ∧ ∃ nd, wx = w.drewN nd) (by kernel_rfl) ⟨c1, c2, nd + 1, rfl⟩ (fun hHeld => ?_)
          refine take_h 0 ⟨?_, ?_, ?_, by kernel_rfl, by kernel_rfl, by kernel_rfl, ?_, ?_, by assumption, ?_⟩
          rotate_left 2
          · (simp only [List.getElem?_toArray, List.getElem?_cons_zero]; exact rfl)
          · exact fun _ _ _ h => h
          · first
              | (refine Or.inr ⟨by rfl, ?_⟩; exact rfl)
              | (refine Or.inl ⟨by rfl, ?_⟩
                 intro w hSw
                 (try dsimp only at hSw)
                 (try go_split_ands)
                 go_simp
                 (first | done | with_reducible rfl))
          try simp only [Act.put, List.setIfInBounds_toArray, List.set_cons_zero, List.set_cons_succ]
          refine take_h 1 ⟨?_, ?_, ?_, by kernel_rfl, by kernel_rfl, by kernel_rfl, ?_, ?_, by assumption, ?_⟩
          rotate_left 2
          · (simp only [List.getElem?_toArray, List.getElem?_cons_succ, List.getElem?_cons_zero]; exact rfl)
          · exact fun _ _ _ h => h
          · first
              | (refine Or.inr ⟨by rfl, ?_⟩; exact rfl)
              | (refine Or.inl ⟨by rfl, ?_⟩
                 intro w hSw
                 (try dsimp only at hSw)
                 (try go_split_ands)
                 go_simp
                 (first | done | with_reducible rfl))
          try simp only [Act.put, List.setIfInBounds_toArray, List.set_cons_zero, List.set_cons_succ]
          refine take_h 2 ⟨?_, ?_, ?_, by kernel_rfl, by kernel_rfl, by kernel_rfl, ?_, ?_, by assumption, ?_⟩
          rotate_left 2
          · (simp only [List.getElem?_toArray, List.getElem?_cons_succ, List.getElem?_cons_zero]; exact rfl)
          · exact fun _ _ _ h => h
          · first
              | (refine Or.inr ⟨by rfl, ?_⟩; exact rfl)
              | (refine Or.inl ⟨by rfl, ?_⟩
                 intro w hSw
                 (try dsimp only at hSw)
                 (try go_split_ands)
                 go_simp
                 (first | done | with_reducible rfl))
          try simp only [Act.put, List.setIfInBounds_toArray, List.set_cons_zero, List.set_cons_succ]
          refine take_h 3 ⟨?_, ?_, ?_, by kernel_rfl, by kernel_rfl, by kernel_rfl, ?_, ?_, by assumption, ?_⟩
          rotate_left 2
          · (simp only [List.getElem?_toArray, List.getElem?_cons_succ, List.getElem?_cons_zero]; exact rfl)
          · exact fun _ _ _ h => h
          · first
              | (refine Or.inr ⟨by rfl, ?_⟩; exact rfl)
              | (refine Or.inl ⟨by rfl, ?_⟩
                 intro w hSw
                 (try dsimp only at hSw)
                 (try go_split_ands)
                 go_simp
                 (first | done | with_reducible rfl))
          try simp only [Act.put, List.setIfInBounds_toArray, List.set_cons_zero, List.set_cons_succ]
          refine take_h 4 ⟨?_, ?_, ?_, by kernel_rfl, by kernel_rfl, by kernel_rfl, ?_, ?_, by assumption, ?_⟩
          rotate_left 2
          · (simp only [List.getElem?_toArray, List.getElem?_cons_succ, List.getElem?_cons_zero]; exact rfl)
          · exact fun _ _ _ h => h
          · first
              | (refine Or.inr ⟨by rfl, ?_⟩; exact rfl)
              | (refine Or.inl ⟨by rfl, ?_⟩
                 intro w hSw
                 (try dsimp only at hSw)
                 (try go_split_ands)
                 go_simp
                 (first | done | with_reducible rfl))
          try simp only [Act.put, List.setIfInBounds_toArray, List.set_cons_zero, List.set_cons_succ]
          refine take_h 5 ⟨?_, ?_, ?_, by kernel_rfl, by kernel_rfl, by kernel_rfl, ?_, ?_, by assumption, ?_⟩
          rotate_left 2
          · (simp only [List.getElem?_toArray, List.getElem?_cons_succ, List.getElem?_cons_zero]; exact rfl)
          · exact fun _ _ _ h => h
          · first
              | (refine Or.inr ⟨by rfl, ?_⟩; exact rfl)
              | (refine Or.inl ⟨by rfl, ?_⟩
                 intro w hSw
                 (try dsimp only at hSw)
                 (try go_split_ands)
                 go_simp
                 (first | done | with_reducible rfl))
          try simp only [Act.put, List.setIfInBounds_toArray, List.set_cons_zero, List.set_cons_succ]
          refine take_h 6 ⟨?_, ?_, ?_, by kernel_rfl, by kernel_rfl, by kernel_rfl, ?_, ?_, by assumption, ?_⟩
          rotate_left 2
          · (simp only [List.getElem?_toArray, List.getElem?_cons_succ, List.getElem?_cons_zero]; exact rfl)
          · exact fun _ _ _ h => h
          · first
              | (refine Or.inr ⟨by rfl, ?_⟩; exact rfl)
              | (refine Or.inl ⟨by rfl, ?_⟩
                 intro w hSw
                 (try dsimp only at hSw)
                 (try go_split_ands)
                 go_simp
                 (first | done | with_reducible rfl))
          try simp only [Act.put, List.setIfInBounds_toArray, List.set_cons_zero, List.set_cons_succ]
          refine take_h 7 ⟨?_, ?_, ?_, by kernel_rfl, by kernel_rfl, by kernel_rfl, ?_, ?_, by assumption, ?_⟩
          rotate_left 2
          · (simp only [List.getElem?_toArray, List.getElem?_cons_succ, List.getElem?_cons_zero]; exact rfl)
          · exact fun _ _ _ h => h
          · first
              | (refine Or.inr ⟨by rfl, ?_⟩; exact rfl)
              | (refine Or.inl ⟨by rfl, ?_⟩
                 intro w hSw
                 (try dsimp only at hSw)
                 (try go_split_ands)
                 go_simp
                 (first | done | with_reducible rfl))
          try simp only [Act.put, List.setIfInBounds_toArray, List.set_cons_zero, List.set_cons_succ]
          refine take_h 8 ⟨?_, ?_, ?_, by kernel_rfl, by kernel_rfl, by kernel_rfl, ?_, ?_, by assumption, ?_⟩
          rotate_left 2
          · (simp only [List.getElem?_toArray, List.getElem?_cons_succ, List.getElem?_cons_zero]; exact rfl)
          · exact fun _ _ _ h => h
          · first
              | (refine Or.inr ⟨by rfl, ?_⟩; exact rfl)
              | (refine Or.inl ⟨by rfl, ?_⟩
                 intro w hSw
                 (try dsimp only at hSw)
                 (try go_split_ands)
                 go_simp
                 (first | done | with_reducible rfl))
          try simp only [Act.put, List.setIfInBounds_toArray, List.set_cons_zero, List.set_cons_succ]
          refine wpAnyH_done (by kernel_rfl) ?_ _
          clear hHeld
          go_wp2
          exact ⟨⟨k + 1, by go_num, by omega, HT2, nd + 1, rfl⟩, by simp [intOf]; omega⟩
        · have hsn : (x == y) = false := beq_eq_false_iff_ne.2 hxy
          have HF : Hid (decide (a = b) = false) := Lib.hid (decide_eq_false (fun e => hxy (by
            have h1 := HX.out.1
            rw [e, HX.out.2] at h1
            injection h1 with h1
            exact h1.symm)))
          clear hxy
          go_wp2
          refine wp_region_held_drew (S := fun wx => wx.cell? ⟨g1, o1 + k, none⟩ = some (.string ⟨x.toArray⟩) ∧ wx.cell? ⟨g2, o2 + k, none⟩ = some (.string ⟨y.toArray⟩) ∧ ∃ nd, wx = w.drewN nd) (by kernel_rfl) ⟨c1, c2, nd + 1, rfl⟩ (fun hHeld => ?_)
          refine take_h 0 ⟨?_, ?_, ?_, by kernel_rfl, by kernel_rfl, by kernel_rfl, ?_, ?_, by assumption, ?_⟩
          rotate_left 2
          · (simp only [List.getElem?_toArray, List.getElem?_cons_zero]; exact rfl)
          · exact fun _ _ _ h => h
          · first
              | (refine Or.inr ⟨by rfl, ?_⟩; exact rfl)
              | (refine Or.inl ⟨by rfl, ?_⟩
                 intro w hSw
                 (try dsimp only at hSw)
                 (try go_split_ands)
                 go_simp
                 (first | done | with_reducible rfl))
          try simp only [Act.put, List.setIfInBounds_toArray, List.set_cons_zero, List.set_cons_succ]
          refine take_h 1 ⟨?_, ?_, ?_, by kernel_rfl, by kernel_rfl, by kernel_rfl, ?_, ?_, by assumption, ?_⟩
          rotate_left 2
          · (simp only [List.getElem?_toArray, List.getElem?_cons_succ, List.getElem?_cons_zero]; exact rfl)
          · exact fun _ _ _ h => h
          · first
              | (refine Or.inr ⟨by rfl, ?_⟩; exact rfl)
              | (refine Or.inl ⟨by rfl, ?_⟩
                 intro w hSw
                 (try dsimp only at hSw)
                 (try go_split_ands)
                 go_simp
                 (first | done | with_reducible rfl))
          try simp only [Act.put, List.setIfInBounds_toArray, List.set_cons_zero, List.set_cons_succ]
          refine take_h 2 ⟨?_, ?_, ?_, by kernel_rfl, by kernel_rfl, by kernel_rfl, ?_, ?_, by assumption, ?_⟩
          rotate_left 2
          · (simp only [List.getElem?_toArray, List.getElem?_cons_succ, List.getElem?_cons_zero]; exact rfl)
          · exact fun _ _ _ h => h
          · first
              | (refine Or.inr ⟨by rfl, ?_⟩; exact rfl)
              | (refine Or.inl ⟨by rfl, ?_⟩
                 intro w hSw
                 (try dsimp only at hSw)
                 (try go_split_ands)
                 go_simp
                 (first | done | with_reducible rfl))
          try simp only [Act.put, List.setIfInBounds_toArray, List.set_cons_zero, List.set_cons_succ]
          refine take_h 3 ⟨?_, ?_, ?_, by kernel_rfl, by kernel_rfl, by kernel_rfl, ?_, ?_, by assumption, ?_⟩
          rotate_left 2
          · (simp only [List.getElem?_toArray, List.getElem?_cons_succ, List.getElem?_cons_zero]; exact rfl)
          · exact fun _ _ _ h => h
          · first
              | (refine Or.inr ⟨by rfl, ?_⟩; exact rfl)
              | (refine Or.inl ⟨by rfl, ?_⟩
                 intro w hSw
                 (try dsimp only at hSw)
                 (try go_split_ands)
                 go_simp
                 (first | done | with_reducible rfl))
          try simp only [Act.put, List.setIfInBounds_toArray, List.set_cons_zero, List.set_cons_succ]
          refine take_h 4 ⟨?_, ?_, ?_, by kernel_rfl, by kernel_rfl, by kernel_rfl, ?_, ?_, by assumption, ?_⟩
          rotate_left 2
          · (simp only [List.getElem?_toArray, List.getElem?_cons_succ, List.getElem?_cons_zero]; exact rfl)
          · exact fun _ _ _ h => h
          · first
              | (refine Or.inr ⟨by rfl, ?_⟩; exact rfl)
              | (refine Or.inl ⟨by rfl, ?_⟩
                 intro w hSw
                 (try dsimp only at hSw)
                 (try go_split_ands)
                 go_simp
                 (first | done | with_reducible rfl))
          try simp only [Act.put, List.setIfInBounds_toArray, List.set_cons_zero, List.set_cons_succ]
          refine take_h 5 ⟨?_, ?_, ?_, by kernel_rfl, by kernel_rfl, by kernel_rfl, ?_, ?_, by assumption, ?_⟩
          rotate_left 2
          · (simp only [List.getElem?_toArray, List.getElem?_cons_succ, List.getElem?_cons_zero]; exact rfl)
          · exact fun _ _ _ h => h
          · first
              | (refine Or.inr ⟨by rfl, ?_⟩; exact rfl)
              | (refine Or.inl ⟨by rfl, ?_⟩
                 intro w hSw
                 (try dsimp only at hSw)
                 (try go_split_ands)
                 go_simp
                 (first | done | with_reducible rfl))
          try simp only [Act.put, List.setIfInBounds_toArray, List.set_cons_zero, List.set_cons_succ]
          refine take_h 6 ⟨?_, ?_, ?_, by kernel_rfl, by kernel_rfl, by kernel_rfl, ?_, ?_, by assumption, ?_⟩
          rotate_left 2
          · (simp only [List.getElem?_toArray, List.getElem?_cons_succ, List.getElem?_cons_zero]; exact rfl)
          · exact fun _ _ _ h => h
          · first
              | (refine Or.inr ⟨by rfl, ?_⟩; exact rfl)
              | (refine Or.inl ⟨by rfl, ?_⟩
                 intro w hSw
                 (try dsimp only at hSw)
                 (try go_split_ands)
                 go_simp
                 (first | done | with_reducible rfl))
          try simp only [Act.put, List.setIfInBounds_toArray, List.set_cons_zero, List.set_cons_succ]
          refine take_h 7 ⟨?_, ?_, ?_, by kernel_rfl, by kernel_rfl, by kernel_rfl, ?_, ?_, by assumption, ?_⟩
          rotate_left 2
          · (simp only [List.getElem?_toArray, List.getElem?_cons_succ, List.getElem?_cons_zero]; exact rfl)
          · exact fun _ _ _ h => h
          · first
              | (refine Or.inr ⟨by rfl, ?_⟩; exact rfl)
              | (refine Or.inl ⟨by rfl, ?_⟩
                 intro w hSw
                 (try dsimp only at hSw)
                 (try go_split_ands)
                 go_simp
                 (first | done | with_reducible rfl))
          try simp only [Act.put, List.setIfInBounds_toArray, List.set_cons_zero, List.set_cons_succ]
          refine take_h 8 ⟨?_, ?_, ?_, by kernel_rfl, by kernel_rfl, by kernel_rfl, ?_, ?_, by assumption, ?_⟩
          rotate_left 2
          · (simp only [List.getElem?_toArray, List.getElem?_cons_succ, List.getElem?_cons_zero]; exact rfl)
          · exact fun _ _ _ h => h
          · first
              | (refine Or.inr ⟨by rfl, ?_⟩; exact rfl)
              | (refine Or.inl ⟨by rfl, ?_⟩
                 intro w hSw
                 (try dsimp only at hSw)
                 (try go_split_ands)
                 go_simp
                 (first | done | with_reducible rfl))
          try simp only [Act.put, List.setIfInBounds_toArray, List.set_cons_zero, List.set_cons_succ]
          refine wpAnyH_done (by kernel_rfl) ?_ _
          clear hHeld
          go_wp2
          go_ret
          exact ⟨by rw [HF.out]; rfl, nd + 1, rfl⟩
      · have hk' : k = a.length := by omega
        have HF : Hid (decide (a = b) = true) := Lib.hid (decide_eq_true (by
          have h := HT.out
          rw [hk', List.take_length, HN.out, List.take_length] at h
          exact h))
        clear hk'
        go_wp2
        go_ret
        exact ⟨by rw [HF.out]; rfl, nd, rfl⟩
  · have hn' : ((a.length : Int) != (b.length : Int)) = true := bne_iff_ne.2 (by omega)
    have HF : Hid (decide (a = b) = false) := Lib.hid (decide_eq_false (fun e => hn (by rw [e])))
    clear hn
    go_enter Try.func12, Try.ntmps12
    go_wp2
    go_ret
    exact ⟨by rw [HF.out]; rfl, 0, rfl⟩
end
section
open Go.RowKit
theorem KP.below {w w' : World} {base R RD B : Nat} {sy : Bool} {X : List Nat} {ls l : List (List UInt8)} {G N : Int} (h : KP w base R RD X sy ls l G N w') (hB : B ≤ w.heap.size) (hX : ∀ k ∈ X, B ≤ k) : Below B w w' ∧ ∃ X', KG w' base R RD X' sy ls l G N ∧ ∀ k ∈ X', B ≤ k := by
  obtain ⟨X', h1, h2, h3⟩ := h
  refine ⟨h2.belowB hB hX, X', h1, fun k hk => ?_⟩
  rcases h3 k hk with h | h
  · exact hX k h
  · omega
set_option maxRecDepth 20000 in
set_option maxHeartbeats 4000000 in
theorem kwakes (w : World) : Calls Try.prog 13 #[] w fun e w' => e = .returned (.bool true) ∧ Below w.heap.size w w' := by
  have HDI := Lib.hid (kdisk w)
  go_enter Try.func13, Try.ntmps13
  go_wp2_with fail
  refine HDI.out.mono ?_
  rintro e w1 ⟨RD, F, rfl, hd, hl⟩
  have hb1 : Below w.heap.size w w1 := hl.below
  have hFlt := hd.lt
  have hz1 : w.heap.size + 1 ≤ w1.heap.size := by
    obtain ⟨_, _, _, _, _, h⟩ := hd
    have := h.lt RD h.blk.1
    omega
  have HOP := Lib.hid (kopen noughts_len hd hz1 (same_zero (fun m hm => secN_nought m hm)))
  have HB1 := Lib.hid (And.intro hb1 (And.intro hFlt hz1))
  clear hd hl hb1 hFlt hz1
  go_wp2_with fail
  refine HOP.out.mono ?_
  rintro e w2 ⟨rfl, X, hk, hl, hX⟩
  have hb2 : Below w.heap.size w w2 := HB1.out.1.trans (hl.belowB HB1.out.1.size (fun k hk => by have := (HB1.out.2.1 k hk).1; omega))
  have hXB : ∀ k ∈ X, w.heap.size ≤ k := fun k hk => by
    rcases hX k hk with h | h
    · have := (HB1.out.2.1 k h).1; omega
    · have := HB1.out.2.2; omega
  have hz2 : w.heap.size + 1 ≤ w2.heap.size := by have := hl.size; have := HB1.out.2.2; omega
  have HAP := Lib.hid (kappend hk hz2 (by omega) [97] (by simp) (by simp [wtL]))
  have H2 := Lib.hid (And.intro hb2 (And.intro hXB hz2))
  obtain ⟨R, hR⟩ : ∃ R, w1.heap.size = R := ⟨_, rfl⟩
  rw [hR] at HAP ⊢
  clear hk hl hX hb2 hXB hz2 hR
  go_wp2_with (go_at_call 8; refine (knum _ _).mono ?_; rintro e w' ⟨rfl, rfl⟩)
  refine HAP.out.mono ?_
  rintro e w3 ⟨rfl, hP⟩
  obtain ⟨hb3, X3, hk3, hX3⟩ := hP.below (B := w.heap.size) H2.out.1.size H2.out.2.1
  have hz3 : w.heap.size + 1 ≤ w3.heap.size := by have := hb3.size; have := H2.out.2.2; omega
  have HSY := Lib.hid (ksync hk3 hz3 (by omega))
  have H3 := Lib.hid (And.intro (H2.out.1.trans hb3) (And.intro hX3 hz3))
  clear hP hb3 hk3 hX3 hz3
  go_wp2_with (go_at_call 8; refine (knum _ _).mono ?_; rintro e w' ⟨rfl, rfl⟩)
  refine HSY.out.mono ?_
  rintro e w4 ⟨rfl, hP⟩
  obtain ⟨hb4, X4, hk4, hX4⟩ := hP.below (B := w.heap.size) H3.out.1.size H3.out.2.1
  have HAL := Lib.hid (kall hk4)
  have H4 := Lib.hid (H3.out.1.trans hb4)
  clear hP hb4 hk4 hX4
  go_wp2_with (go_at_call 8; refine (knum _ _).mono ?_; rintro e w' ⟨rfl, rfl⟩)
  refine HAL.out.mono ?_
  rintro e w5 ⟨v, rfl, hv, hb⟩
  obtain ⟨vo, vc, rfl, _, _⟩ := (Rd.of_own hv).form
  have hrd := (Rd.of_own hv).belowH ((Below.refl _ w5).alloc (Nat.le_refl _) (.cells #[.string ⟨#[97]⟩] 9)) (Nat.le_refl _)
  have HEQ := Lib.hid (keqs (w5.alloc (.cells #[.string ⟨#[97]⟩] 9)) _ (.slice (some ⟨w5.heap.size, 0, none⟩) 1 1) _ [[97]] _ _ hrd (one_newS w5 (.string ⟨#[97]⟩)))
  have H5 := Lib.hid (H4.out.trans (hb.mono H4.out.size))
  clear hv hb hrd
  go_wp2_with fail
  refine HEQ.out.mono ?_
  rintro e w6 ⟨rfl, nd, rfl⟩
  have hde : decide (([] : List (List UInt8)) ++ [[97]] = [[97]]) = true := rfl
  rw [hde]
  go_wp2
  go_ret
  exact ⟨rfl, below_drewN (H5.out.alloc H5.out.size _) _⟩
end
end Go.Proofs.Ytcgdlmlolmfinaa
