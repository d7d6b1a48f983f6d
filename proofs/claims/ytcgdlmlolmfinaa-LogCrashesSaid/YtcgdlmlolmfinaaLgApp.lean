/- The log: Append. -/



import Derived.Test.YtcgdlmlolmfinaaLgPut
import Derived.Test.YtcgdlmlolmfinaaLgLoad
namespace Go.Proofs.Ytcgdlmlolmfinaa
open Go.RowKit
def LgW (w : World) (base R RD : Nat) (F : List Nat) (lv : Value) (L' : LS) (w' : World) : Prop :=
  ∃ F' lv', LgAt w' base R RD F' lv' L' ∧ Left (R :: (F ++ Value.ownL lv)) w w' ∧ (∀ k ∈ F', k ∈ F ∨ w.heap.size ≤ k) ∧ ∀ k, lv'.ownBlock = some k → lv.ownBlock = some k ∨ w.heap.size ≤ k
section
variable {w w' w1 : World} {base R RD : Nat} {F F1 : List Nat} {lv : Value} {L L' : LS} {s s1 s' : DS}
theorem LgW.refl (h : LgAt w base R RD F lv L) : LgW w base R RD F lv L w := ⟨F, lv, h, Left.refl _ _, fun _ h => .inl h, fun _ h => .inl h⟩
set_option maxRecDepth 20000 in
set_option maxHeartbeats 8000000 in
theorem lappend (h : LgAt w base R RD F lv L) (hz : base ≤ w.heap.size) (hr : L.region ≤ 1) (ha : L.at_ ≤ 100000) (hs : L.size ≤ 1000000000) (hln : L.l.length ≤ 1000000) (hlast : 0 ≤ L.d.last ∧ L.d.last ≤ 900000000) (x : List UInt8) (hx : x.length ≤ 1000000) :
    Calls Try.prog 9 #[.pointer (some ⟨R, 0, none⟩), .string ⟨x.toArray⟩] w fun e w' => e = .returned (.int .i64 (appendS cbL L x).1) ∧ LgW w base R RD F lv (appendS cbL L x).2 w' := by
  obtain ⟨vo, vc, rfl, _, _⟩ := (Rd.of_own h.list).form
  have c0 : w.cell? ⟨R, 0, none⟩ = some (.pointer (some ⟨RD, 0, none⟩)) := by rw [h.head.cell]; rfl
  have c2 : w.cell? ⟨R, 2, none⟩ = some (.int .i64 L.size) := by rw [h.head.cell]; rfl
  have c3 : w.cell? ⟨R, 3, none⟩ = some (.int .i64 L.region) := by rw [h.head.cell]; rfl
  have c5 : w.cell? ⟨R, 5, none⟩ = some (.int .i64 L.at_) := by rw [h.head.cell]; rfl
  have c6 : w.cell? ⟨R, 6, none⟩ = some (.bool L.dead) := by rw [h.head.cell]; rfl
  have hl : (⟨x.toArray⟩ : ByteArray).size = x.length := by simp [ByteArray.size]
  obtain ⟨A, hA⟩ : ∃ A, appendS cbL L x = A := ⟨_, rfl⟩
  have hA0 := hA
  unfold appendS at hA
  rw [hA0]
  have H := Lib.hid h
  have HZ := Lib.hid hz
  have HL := Lib.hid hlast
  have HA := Lib.hid hA
  clear h hz hlast hA hA0
  cases hd : L.dead
  case true =>
    rw [hd] at c6
    have HA2 : Hid ((10, L) = A) := Lib.hid (by have := HA.out; rwa [hd] at this)
    clear hd
    go_enter Try.func9, Try.ntmps9
    go_wp2
    go_ret
    rw [← HA2.out]
    exact ⟨rfl, LgW.refl H.out⟩
  case false =>
    rw [hd] at c6
    by_cases hb : 16384 < x.length
    · have hb' : (16384 : Int) < (x.length : Int) := by omega
      have HA2 : Hid ((1, L) = A) := Lib.hid (by have := HA.out; rw [hd, if_neg (by simp), if_pos hb] at this; exact this)
      clear hd hb
      go_enter Try.func9, Try.ntmps9
      go_wp2
      go_ret
      rw [← HA2.out]
      exact ⟨rfl, LgW.refl H.out⟩
    · have hb' : ¬ ((16384 : Int) < (x.length : Int)) := by omega
      by_cases hf : 65536 < x.length + 128 + L.size
      · have hf' : (65536 : Int) - (L.size : Int) < (x.length : Int) + 128 := by omega
        have HA2 : Hid ((5, L) = A) := Lib.hid (by have := HA.out; rw [hd, if_neg (by simp), if_neg hb, if_pos hf] at this; exact this)
        clear hd hb hf
        go_enter Try.func9, Try.ntmps9
        go_wp2
        go_ret
        rw [← HA2.out]
        exact ⟨rfl, LgW.refl H.out⟩
      · have hf' : ¬ ((65536 : Int) - (L.size : Int) < (x.length : Int) + 128) := by omega
        have HPT := Lib.hid (lput (w := w.drew) (s := L.d) c0 (H.out.disk.left0 (Left.refl [] w).drew) H.out.sepR HZ.out L.region L.at_ hr (by omega) x (by omega) HL.out)
        obtain ⟨a2, e2, s2, hP⟩ : ∃ a2 e2 s2, putS cbL L.d L.region L.at_ x = (a2, e2, s2) := ⟨_, _, _, rfl⟩
        have hA := HA.out
        rw [hd, if_neg (by simp), if_neg hb, if_neg hf] at hA
        simp only [hP] at hA
        rw [hP] at HPT
        have HA1 := Lib.hid hA
        have HD := Lib.hid hd
        have HXL := Lib.hid hb
        clear hd hb hf hA hP HA
        go_enter Try.func9, Try.ntmps9
        go_upto_region 7 with fail
        refine wp_region_held_drew (S := fun wx => wx.cell? ⟨R, 3, none⟩ = some (.int .i64 L.region) ∧ wx.cell? ⟨R, 5, none⟩ = some (.int .i64 L.at_)) (by kernel_rfl) ⟨c3, c5⟩ (fun hHeld => ?_)
        refine take_h 0 ⟨?_, ?_, ?_, by kernel_rfl, by kernel_rfl, by kernel_rfl, ?_, ?_, by assumption, ?_⟩
        rotate_left 2
        · (simp only [List.getElem?_toArray, List.getElem?_cons_zero]; exact rfl)
        · exact fun _ _ _ h => h
        · first
            | (refine Or.inr ⟨by rfl, ?_⟩; exact rfl)
            | (refine Or.inl ⟨by rfl, ?_⟩
               intro w hSw
               (try dsimp only at hSw)
               (try go_split_ands)
               go_simp
               (first | done | with_reducible rfl))
        try simp only [Act.put, List.setIfInBounds_toArray, List.set_cons_zero, List.set_cons_succ]
        refine take_h 1 ⟨?_, ?_, ?_, by kernel_rfl, by kernel_rfl, by kernel_rfl, ?_, ?_, by assumption, ?_⟩
        rotate_left 2
        · (simp only [List.getElem?_toArray, List.getElem?_cons_succ, List.getElem?_cons_zero]; exact rfl)
        · exact fun _ _ _ h => h
        · first
            | (refine Or.inr ⟨by rfl, ?_⟩; exact rfl)
            | (refine Or.inl ⟨by rfl, ?_⟩
               intro w hSw
               (try dsimp only at hSw)
               (try go_split_ands)
               go_simp
               (first | done | with_reducible rfl))
        try simp only [Act.put, List.setIfInBounds_toArray, List.set_cons_zero, List.set_cons_succ]
        refine take_h 2 ⟨?_, ?_, ?_, by kernel_rfl, by kernel_rfl, by kernel_rfl, ?_, ?_, by assumption, ?_⟩
        rotate_left 2
        · (simp only [List.getElem?_toArray, List.getElem?_cons_succ, List.getElem?_cons_zero]; exact rfl)
        · exact fun _ _ _ h => h
        · first
            | (refine Or.inr ⟨by rfl, ?_⟩; exact rfl)
            | (refine Or.inl ⟨by rfl, ?_⟩
               intro w hSw
               (try dsimp only at hSw)
               (try go_split_ands)
               go_simp
               (first | done | with_reducible rfl))
        try simp only [Act.put, List.setIfInBounds_toArray, List.set_cons_zero, List.set_cons_succ]
        refine take_h 3 ⟨?_, ?_, ?_, by kernel_rfl, by kernel_rfl, by kernel_rfl, ?_, ?_, by assumption, ?_⟩
        rotate_left 2
        · (simp only [List.getElem?_toArray, List.getElem?_cons_succ, List.getElem?_cons_zero]; exact rfl)
        · exact fun _ _ _ h => h
        · first
            | (refine Or.inr ⟨by rfl, ?_⟩; exact rfl)
            | (refine Or.inl ⟨by rfl, ?_⟩
               intro w hSw
               (try dsimp only at hSw)
               (try go_split_ands)
               go_simp
               (first | done | with_reducible rfl))
        try simp only [Act.put, List.setIfInBounds_toArray, List.set_cons_zero, List.set_cons_succ]
        refine take_h 4 ⟨?_, ?_, ?_, by kernel_rfl, by kernel_rfl, by kernel_rfl, ?_, ?_, by assumption, ?_⟩
        rotate_left 2
        · (simp only [List.getElem?_toArray, List.getElem?_cons_succ, List.getElem?_cons_zero]; exact rfl)
        · exact fun _ _ _ h => h
        · first
            | (refine Or.inr ⟨by rfl, ?_⟩; exact rfl)
            | (refine Or.inl ⟨by rfl, ?_⟩
               intro w hSw
               (try dsimp only at hSw)
               (try go_split_ands)
               go_simp
               (first | done | with_reducible rfl))
        try simp only [Act.put, List.setIfInBounds_toArray, List.set_cons_zero, List.set_cons_succ]
        refine take_h 5 ⟨?_, ?_, ?_, by kernel_rfl, by kernel_rfl, by kernel_rfl, ?_, ?_, by assumption, ?_⟩
        rotate_left 2
        · (simp only [List.getElem?_toArray, List.getElem?_cons_succ, List.getElem?_cons_zero]; exact rfl)
        · exact fun _ _ _ h => h
        · first
            | (refine Or.inr ⟨by rfl, ?_⟩; exact rfl)
            | (refine Or.inl ⟨by rfl, ?_⟩
               intro w hSw
               (try dsimp only at hSw)
               (try go_split_ands)
               go_simp
               (first | done | with_reducible rfl))
        try simp only [Act.put, List.setIfInBounds_toArray, List.set_cons_zero, List.set_cons_succ]
        refine take_h 6 ⟨?_, ?_, ?_, by kernel_rfl, by kernel_rfl, by kernel_rfl, ?_, ?_, by assumption, ?_⟩
        rotate_left 2
        · (simp only [List.getElem?_toArray, List.getElem?_cons_succ, List.getElem?_cons_zero]; exact rfl)
        · exact fun _ _ _ h => h
        · first
            | (refine Or.inr ⟨by rfl, ?_⟩; exact rfl)
            | (refine Or.inl ⟨by rfl, ?_⟩
               intro w hSw
               (try dsimp only at hSw)
               (try go_split_ands)
               go_simp
               (first | done | with_reducible rfl))
        try simp only [Act.put, List.setIfInBounds_toArray, List.set_cons_zero, List.set_cons_succ]
        refine take_h 7 ⟨?_, ?_, ?_, by kernel_rfl, by kernel_rfl, by kernel_rfl, ?_, ?_, by assumption, ?_⟩
        rotate_left 2
        · (simp only [List.getElem?_toArray, List.getElem?_cons_succ, List.getElem?_cons_zero]; exact rfl)
        · exact fun _ _ _ h => h
        · first
            | (refine Or.inr ⟨by rfl, ?_⟩; exact rfl)
            | (refine Or.inl ⟨by rfl, ?_⟩
               intro w hSw
               (try dsimp only at hSw)
               (try go_split_ands)
               go_simp
               (first | done | with_reducible rfl))
        try simp only [Act.put, List.setIfInBounds_toArray, List.set_cons_zero, List.set_cons_succ]
        refine take_h 8 ⟨?_, ?_, ?_, by kernel_rfl, by kernel_rfl, by kernel_rfl, ?_, ?_, by assumption, ?_⟩
        rotate_left 2
        · (simp only [List.getElem?_toArray, List.getElem?_cons_succ, List.getElem?_cons_zero]; exact rfl)
        · exact fun _ _ _ h => h
        · first
            | (refine Or.inr ⟨by rfl, ?_⟩; exact rfl)
            | (refine Or.inl ⟨by rfl, ?_⟩
               intro w hSw
               (try dsimp only at hSw)
               (try go_split_ands)
               go_simp
               (first | done | with_reducible rfl))
        try simp only [Act.put, List.setIfInBounds_toArray, List.set_cons_zero, List.set_cons_succ]
        refine take_h 9 ⟨?_, ?_, ?_, by kernel_rfl, by kernel_rfl, by kernel_rfl, ?_, ?_, by assumption, ?_⟩
        rotate_left 2
        · (simp only [List.getElem?_toArray, List.getElem?_cons_succ, List.getElem?_cons_zero]; exact rfl)
        · exact fun _ _ _ h => h
        · first
            | (refine Or.inr ⟨by rfl, ?_⟩; exact rfl)
            | (refine Or.inl ⟨by rfl, ?_⟩
               intro w hSw
               (try dsimp only at hSw)
               (try go_split_ands)
               go_simp
               (first | done | with_reducible rfl))
        try simp only [Act.put, List.setIfInBounds_toArray, List.set_cons_zero, List.set_cons_succ]
        refine wpAnyH_ready (rs := [10]) (by kernel_rfl) (by simp) ?_
        refine call_h 10 ⟨?_, ?_, fun K hK => ?_⟩
        rotate_left 1
        · (simp only [List.getElem?_toArray, List.getElem?_cons_succ, List.getElem?_cons_zero]; exact rfl)
        go_simp
        (go_at_call 25; refine HPT.out.mono ?_; rintro e w2 ⟨rfl, hP⟩)
        go_wp2_with fail
        obtain ⟨F2, h2, hl2, hf2⟩ := (H.out.left0 (Left.refl [] w).drew).disk_ (by have := HZ.out; simpa using this) hP
        have h2 : LgAt w2 base R RD F2 (.slice vo L.l.length vc) { L with d := s2 } := h2
        have d1 : w2.cell? ⟨R, 1, none⟩ = some (.slice vo L.l.length vc) := by rw [h2.head.cell]; rfl
        have d2 : w2.cell? ⟨R, 2, none⟩ = some (.int .i64 L.size) := by rw [h2.head.cell]; rfl
        have d3 : w2.cell? ⟨R, 3, none⟩ = some (.int .i64 L.region) := by rw [h2.head.cell]; rfl
        have d5 : w2.cell? ⟨R, 5, none⟩ = some (.int .i64 L.at_) := by rw [h2.head.cell]; rfl
        have H2 := Lib.hid (And.intro h2 (And.intro hl2 hf2))
        clear h2 hl2 hf2 hP c0 c2 c3 c5 c6
        refine hK.out _ _ ⟨d3, d5⟩ (fun hHeld => ?_)
        clear hK K
        (try simp only [Act.put, List.setIfInBounds_toArray, List.set_cons_zero, List.set_cons_succ])
        refine take_h 11 ⟨?_, ?_, ?_, by kernel_rfl, by kernel_rfl, by kernel_rfl, ?_, ?_, by assumption, ?_⟩
        rotate_left 2
        · (simp only [List.getElem?_toArray, List.getElem?_cons_succ, List.getElem?_cons_zero]; exact rfl)
        · exact fun _ _ _ h => h
        · first
            | (refine Or.inr ⟨by rfl, ?_⟩; exact rfl)
            | (refine Or.inl ⟨by rfl, ?_⟩
               intro w hSw
               (try dsimp only at hSw)
               (try go_split_ands)
               go_simp
               (first | done | with_reducible rfl))
        try simp only [Act.put, List.setIfInBounds_toArray, List.set_cons_zero, List.set_cons_succ]
        refine take_h 12 ⟨?_, ?_, ?_, by kernel_rfl, by kernel_rfl, by kernel_rfl, ?_, ?_, by assumption, ?_⟩
        rotate_left 2
        · (simp only [List.getElem?_toArray, List.getElem?_cons_succ, List.getElem?_cons_zero]; exact rfl)
        · exact fun _ _ _ h => h
        · first
            | (refine Or.inr ⟨by rfl, ?_⟩; exact rfl)
            | (refine Or.inl ⟨by rfl, ?_⟩
               intro w hSw
               (try dsimp only at hSw)
               (try go_split_ands)
               go_simp
               (first | done | with_reducible rfl))
        try simp only [Act.put, List.setIfInBounds_toArray, List.set_cons_zero, List.set_cons_succ]
        refine take_h 13 ⟨?_, ?_, ?_, by kernel_rfl, by kernel_rfl, by kernel_rfl, ?_, ?_, by assumption, ?_⟩
        rotate_left 2
        · (simp only [List.getElem?_toArray, List.getElem?_cons_succ, List.getElem?_cons_zero]; exact rfl)
        · exact fun _ _ _ h => h
        · first
            | (refine Or.inr ⟨by rfl, ?_⟩; exact rfl)
            | (refine Or.inl ⟨by rfl, ?_⟩
               intro w hSw
               (try dsimp only at hSw)
               (try go_split_ands)
               go_simp
               (first | done | with_reducible rfl))
        try simp only [Act.put, List.setIfInBounds_toArray, List.set_cons_zero, List.set_cons_succ]
        refine take_h 14 ⟨?_, ?_, ?_, by kernel_rfl, by kernel_rfl, by kernel_rfl, ?_, ?_, by assumption, ?_⟩
        rotate_left 2
        · (simp only [List.getElem?_toArray, List.getElem?_cons_succ, List.getElem?_cons_zero]; exact rfl)
        · exact fun _ _ _ h => h
        · first
            | (refine Or.inr ⟨by rfl, ?_⟩; exact rfl)
            | (refine Or.inl ⟨by rfl, ?_⟩
               intro w hSw
               (try dsimp only at hSw)
               (try go_split_ands)
               go_simp
               (first | done | with_reducible rfl))
        try simp only [Act.put, List.setIfInBounds_toArray, List.set_cons_zero, List.set_cons_succ]
        refine take_h 15 ⟨?_, ?_, ?_, by kernel_rfl, by kernel_rfl, by kernel_rfl, ?_, ?_, by assumption, ?_⟩
        rotate_left 2
        · (simp only [List.getElem?_toArray, List.getElem?_cons_succ, List.getElem?_cons_zero]; exact rfl)
        · exact fun _ _ _ h => h
        · first
            | (refine Or.inr ⟨by rfl, ?_⟩; exact rfl)
            | (refine Or.inl ⟨by rfl, ?_⟩
               intro w hSw
               (try dsimp only at hSw)
               (try go_split_ands)
               go_simp
               (first | done | with_reducible rfl))
        try simp only [Act.put, List.setIfInBounds_toArray, List.set_cons_zero, List.set_cons_succ]
        refine wpAnyH_done (by kernel_rfl) ?_ _
        clear hHeld
        by_cases he2 : e2 = 0
        · subst he2
          have HA2 : Hid ((0, { L with d := s2, l := L.l ++ [x], size := L.size + x.length + 128, at_ := a2 }) = A) := Lib.hid (by have := HA1.out; rw [HD.out]; simpa using this)
          clear d3
          go_upto_region 10 with fail
          refine region_k 19 (S := fun wx => wx.cell? ⟨R, 1, none⟩ = some (.slice vo L.l.length vc) ∧ wx.cell? ⟨R, 2, none⟩ = some (.int .i64 L.size)) (by kernel_rfl) ⟨d1, d2⟩ (fun hHeld => ?_)
          refine take_kp 0 ⟨?_, ?_, ?_, by kernel_rfl, by kernel_rfl, by kernel_rfl, ⟨by kernel_rfl, by kernel_rfl⟩, ?_, ?_, by assumption, ?_⟩
          rotate_left 2
          · (simp only [List.getElem?_toArray, List.getElem?_cons_succ, List.getElem?_cons_zero]; exact rfl)
          · exact fun _ _ _ h => h
          · first
              | (refine Or.inr ⟨by rfl, ?_⟩; exact rfl)
              | (refine Or.inl ⟨by rfl, ?_⟩
                 intro w hSw
                 (try dsimp only at hSw)
                 (try go_split_ands)
                 go_simp
                 (first | done | with_reducible rfl))
          try simp only [Act.put, List.setIfInBounds_toArray, List.set_cons_zero, List.set_cons_succ]
          refine take_kp 1 ⟨?_, ?_, ?_, by kernel_rfl, by kernel_rfl, by kernel_rfl, ⟨by kernel_rfl, by kernel_rfl⟩, ?_, ?_, by assumption, ?_⟩
          rotate_left 2
          · (simp only [List.getElem?_toArray, List.getElem?_cons_succ, List.getElem?_cons_zero]; exact rfl)
          · exact fun _ _ _ h => h
          · first
              | (refine Or.inr ⟨by rfl, ?_⟩; exact rfl)
              | (refine Or.inl ⟨by rfl, ?_⟩
                 intro w hSw
                 (try dsimp only at hSw)
                 (try go_split_ands)
                 go_simp
                 (first | done | with_reducible rfl))
          try simp only [Act.put, List.setIfInBounds_toArray, List.set_cons_zero, List.set_cons_succ]
          refine take_kp 2 ⟨?_, ?_, ?_, by kernel_rfl, by kernel_rfl, by kernel_rfl, ⟨by kernel_rfl, by kernel_rfl⟩, ?_, ?_, by assumption, ?_⟩
          rotate_left 2
          · (simp only [List.getElem?_toArray, List.getElem?_cons_succ, List.getElem?_cons_zero]; exact rfl)
          · exact fun _ _ _ h => h
          · first
              | (refine Or.inr ⟨by rfl, ?_⟩; exact rfl)
              | (refine Or.inl ⟨by rfl, ?_⟩
                 intro w hSw
                 (try dsimp only at hSw)
                 (try go_split_ands)
                 go_simp
                 (first | done | with_reducible rfl))
          try simp only [Act.put, List.setIfInBounds_toArray, List.set_cons_zero, List.set_cons_succ]
          refine take_kp 3 ⟨?_, ?_, ?_, by kernel_rfl, by kernel_rfl, by kernel_rfl, ⟨by kernel_rfl, by kernel_rfl⟩, ?_, ?_, by assumption, ?_⟩
          rotate_left 2
          · (simp only [List.getElem?_toArray, List.getElem?_cons_succ, List.getElem?_cons_zero]; exact rfl)
          · exact fun _ _ _ h => h
          · first
              | (refine Or.inr ⟨by rfl, ?_⟩; exact rfl)
              | (refine Or.inl ⟨by rfl, ?_⟩
                 intro w hSw
                 (try dsimp only at hSw)
                 (try go_split_ands)
                 go_simp
                 (first | done | with_reducible rfl))
          try simp only [Act.put, List.setIfInBounds_toArray, List.set_cons_zero, List.set_cons_succ]
          refine take_kp 4 ⟨?_, ?_, ?_, by kernel_rfl, by kernel_rfl, by kernel_rfl, ⟨by kernel_rfl, by kernel_rfl⟩, ?_, ?_, by assumption, ?_⟩
          rotate_left 2
          · (simp only [List.getElem?_toArray, List.getElem?_cons_succ, List.getElem?_cons_zero]; exact rfl)
          · exact fun _ _ _ h => h
          · first
              | (refine Or.inr ⟨by rfl, ?_⟩; exact rfl)
              | (refine Or.inl ⟨by rfl, ?_⟩
                 intro w hSw
                 (try dsimp only at hSw)
                 (try go_split_ands)
                 go_simp
                 (first | done | with_reducible rfl))
          try simp only [Act.put, List.setIfInBounds_toArray, List.set_cons_zero, List.set_cons_succ]
          refine take_kp 5 ⟨?_, ?_, ?_, by kernel_rfl, by kernel_rfl, by kernel_rfl, ⟨by kernel_rfl, by kernel_rfl⟩, ?_, ?_, by assumption, ?_⟩
          rotate_left 2
          · (simp only [List.getElem?_toArray, List.getElem?_cons_succ, List.getElem?_cons_zero]; exact rfl)
          · exact fun _ _ _ h => h
          · first
              | (refine Or.inr ⟨by rfl, ?_⟩; exact rfl)
              | (refine Or.inl ⟨by rfl, ?_⟩
                 intro w hSw
                 (try dsimp only at hSw)
                 (try go_split_ands)
                 go_simp
                 (first | done | with_reducible rfl))
          try simp only [Act.put, List.setIfInBounds_toArray, List.set_cons_zero, List.set_cons_succ]
          refine take_kl 6 ⟨?_, ?_, ?_, by kernel_rfl, by kernel_rfl, by kernel_rfl, ⟨by kernel_rfl, by kernel_rfl, by kernel_rfl⟩, ?_, ?_, by assumption, ?_⟩
          rotate_left 2
          · (simp only [List.getElem?_toArray, List.getElem?_cons_succ, List.getElem?_cons_zero]; exact rfl)
          · exact fun _ _ _ h => h
          · first
              | (refine Or.inr ⟨by rfl, ?_⟩; exact rfl)
              | (refine Or.inl ⟨by rfl, ?_⟩
                 intro w hSw
                 (try dsimp only at hSw)
                 (try go_split_ands)
                 go_simp
                 (first | done | with_reducible rfl))
          try simp only [Act.put, List.setIfInBounds_toArray, List.set_cons_zero, List.set_cons_succ]
          refine take_kp 7 ⟨?_, ?_, ?_, by kernel_rfl, by kernel_rfl, by kernel_rfl, ⟨by kernel_rfl, by kernel_rfl⟩, ?_, ?_, by assumption, ?_⟩
          rotate_left 2
          · (simp only [List.getElem?_toArray, List.getElem?_cons_succ, List.getElem?_cons_zero]; exact rfl)
          · exact fun _ _ _ h => h
          · first
              | (refine Or.inr ⟨by rfl, ?_⟩; exact rfl)
              | (refine Or.inl ⟨by rfl, ?_⟩
                 intro w hSw
                 (try dsimp only at hSw)
                 (try go_split_ands)
                 go_simp
                 (first | done | with_reducible rfl))
          try simp only [Act.put, List.setIfInBounds_toArray, List.set_cons_zero, List.set_cons_succ]
          refine take_kp 10 ⟨?_, ?_, ?_, by kernel_rfl, by kernel_rfl, by kernel_rfl, ⟨by kernel_rfl, by kernel_rfl⟩, ?_, ?_, by assumption, ?_⟩
          rotate_left 2
          · (simp only [List.getElem?_toArray, List.getElem?_cons_succ, List.getElem?_cons_zero]; exact rfl)
          · exact fun _ _ _ h => h
          · first
              | (refine Or.inr ⟨by rfl, ?_⟩; exact rfl)
              | (refine Or.inl ⟨by rfl, ?_⟩
                 intro w hSw
                 (try dsimp only at hSw)
                 (try go_split_ands)
                 go_simp
                 (first | done | with_reducible rfl))
          try simp only [Act.put, List.setIfInBounds_toArray, List.set_cons_zero, List.set_cons_succ]
          refine take_kp 11 ⟨?_, ?_, ?_, by kernel_rfl, by kernel_rfl, by kernel_rfl, ⟨by kernel_rfl, by kernel_rfl⟩, ?_, ?_, by assumption, ?_⟩
          rotate_left 2
          · (simp only [List.getElem?_toArray, List.getElem?_cons_succ, List.getElem?_cons_zero]; exact rfl)
          · exact fun _ _ _ h => h
          · first
              | (refine Or.inr ⟨by rfl, ?_⟩; exact rfl)
              | (refine Or.inl ⟨by rfl, ?_⟩
                 intro w hSw
                 (try dsimp only at hSw)
                 (try go_split_ands)
                 go_simp
                 (first | done | with_reducible rfl))
          try simp only [Act.put, List.setIfInBounds_toArray, List.set_cons_zero, List.set_cons_succ]
          refine take_kp 12 ⟨?_, ?_, ?_, by kernel_rfl, by kernel_rfl, by kernel_rfl, ⟨by kernel_rfl, by kernel_rfl⟩, ?_, ?_, by assumption, ?_⟩
          rotate_left 2
          · (simp only [List.getElem?_toArray, List.getElem?_cons_succ, List.getElem?_cons_zero]; exact rfl)
          · exact fun _ _ _ h => h
          · first
              | (refine Or.inr ⟨by rfl, ?_⟩; exact rfl)
              | (refine Or.inl ⟨by rfl, ?_⟩
                 intro w hSw
                 (try dsimp only at hSw)
                 (try go_split_ands)
                 go_simp
                 (first | done | with_reducible rfl))
          try simp only [Act.put, List.setIfInBounds_toArray, List.set_cons_zero, List.set_cons_succ]
          refine take_kl 13 ⟨?_, ?_, ?_, by kernel_rfl, by kernel_rfl, by kernel_rfl, ⟨by kernel_rfl, by kernel_rfl, by kernel_rfl⟩, ?_, ?_, by assumption, ?_⟩
          rotate_left 2
          · (simp only [List.getElem?_toArray, List.getElem?_cons_succ, List.getElem?_cons_zero]; exact rfl)
          · exact fun _ _ _ h => h
          · first
              | (refine Or.inr ⟨by rfl, ?_⟩; exact rfl)
              | (refine Or.inl ⟨by rfl, ?_⟩
                 intro w hSw
                 (try dsimp only at hSw)
                 (try go_split_ands)
                 go_simp
                 (first | done | with_reducible rfl))
          try simp only [Act.put, List.setIfInBounds_toArray, List.set_cons_zero, List.set_cons_succ]
          refine take_kp 14 ⟨?_, ?_, ?_, by kernel_rfl, by kernel_rfl, by kernel_rfl, ⟨by kernel_rfl, by kernel_rfl⟩, ?_, ?_, by assumption, ?_⟩
          rotate_left 2
          · (simp only [List.getElem?_toArray, List.getElem?_cons_succ, List.getElem?_cons_zero]; exact rfl)
          · exact fun _ _ _ h => h
          · first
              | (refine Or.inr ⟨by rfl, ?_⟩; exact rfl)
              | (refine Or.inl ⟨by rfl, ?_⟩
                 intro w hSw
                 (try dsimp only at hSw)
                 (try go_split_ands)
                 go_simp
                 (first | done | with_reducible rfl))
          try simp only [Act.put, List.setIfInBounds_toArray, List.set_cons_zero, List.set_cons_succ]
          refine take_kp 15 ⟨?_, ?_, ?_, by kernel_rfl, by kernel_rfl, by kernel_rfl, ⟨by kernel_rfl, by kernel_rfl⟩, ?_, ?_, by assumption, ?_⟩
          rotate_left 2
          · (simp only [List.getElem?_toArray, List.getElem?_cons_succ, List.getElem?_cons_zero]; exact rfl)
          · exact fun _ _ _ h => h
          · first
              | (refine Or.inr ⟨by rfl, ?_⟩; exact rfl)
              | (refine Or.inl ⟨by rfl, ?_⟩
                 intro w hSw
                 (try dsimp only at hSw)
                 (try go_split_ands)
                 go_simp
                 (first | done | with_reducible rfl))
          try simp only [Act.put, List.setIfInBounds_toArray, List.set_cons_zero, List.set_cons_succ]
          refine take_kp 16 ⟨?_, ?_, ?_, by kernel_rfl, by kernel_rfl, by kernel_rfl, ⟨by kernel_rfl, by kernel_rfl⟩, ?_, ?_, by assumption, ?_⟩
          rotate_left 2
          · (simp only [List.getElem?_toArray, List.getElem?_cons_succ, List.getElem?_cons_zero]; exact rfl)
          · exact fun _ _ _ h => h
          · first
              | (refine Or.inr ⟨by rfl, ?_⟩; exact rfl)
              | (refine Or.inl ⟨by rfl, ?_⟩
                 intro w hSw
                 (try dsimp only at hSw)
                 (try go_split_ands)
                 go_simp
                 (first | done | with_reducible rfl))
          try simp only [Act.put, List.setIfInBounds_toArray, List.set_cons_zero, List.set_cons_succ]
          refine take_kp 17 ⟨?_, ?_, ?_, by kernel_rfl, by kernel_rfl, by kernel_rfl, ⟨by kernel_rfl, by kernel_rfl⟩, ?_, ?_, by assumption, ?_⟩
          rotate_left 2
          · (simp only [List.getElem?_toArray, List.getElem?_cons_succ, List.getElem?_cons_zero]; exact rfl)
          · exact fun _ _ _ h => h
          · first
              | (refine Or.inr ⟨by rfl, ?_⟩; exact rfl)
              | (refine Or.inl ⟨by rfl, ?_⟩
                 intro w hSw
                 (try dsimp only at hSw)
                 (try go_split_ands)
                 go_simp
                 (first | done | with_reducible rfl))
          try simp only [Act.put, List.setIfInBounds_toArray, List.set_cons_zero, List.set_cons_succ]
          refine take_kp 18 ⟨?_, ?_, ?_, by kernel_rfl, by kernel_rfl, by kernel_rfl, ⟨by kernel_rfl, by kernel_rfl⟩, ?_, ?_, by assumption, ?_⟩
          rotate_left 2
          · (simp only [List.getElem?_toArray, List.getElem?_cons_succ, List.getElem?_cons_zero]; exact rfl)
          · exact fun _ _ _ h => h
          · first
              | (refine Or.inr ⟨by rfl, ?_⟩; exact rfl)
              | (refine Or.inl ⟨by rfl, ?_⟩
                 intro w hSw
                 (try dsimp only at hSw)
                 (try go_split_ands)
                 go_simp
                 (first | done | with_reducible rfl))
          try simp only [Act.put, List.setIfInBounds_toArray, List.set_cons_zero, List.set_cons_succ]
          refine call_k 8 (by kernel_rfl) ⟨?_, ?_, fun K hK => ?_⟩
          rotate_left 1
          · (simp only [List.getElem?_toArray, List.getElem?_cons_succ, List.getElem?_cons_zero]; exact rfl)
          go_simp
          skip
          go_wp2_with fail
          have hA0 : Rd (w2.alloc (.cells #[.string ⟨x.toArray⟩] 9)).drew (w2.heap.size + 1) 1 (.slice (some ⟨w2.heap.size, 0, none⟩) 1 1) 1 [.string ⟨x.toArray⟩] := one_newS w2 _
          have hbA : Below w2.heap.size w2 (w2.alloc (.cells #[.string ⟨x.toArray⟩] 9)).drew := ((Below.refl _ _).alloc (Nat.le_refl _) _).drew
          generalize (w2.alloc (.cells #[.string ⟨x.toArray⟩] 9)).drew = wA at hA0 hbA ⊢
          refine hK.out _ _ ⟨cell_left' d1 (Left.of_below hbA []) (by simp), cell_left' d2 (Left.of_below hbA []) (by simp)⟩ (fun hHeld => ?_)
          clear hK K
          (try simp only [Act.put, List.setIfInBounds_toArray, List.set_cons_zero, List.set_cons_succ])
          have HAA := Lib.hid (H2.out.1.left0 (Left.of_below hbA []))
          have HBA := Lib.hid hbA
          have HA0 := Lib.hid hA0
          clear hA0 hbA d1 d2 d5
          refine call_k 9 (by kernel_rfl) ⟨?_, ?_, fun K hK => ?_⟩
          rotate_left 1
          · (simp only [List.getElem?_toArray, List.getElem?_cons_succ, List.getElem?_cons_zero]; exact rfl)
          rw [if_pos (by rfl)]
          (refine op_app (.tmp 51) (.tmp 53) 35 rfl base 9 (.string ⟨#[]⟩) 1 16 Try.underlying35 inf_Ts rfl (by omega) _ L.l.length (L.l.map strL) rfl HAA.out.list _ _ 1 [.string ⟨x.toArray⟩] rfl HA0.out (by simp [Value.oneCell']) ?_ ?_ ?_ ?_)
          · unfold maxLen; omega
          · omega
          · have := H2.out.2.1.size; have := HBA.out.size; have := HZ.out; simp at *; omega
          intro v7 w7 hrow hg hat7
          have hl7 := left_of_grown hg
          have hRl : R ∉ Value.ownL (.slice vo L.l.length vc) := fun hm => (HAA.out.sepL R (mem_ownL.1 hm)).2 rfl
          have hh7 := HAA.out.head.left hl7 hRl
          have e1 : w7.cell? ⟨R, 1, none⟩ = some (.slice vo L.l.length vc) := by rw [hh7.cell]; rfl
          have e2 : w7.cell? ⟨R, 2, none⟩ = some (.int .i64 L.size) := by rw [hh7.cell]; rfl
          have e5 : w7.cell? ⟨R, 5, none⟩ = some (.int .i64 L.at_) := by rw [hh7.cell]; rfl
          have f1 := hh7.free 1
          have f2 := hh7.free 2
          have f5 := hh7.free 5
          obtain ⟨vo7, vc7, rfl, _, _⟩ := (Rd.of_own hrow).form
          have H7 := Lib.hid (And.intro hrow (And.intro hl7 (And.intro hh7 hat7)))
          clear hrow hl7 hh7 hat7 hg hRl
          refine hK.out _ _ ⟨e1, e2⟩ (fun hHeld => ?_)
          clear hK K
          (try simp only [Act.put, List.setIfInBounds_toArray, List.set_cons_zero, List.set_cons_succ])
          refine tail_k (by kernel_rfl) (by kernel_rfl) (by kernel_rfl) ?_
          clear hHeld
          simp only [List.drop_succ_cons, List.drop_zero]
          have HI2 : ∀ wz, wz = ((w7.setCell ⟨R, 1, none⟩ (.slice vo7 (L.l.length + 1) vc7)).setCell ⟨R, 2, none⟩ (.int .i64 ((L.size : Int) + (x.length : Int) + 128))).setCell ⟨R, 5, none⟩ (.int .i64 a2) → LgW w base R RD F (.slice vo L.l.length vc) { L with d := s2, l := L.l ++ [x], size := L.size + x.length + 128, at_ := a2 } wz := fun wz hwz => by
            subst hwz
            have hown7 : ∀ k, (Value.slice vo7 (L.l.length + 1) vc7).ownBlock = some k → (Value.slice vo L.l.length vc).ownBlock = some k ∨ k = wA.heap.size := fun k hk => by
              rcases H7.out.2.2.2 with h | h
              · exact .inl (h ▸ hk)
              · rw [h] at hk; injection hk with hk; exact .inr hk.symm
            have hlR : Left [R] w7 (((w7.setCell ⟨R, 1, none⟩ (.slice vo7 (L.l.length + 1) vc7)).setCell ⟨R, 2, none⟩ (.int .i64 ((L.size : Int) + (x.length : Int) + 128))).setCell ⟨R, 5, none⟩ (.int .i64 a2)) := (((Left.refl [R] w7).setCell (Or.inl (by simp)) _).setCell (Or.inl (by simp)) _).setCell (Or.inl (by simp)) _
            refine ⟨F2, .slice vo7 (L.l.length + 1) vc7, HAA.out.setl (L' := { L with d := s2, l := L.l ++ [x], size := L.size + x.length + 128, at_ := a2 }) H7.out.2.1 (fun k hk => HAA.out.sepL k (mem_ownL.1 hk)) (by simpa [strL] using H7.out.1) (fun k hk => ?_) hlR ?_ rfl, ?_, H2.out.2.2, fun k hk => ?_⟩
            · rcases hown7 k hk with h | h
              · exact HAA.out.sepL k h
              · subst h
                exact ⟨fun hm => by have := (HAA.out.disk.lt _ hm).2; omega, fun e => by have := HAA.out.head.lt; omega⟩
            · have hw := ((H7.out.2.2.1.put 1 (.slice vo7 (L.l.length + 1) vc7)).put 2 (.int .i64 ((L.size : Int) + (x.length : Int) + 128))).put 5 (.int .i64 a2)
              rw [show lgHead RD (.slice vo7 (L.l.length + 1) vc7) { L with d := s2, l := L.l ++ [x], size := L.size + x.length + 128, at_ := a2 } = ((((lgHead RD (.slice vo L.l.length vc) { L with d := s2 }).set 1 (.slice vo7 (L.l.length + 1) vc7)).set 2 (.int .i64 ((L.size : Int) + (x.length : Int) + 128))).set 5 (.int .i64 a2)) by
                unfold lgHead
                simp only [List.set_cons_succ, List.set_cons_zero]
                rw [show ((L.size + x.length + 128 : Nat) : Int) = (L.size : Int) + (x.length : Int) + 128 by omega]]
              exact hw
            · have hlA : Left (R :: (F ++ Value.ownL (.slice vo L.l.length vc))) w wA := ((Left.of_drew H2.out.2.1).mono (fun k hk => by first | (simp [hk]; done) | (rw [List.mem_cons, List.mem_append]; exact .inr (.inl hk)))).trans (Left.of_below HBA.out []) (by simp)
              refine (hlA.trans H7.out.2.1 (fun k hk => .inl (by rw [List.mem_cons, List.mem_append]; exact .inr (.inr hk)))).trans hlR (fun k hk => .inl ?_)
              simp only [List.mem_singleton] at hk
              simp [hk]
            · rcases hown7 k hk with h | h
              · exact .inl h
              · right; have := H2.out.2.1.size; have := HBA.out.size; simp at *; omega
          have HI3 := Lib.hid HI2
          clear HI2
          go_wp2
          go_ret
          rw [← HA2.out]
          exact ⟨rfl, HI3.out _ rfl⟩
        · have hne : (e2 != 0) = true := bne_iff_ne.2 he2
          have HA2 : Hid ((e2, { L with d := s2, dead := true }) = A) := Lib.hid (by have := HA1.out; simpa [he2] using this)
          have HDD := Lib.hid (ldid H2.out.1.head e2)
          have hde : decide (e2 ≠ 0) = true := decide_eq_true he2
          rw [hde] at HDD
          clear d1 d2 d3 d5 hde
          go_wp2_with fail
          refine HDD.out.mono ?_
          rintro e w3 ⟨rfl, hl3, hW3⟩
          have HR : Hid (LgW w base R RD F (.slice vo L.l.length vc) { L with d := s2, dead := true } w3) := Lib.hid ⟨F2, _, H2.out.1.head_ hl3 rfl rfl hW3, ((Left.of_drew H2.out.2.1).mono (T := R :: (F ++ Value.ownL (.slice vo L.l.length vc))) (fun k hk => by first | (simp [hk]; done) | (rw [List.mem_cons, List.mem_append]; exact .inr (.inl hk)))).trans hl3 (fun k hk => .inl (by simp only [List.mem_singleton] at hk; simp [hk])), H2.out.2.2, fun k hk => .inl hk⟩
          clear hl3 hW3
          go_wp2
          go_ret
          rw [← HA2.out]
          exact ⟨rfl, HR.out⟩
end
end Go.Proofs.Ytcgdlmlolmfinaa
