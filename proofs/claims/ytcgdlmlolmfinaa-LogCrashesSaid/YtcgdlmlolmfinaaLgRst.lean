/- The log: Reset. -/



import Derived.Test.YtcgdlmlolmfinaaLgRnw
import Derived.Test.YtcgdlmlolmfinaaLgApp
namespace Go.Proofs.Ytcgdlmlolmfinaa
open Go.RowKit
theorem count_ok : ∀ (l : List (List UInt8)) (n : Nat) (full : Bool), n ≤ 65536 → (countD l n full).2 = 0 → full = false ∧ n + 128 * l.length ≤ 65536 ∧ (∀ x ∈ l, x.length ≤ 16384) ∧ (countD l n full).1 ≤ 65536
  | [], n, full, hn, h => by
    rw [countD] at h ⊢
    cases full
    · simp [hn]
    · simp at h
  | x :: r, n, full, hn, h => by
    rw [countD] at h ⊢
    by_cases h1 : 16384 < x.length
    · rw [if_pos h1] at h; simp at h
    · rw [if_neg h1] at h ⊢
      cases full
      · by_cases h2 : 65536 < x.length + 128 + n
        · rw [if_pos (by simp [h2])] at h
          have := (count_ok r n true hn h).1
          cases this
        · rw [if_neg (by simp [h2])] at h ⊢
          obtain ⟨_, a, b, c⟩ := count_ok r (n + x.length + 128) false (by omega) h
          refine ⟨rfl, by simp only [List.length_cons]; omega, fun y hy => ?_, c⟩
          rcases List.mem_cons.1 hy with rfl | hy
          · omega
          · exact b y hy
      · rw [if_pos (by simp)] at h
        have := (count_ok r n true hn h).1
        cases this
section
variable {w w' w1 : World} {base R RD : Nat} {F F1 : List Nat} {lv : Value} {L L' : LS} {s s1 s' : DS}
set_option maxRecDepth 20000 in
set_option maxHeartbeats 8000000 in
theorem lreset (h : LgAt w base R RD F lv L) (hz : base ≤ w.heap.size) (hr : L.region ≤ 1) (gn : Nat) (hg : L.gen = gn) (hgn : gn < 4000000000000000000) (hlast : 0 ≤ L.d.last ∧ L.d.last ≤ 800000000)
    (v : Value) (l : List (List UInt8)) (hx : ∀ x ∈ l, x.length ≤ 1000000000) (hv : ∀ w', Left (R :: F) w w' → Rd w' w'.heap.size 1 v l.length (l.map strL)) :
    Calls Try.prog 11 #[.pointer (some ⟨R, 0, none⟩), v] w fun e w' => e = .returned (.int .i64 (resetS cbL L l).1) ∧ LgW w base R RD F lv (resetS cbL L l).2 w' := by
  have hv0 := hv w (Left.refl _ _)
  obtain ⟨vo, vc, rfl, _, _⟩ := (Rd.of_own h.list).form
  obtain ⟨ao, cap, rfl, hc1, hc2⟩ := hv0.form
  have c0 : w.cell? ⟨R, 0, none⟩ = some (.pointer (some ⟨RD, 0, none⟩)) := by rw [h.head.cell]; rfl
  have c6 : w.cell? ⟨R, 6, none⟩ = some (.bool L.dead) := by rw [h.head.cell]; rfl
  obtain ⟨A, hA⟩ : ∃ A, resetS cbL L l = A := ⟨_, rfl⟩
  have hA0 := hA
  unfold resetS at hA
  rw [hA0]
  have HCN := Lib.hid (lcounted w _ l w.heap.size hv0 hx)
  have H := Lib.hid h
  have HZ := Lib.hid hz
  have HL := Lib.hid hlast
  have HA := Lib.hid hA
  have HV := Lib.hid hv
  have HG := Lib.hid hg
  clear h hz hlast hA hA0 hv0 hv hx hg hc2
  cases hd : L.dead
  case true =>
    rw [hd] at c6
    have HA2 : Hid ((10, L) = A) := Lib.hid (by have := HA.out; rwa [hd] at this)
    clear hd
    go_enter Try.func11, Try.ntmps11
    go_wp2
    go_ret
    rw [← HA2.out]
    exact ⟨rfl, LgW.refl H.out⟩
  case false =>
    rw [hd] at c6
    have hA := HA.out
    rw [hd, if_neg (by simp)] at hA
    obtain ⟨n1, e1, hC⟩ : ∃ n1 e1, countD l 0 false = (n1, e1) := ⟨_, _, rfl⟩
    have hok := count_ok l 0 false (by omega)
    rw [hC] at hA HCN hok
    simp only at hA HCN hok
    have HA1 := Lib.hid hA
    have HOK := Lib.hid hok
    have HD := Lib.hid hd
    clear hA hC hok hd
    by_cases he1 : e1 = 0
    · subst he1
      obtain ⟨_, hk1, hk2, hk3⟩ := HOK.out rfl
      have hl6 : l.length ≤ 600 := by omega
      have HRN := Lib.hid (lrenew H.out HZ.out hr gn HG.out hgn HL.out _ l hl6 (fun x hx => by have := hk2 x hx; omega) (fun w' hw => HV.out w' (hw.mono (fun k hk => by simp [hk]))))
      obtain ⟨a2, e2, s2, hP⟩ : ∃ a2 e2 s2, renewS cbL L l = (a2, e2, s2) := ⟨_, _, _, rfl⟩
      have hA := HA1.out
      simp only [ne_eq, not_true_eq_false, if_false, hP] at hA
      rw [hP] at HRN
      have HA2 := Lib.hid hA
      clear hA hP hk1 hk2
      go_enter Try.func11, Try.ntmps11
      go_wp2_with (go_at_call 28; refine HCN.out.mono ?_; rintro e w' ⟨rfl, rfl⟩)
      refine HRN.out.mono ?_
      rintro e w2 ⟨rfl, hP⟩
      obtain ⟨F2, h2, hl2, hf2⟩ := H.out.disk_ HZ.out hP
      have h2 : LgAt w2 base R RD F2 (.slice vo L.l.length vc) { L with d := s2 } := h2
      have d3 : w2.cell? ⟨R, 3, none⟩ = some (.int .i64 L.region) := by rw [h2.head.cell]; rfl
      have d4 : w2.cell? ⟨R, 4, none⟩ = some (.int .i64 gn) := by rw [h2.head.cell, ← HG.out]; rfl
      have H2 := Lib.hid (And.intro h2 (And.intro hl2 hf2))
      clear h2 hl2 hf2 hP c0 c6
      by_cases he2 : e2 = 0
      · subst he2
        have HA3 : Hid ((0, (⟨s2, l, n1, 1 - L.region, L.gen + 1, a2, L.dead⟩ : LS)) = A) := Lib.hid (by have := HA2.out; rw [HD.out]; simpa using this)
        have HCL := Lib.hid (CloneS_any w2.drew _ l.length (l.map strL) (HV.out w2.drew ((H2.out.2.1.drew).mono (fun k hk => by simp [hk]))) (strs_one _) (by omega))
        go_upto_region 9 with fail
        refine region_k 19 (S := fun wx => wx.cell? ⟨R, 3, none⟩ = some (.int .i64 L.region) ∧ wx.cell? ⟨R, 4, none⟩ = some (.int .i64 gn)) (by kernel_rfl) ⟨d3, d4⟩ (fun hHeld => ?_)
        refine take_kp 0 ⟨?_, ?_, ?_, by kernel_rfl, by kernel_rfl, by kernel_rfl, ⟨by kernel_rfl, by kernel_rfl⟩, ?_, ?_, by assumption, ?_⟩
        rotate_left 2
        · (simp only [List.getElem?_toArray, List.getElem?_cons_succ, List.getElem?_cons_zero]; exact rfl)
        · exact fun _ _ _ h => h
        · first
            | (refine Or.inr ⟨by rfl, ?_⟩; exact rfl)
            | (refine Or.inl ⟨by rfl, ?_⟩
               intro w hSw
               (try dsimp only at hSw)
               (try go_split_ands)
               go_simp
               (first | done | with_reducible rfl))
        try simp only [Act.put, List.setIfInBounds_toArray, List.set_cons_zero, List.set_cons_succ]
        refine take_kp 1 ⟨?_, ?_, ?_, by kernel_rfl, by kernel_rfl, by kernel_rfl, ⟨by kernel_rfl, by kernel_rfl⟩, ?_, ?_, by assumption, ?_⟩
        rotate_left 2
        · (simp only [List.getElem?_toArray, List.getElem?_cons_succ, List.getElem?_cons_zero]; exact rfl)
        · exact fun _ _ _ h => h
        · first
            | (refine Or.inr ⟨by rfl, ?_⟩; exact rfl)
            | (refine Or.inl ⟨by rfl, ?_⟩
               intro w hSw
               (try dsimp only at hSw)
               (try go_split_ands)
               go_simp
               (first | done | with_reducible rfl))
        try simp only [Act.put, List.setIfInBounds_toArray, List.set_cons_zero, List.set_cons_succ]
        refine take_kp 2 ⟨?_, ?_, ?_, by kernel_rfl, by kernel_rfl, by kernel_rfl, ⟨by kernel_rfl, by kernel_rfl⟩, ?_, ?_, by assumption, ?_⟩
        rotate_left 2
        · (simp only [List.getElem?_toArray, List.getElem?_cons_succ, List.getElem?_cons_zero]; exact rfl)
        · exact fun _ _ _ h => h
        · first
            | (refine Or.inr ⟨by rfl, ?_⟩; exact rfl)
            | (refine Or.inl ⟨by rfl, ?_⟩
               intro w hSw
               (try dsimp only at hSw)
               (try go_split_ands)
               go_simp
               (first | done | with_reducible rfl))
        try simp only [Act.put, List.setIfInBounds_toArray, List.set_cons_zero, List.set_cons_succ]
        refine take_kp 3 ⟨?_, ?_, ?_, by kernel_rfl, by kernel_rfl, by kernel_rfl, ⟨by kernel_rfl, by kernel_rfl⟩, ?_, ?_, by assumption, ?_⟩
        rotate_left 2
        · (simp only [List.getElem?_toArray, List.getElem?_cons_succ, List.getElem?_cons_zero]; exact rfl)
        · exact fun _ _ _ h => h
        · first
            | (refine Or.inr ⟨by rfl, ?_⟩; exact rfl)
            | (refine Or.inl ⟨by rfl, ?_⟩
               intro w hSw
               (try dsimp only at hSw)
               (try go_split_ands)
               go_simp
               (first | done | with_reducible rfl))
        try simp only [Act.put, List.setIfInBounds_toArray, List.set_cons_zero, List.set_cons_succ]
        refine take_kp 4 ⟨?_, ?_, ?_, by kernel_rfl, by kernel_rfl, by kernel_rfl, ⟨by kernel_rfl, by kernel_rfl⟩, ?_, ?_, by assumption, ?_⟩
        rotate_left 2
        · (simp only [List.getElem?_toArray, List.getElem?_cons_succ, List.getElem?_cons_zero]; exact rfl)
        · exact fun _ _ _ h => h
        · first
            | (refine Or.inr ⟨by rfl, ?_⟩; exact rfl)
            | (refine Or.inl ⟨by rfl, ?_⟩
               intro w hSw
               (try dsimp only at hSw)
               (try go_split_ands)
               go_simp
               (first | done | with_reducible rfl))
        try simp only [Act.put, List.setIfInBounds_toArray, List.set_cons_zero, List.set_cons_succ]
        refine take_kp 5 ⟨?_, ?_, ?_, by kernel_rfl, by kernel_rfl, by kernel_rfl, ⟨by kernel_rfl, by kernel_rfl⟩, ?_, ?_, by assumption, ?_⟩
        rotate_left 2
        · (simp only [List.getElem?_toArray, List.getElem?_cons_succ, List.getElem?_cons_zero]; exact rfl)
        · exact fun _ _ _ h => h
        · first
            | (refine Or.inr ⟨by rfl, ?_⟩; exact rfl)
            | (refine Or.inl ⟨by rfl, ?_⟩
               intro w hSw
               (try dsimp only at hSw)
               (try go_split_ands)
               go_simp
               (first | done | with_reducible rfl))
        try simp only [Act.put, List.setIfInBounds_toArray, List.set_cons_zero, List.set_cons_succ]
        refine take_kp 7 ⟨?_, ?_, ?_, by kernel_rfl, by kernel_rfl, by kernel_rfl, ⟨by kernel_rfl, by kernel_rfl⟩, ?_, ?_, by assumption, ?_⟩
        rotate_left 2
        · (simp only [List.getElem?_toArray, List.getElem?_cons_succ, List.getElem?_cons_zero]; exact rfl)
        · exact fun _ _ _ h => h
        · first
            | (refine Or.inr ⟨by rfl, ?_⟩; exact rfl)
            | (refine Or.inl ⟨by rfl, ?_⟩
               intro w hSw
               (try dsimp only at hSw)
               (try go_split_ands)
               go_simp
               (first | done | with_reducible rfl))
        try simp only [Act.put, List.setIfInBounds_toArray, List.set_cons_zero, List.set_cons_succ]
        refine take_kp 8 ⟨?_, ?_, ?_, by kernel_rfl, by kernel_rfl, by kernel_rfl, ⟨by kernel_rfl, by kernel_rfl⟩, ?_, ?_, by assumption, ?_⟩
        rotate_left 2
        · (simp only [List.getElem?_toArray, List.getElem?_cons_succ, List.getElem?_cons_zero]; exact rfl)
        · exact fun _ _ _ h => h
        · first
            | (refine Or.inr ⟨by rfl, ?_⟩; exact rfl)
            | (refine Or.inl ⟨by rfl, ?_⟩
               intro w hSw
               (try dsimp only at hSw)
               (try go_split_ands)
               go_simp
               (first | done | with_reducible rfl))
        try simp only [Act.put, List.setIfInBounds_toArray, List.set_cons_zero, List.set_cons_succ]
        refine take_kp 9 ⟨?_, ?_, ?_, by kernel_rfl, by kernel_rfl, by kernel_rfl, ⟨by kernel_rfl, by kernel_rfl⟩, ?_, ?_, by assumption, ?_⟩
        rotate_left 2
        · (simp only [List.getElem?_toArray, List.getElem?_cons_succ, List.getElem?_cons_zero]; exact rfl)
        · exact fun _ _ _ h => h
        · first
            | (refine Or.inr ⟨by rfl, ?_⟩; exact rfl)
            | (refine Or.inl ⟨by rfl, ?_⟩
               intro w hSw
               (try dsimp only at hSw)
               (try go_split_ands)
               go_simp
               (first | done | with_reducible rfl))
        try simp only [Act.put, List.setIfInBounds_toArray, List.set_cons_zero, List.set_cons_succ]
        refine take_kp 10 ⟨?_, ?_, ?_, by kernel_rfl, by kernel_rfl, by kernel_rfl, ⟨by kernel_rfl, by kernel_rfl⟩, ?_, ?_, by assumption, ?_⟩
        rotate_left 2
        · (simp only [List.getElem?_toArray, List.getElem?_cons_succ, List.getElem?_cons_zero]; exact rfl)
        · exact fun _ _ _ h => h
        · first
            | (refine Or.inr ⟨by rfl, ?_⟩; exact rfl)
            | (refine Or.inl ⟨by rfl, ?_⟩
               intro w hSw
               (try dsimp only at hSw)
               (try go_split_ands)
               go_simp
               (first | done | with_reducible rfl))
        try simp only [Act.put, List.setIfInBounds_toArray, List.set_cons_zero, List.set_cons_succ]
        refine take_kl 11 ⟨?_, ?_, ?_, by kernel_rfl, by kernel_rfl, by kernel_rfl, ⟨by kernel_rfl, by kernel_rfl, by kernel_rfl⟩, ?_, ?_, by assumption, ?_⟩
        rotate_left 2
        · (simp only [List.getElem?_toArray, List.getElem?_cons_succ, List.getElem?_cons_zero]; exact rfl)
        · exact fun _ _ _ h => h
        · first
            | (refine Or.inr ⟨by rfl, ?_⟩; exact rfl)
            | (refine Or.inl ⟨by rfl, ?_⟩
               intro w hSw
               (try dsimp only at hSw)
               (try go_split_ands)
               go_simp
               (first | done | with_reducible rfl))
        try simp only [Act.put, List.setIfInBounds_toArray, List.set_cons_zero, List.set_cons_succ]
        refine take_kp 12 ⟨?_, ?_, ?_, by kernel_rfl, by kernel_rfl, by kernel_rfl, ⟨by kernel_rfl, by kernel_rfl⟩, ?_, ?_, by assumption, ?_⟩
        rotate_left 2
        · (simp only [List.getElem?_toArray, List.getElem?_cons_succ, List.getElem?_cons_zero]; exact rfl)
        · exact fun _ _ _ h => h
        · first
            | (refine Or.inr ⟨by rfl, ?_⟩; exact rfl)
            | (refine Or.inl ⟨by rfl, ?_⟩
               intro w hSw
               (try dsimp only at hSw)
               (try go_split_ands)
               go_simp
               (first | done | with_reducible rfl))
        try simp only [Act.put, List.setIfInBounds_toArray, List.set_cons_zero, List.set_cons_succ]
        refine take_kp 13 ⟨?_, ?_, ?_, by kernel_rfl, by kernel_rfl, by kernel_rfl, ⟨by kernel_rfl, by kernel_rfl⟩, ?_, ?_, by assumption, ?_⟩
        rotate_left 2
        · (simp only [List.getElem?_toArray, List.getElem?_cons_succ, List.getElem?_cons_zero]; exact rfl)
        · exact fun _ _ _ h => h
        · first
            | (refine Or.inr ⟨by rfl, ?_⟩; exact rfl)
            | (refine Or.inl ⟨by rfl, ?_⟩
               intro w hSw
               (try dsimp only at hSw)
               (try go_split_ands)
               go_simp
               (first | done | with_reducible rfl))
        try simp only [Act.put, List.setIfInBounds_toArray, List.set_cons_zero, List.set_cons_succ]
        refine take_kp 14 ⟨?_, ?_, ?_, by kernel_rfl, by kernel_rfl, by kernel_rfl, ⟨by kernel_rfl, by kernel_rfl⟩, ?_, ?_, by assumption, ?_⟩
        rotate_left 2
        · (simp only [List.getElem?_toArray, List.getElem?_cons_succ, List.getElem?_cons_zero]; exact rfl)
        · exact fun _ _ _ h => h
        · first
            | (refine Or.inr ⟨by rfl, ?_⟩; exact rfl)
            | (refine Or.inl ⟨by rfl, ?_⟩
               intro w hSw
               (try dsimp only at hSw)
               (try go_split_ands)
               go_simp
               (first | done | with_reducible rfl))
        try simp only [Act.put, List.setIfInBounds_toArray, List.set_cons_zero, List.set_cons_succ]
        refine take_kp 15 ⟨?_, ?_, ?_, by kernel_rfl, by kernel_rfl, by kernel_rfl, ⟨by kernel_rfl, by kernel_rfl⟩, ?_, ?_, by assumption, ?_⟩
        rotate_left 2
        · (simp only [List.getElem?_toArray, List.getElem?_cons_succ, List.getElem?_cons_zero]; exact rfl)
        · exact fun _ _ _ h => h
        · first
            | (refine Or.inr ⟨by rfl, ?_⟩; exact rfl)
            | (refine Or.inl ⟨by rfl, ?_⟩
               intro w hSw
               (try dsimp only at hSw)
               (try go_split_ands)
               go_simp
               (first | done | with_reducible rfl))
        try simp only [Act.put, List.setIfInBounds_toArray, List.set_cons_zero, List.set_cons_succ]
        refine take_kl 16 ⟨?_, ?_, ?_, by kernel_rfl, by kernel_rfl, by kernel_rfl, ⟨by kernel_rfl, by kernel_rfl, by kernel_rfl⟩, ?_, ?_, by assumption, ?_⟩
        rotate_left 2
        · (simp only [List.getElem?_toArray, List.getElem?_cons_succ, List.getElem?_cons_zero]; exact rfl)
        · exact fun _ _ _ h => h
        · first
            | (refine Or.inr ⟨by rfl, ?_⟩; exact rfl)
            | (refine Or.inl ⟨by rfl, ?_⟩
               intro w hSw
               (try dsimp only at hSw)
               (try go_split_ands)
               go_simp
               (first | done | with_reducible rfl))
        try simp only [Act.put, List.setIfInBounds_toArray, List.set_cons_zero, List.set_cons_succ]
        refine take_kp 17 ⟨?_, ?_, ?_, by kernel_rfl, by kernel_rfl, by kernel_rfl, ⟨by kernel_rfl, by kernel_rfl⟩, ?_, ?_, by assumption, ?_⟩
        rotate_left 2
        · (simp only [List.getElem?_toArray, List.getElem?_cons_succ, List.getElem?_cons_zero]; exact rfl)
        · exact fun _ _ _ h => h
        · first
            | (refine Or.inr ⟨by rfl, ?_⟩; exact rfl)
            | (refine Or.inl ⟨by rfl, ?_⟩
               intro w hSw
               (try dsimp only at hSw)
               (try go_split_ands)
               go_simp
               (first | done | with_reducible rfl))
        try simp only [Act.put, List.setIfInBounds_toArray, List.set_cons_zero, List.set_cons_succ]
        refine take_kp 18 ⟨?_, ?_, ?_, by kernel_rfl, by kernel_rfl, by kernel_rfl, ⟨by kernel_rfl, by kernel_rfl⟩, ?_, ?_, by assumption, ?_⟩
        rotate_left 2
        · (simp only [List.getElem?_toArray, List.getElem?_cons_succ, List.getElem?_cons_zero]; exact rfl)
        · exact fun _ _ _ h => h
        · first
            | (refine Or.inr ⟨by rfl, ?_⟩; exact rfl)
            | (refine Or.inl ⟨by rfl, ?_⟩
               intro w hSw
               (try dsimp only at hSw)
               (try go_split_ands)
               go_simp
               (first | done | with_reducible rfl))
        try simp only [Act.put, List.setIfInBounds_toArray, List.set_cons_zero, List.set_cons_succ]
        refine call_k 6 (by kernel_rfl) ⟨?_, ?_, fun K hK => ?_⟩
        rotate_left 1
        · (simp only [List.getElem?_toArray, List.getElem?_cons_succ, List.getElem?_cons_zero]; exact rfl)
        go_simp
        (go_at_call 27; refine HCL.out.mono ?_; rintro e w3 ⟨v3, rfl, hv3, hb3⟩)
        go_wp2_with fail
        obtain ⟨vo3, vc3, rfl, _, _⟩ := (Rd.of_own hv3).form
        have hl3 : Left [] w2 w3 := Left.of_drew (Left.of_below hb3 [])
        have hh3 := H2.out.1.head.left hl3 (by simp)
        have e1 : w3.cell? ⟨R, 1, none⟩ = some (.slice vo L.l.length vc) := by rw [hh3.cell]; rfl
        have e2 : w3.cell? ⟨R, 2, none⟩ = some (.int .i64 L.size) := by rw [hh3.cell]; rfl
        have e3 : w3.cell? ⟨R, 3, none⟩ = some (.int .i64 L.region) := by rw [hh3.cell]; rfl
        have e4 : w3.cell? ⟨R, 4, none⟩ = some (.int .i64 gn) := by rw [hh3.cell, ← HG.out]; rfl
        have e5 : w3.cell? ⟨R, 5, none⟩ = some (.int .i64 L.at_) := by rw [hh3.cell]; rfl
        have f1 := hh3.free 1
        have f2 := hh3.free 2
        have f3 := hh3.free 3
        have f4 := hh3.free 4
        have f5 := hh3.free 5
        have H3 := Lib.hid (And.intro hv3 (And.intro hl3 hh3))
        clear hv3 hb3 hl3 hh3 d3 d4
        refine hK.out _ _ ⟨e3, e4⟩ (fun hHeld => ?_)
        clear hK K
        (try simp only [Act.put, List.setIfInBounds_toArray, List.set_cons_zero, List.set_cons_succ])
        refine tail_k (by kernel_rfl) (by kernel_rfl) (by kernel_rfl) ?_
        clear hHeld
        simp only [List.drop_succ_cons, List.drop_zero]
        have HI2 : ∀ wz, wz = ((((w3.setCell ⟨R, 1, none⟩ (.slice vo3 l.length vc3)).setCell ⟨R, 2, none⟩ (.int .i64 n1)).setCell ⟨R, 3, none⟩ (.int .i64 (1 - (L.region : Int)))).setCell ⟨R, 4, none⟩ (.int .i64 ((gn : Int) + 1))).setCell ⟨R, 5, none⟩ (.int .i64 a2) → LgW w base R RD F (.slice vo L.l.length vc) ⟨s2, l, n1, 1 - L.region, L.gen + 1, a2, L.dead⟩ wz := fun wz hwz => by
          have hlR : Left [R] w3 wz := by
            rw [hwz]
            exact (((((Left.refl [R] w3).setCell (Or.inl (by simp)) _).setCell (Or.inl (by simp)) _).setCell (Or.inl (by simp)) _).setCell (Or.inl (by simp)) _).setCell (Or.inl (by simp)) _
          have hge : ∀ k, (Value.slice vo3 l.length vc3).ownBlock = some k → w2.heap.size ≤ k := fun k hk => by
            have := (H3.out.1.lt k hk).1; simpa using this
          have hFl := H2.out.1.disk.lt
          have hRl := H2.out.1.head.lt
          refine ⟨F2, .slice vo3 l.length vc3, H2.out.1.setl (L' := ⟨s2, l, n1, 1 - L.region, L.gen + 1, a2, L.dead⟩) H3.out.2.1 (by simp) ?_ (fun k hk => ?_) hlR ?_ rfl, ?_, H2.out.2.2, fun k hk => ?_⟩
          · exact own_base H3.out.1 (by have := H2.out.2.1.size; have := HZ.out; simp; omega)
          · have := hge k hk
            exact ⟨fun hm => by have := (hFl k hm).2; omega, fun e => by omega⟩
          · have hw := ((((H3.out.2.2.put 1 (.slice vo3 l.length vc3)).put 2 (.int .i64 n1)).put 3 (.int .i64 (1 - (L.region : Int)))).put 4 (.int .i64 ((gn : Int) + 1))).put 5 (.int .i64 a2)
            rw [hwz, show lgHead RD (.slice vo3 l.length vc3) ⟨s2, l, n1, 1 - L.region, L.gen + 1, a2, L.dead⟩ = ((((((lgHead RD (.slice vo L.l.length vc) { L with d := s2 }).set 1 (.slice vo3 l.length vc3)).set 2 (.int .i64 n1)).set 3 (.int .i64 (1 - (L.region : Int)))).set 4 (.int .i64 ((gn : Int) + 1))).set 5 (.int .i64 a2)) by
              unfold lgHead
              simp only [List.set_cons_succ, List.set_cons_zero]
              rw [show ((1 - L.region : Nat) : Int) = 1 - (L.region : Int) by omega, HG.out]]
            exact hw
          · have hlA : Left (R :: (F ++ Value.ownL (.slice vo L.l.length vc))) w w3 := (H2.out.2.1.mono (fun k hk => by rw [List.mem_cons, List.mem_append]; exact .inr (.inl hk))).trans H3.out.2.1 (by simp)
            refine hlA.trans hlR (fun k hk => .inl ?_)
            simp only [List.mem_singleton] at hk
            simp [hk]
          · right; have := hge k hk; have := H2.out.2.1.size; omega
        have HI3 := Lib.hid HI2
        clear HI2
        go_wp2
        go_ret
        rw [← HA3.out]
        exact ⟨rfl, HI3.out _ rfl⟩
      · have hne : (e2 != 0) = true := bne_iff_ne.2 he2
        have HA3 : Hid ((e2, { L with d := s2, dead := true }) = A) := Lib.hid (by have := HA2.out; simpa [he2] using this)
        have HDD := Lib.hid (ldid H2.out.1.head e2)
        have hde : decide (e2 ≠ 0) = true := decide_eq_true he2
        rw [hde] at HDD
        clear d3 d4 hde
        go_wp2_with fail
        refine HDD.out.mono ?_
        rintro e w3 ⟨rfl, hl3, hW3⟩
        have HR : Hid (LgW w base R RD F (.slice vo L.l.length vc) { L with d := s2, dead := true } w3) := Lib.hid ⟨F2, _, H2.out.1.head_ hl3 rfl rfl hW3, (H2.out.2.1.mono (T := R :: (F ++ Value.ownL (.slice vo L.l.length vc))) (fun k hk => by rw [List.mem_cons, List.mem_append]; exact .inr (.inl hk))).trans hl3 (fun k hk => .inl (by simp only [List.mem_singleton] at hk; simp [hk])), H2.out.2.2, fun k hk => .inl hk⟩
        clear hl3 hW3
        go_wp2
        go_ret
        rw [← HA3.out]
        exact ⟨rfl, HR.out⟩
    · have hne : (e1 != 0) = true := bne_iff_ne.2 he1
      have HA2 : Hid ((e1, L) = A) := Lib.hid (by have := HA1.out; simpa [he1] using this)
      go_enter Try.func11, Try.ntmps11
      go_wp2_with (go_at_call 28; refine HCN.out.mono ?_; rintro e w' ⟨rfl, rfl⟩)
      go_ret
      rw [← HA2.out]
      exact ⟨rfl, LgW.refl H.out⟩
end
end Go.Proofs.Ytcgdlmlolmfinaa
