/- The law's act Push. -/




import Derived.Test.YtfffehbipcikoaaRgDoes3
import Derived.Deep.CutBlock
import Derived.Outline
namespace Go.Proofs.Ytfffehbipcikoaa
open Go.RowKit Go.MapKept

section
variable {w w' : World} {base q : Nat} {s : Nat → Nat} {hv : Value} {hs : List Nat}
/-- The first head is taken. -/
theorem JX.pop_head {x : Nat} (h : JX w base s q hv (x :: hs)) : ∃ g o cap, hv = .slice (some ⟨g, o, none⟩) (hs.length + 1) cap ∧ hs.length + 1 ≤ cap ∧ cap ≤ maxLen ∧ w.cell? ⟨g, o, none⟩ = some (.int .i64 (x : Int)) ∧
    ∀ v', v' = (if cap = 1 then .slice (some ⟨g, o, none⟩) 0 0 else .slice (some ⟨g, o + 1, none⟩) hs.length (cap - 1)) → JX (w.setCell ⟨s 0, 6, none⟩ v') base s q v' hs ∧ Below base w (w.setCell ⟨s 0, 6, none⟩ v') := by
  obtain ⟨p, r, h1, h2⟩ := h
  obtain ⟨g, o, cap, rfl, hb, hg, hc, hm, hcell⟩ := h1.heads.at_ (by simp)
  have h0 := h1.old 0 (by omega)
  refine ⟨g, o, cap, rfl, hc, hm, ?_, fun v' hv' => ?_⟩
  · have := hcell 0 _ rfl
    exact this
  · have hrow : Row w base 3 1 v' hs.length (i64s hs) ∧ v'.ownBlock = some g := by
      have hr := h1.heads
      by_cases hc1 : cap = 1
      · subst hc1
        rw [if_pos rfl] at hv'
        subst hv'
        obtain ⟨e1, e2, e3⟩ := Row.tail0 (x := [.int .i64 (x : Int)]) (xs := i64s hs) (n := hs.length) hr rfl
        have : hs = [] := List.eq_nil_of_length_eq_zero e1
        subst this
        exact ⟨e3, rfl⟩
      · rw [if_neg hc1] at hv'
        subst hv'
        exact ⟨Row.tail (x := [.int .i64 (x : Int)]) (xs := i64s hs) hr rfl (by simp at hc; omega), rfl⟩
    have hl : Left [s 0] w (w.setCell ⟨s 0, 6, none⟩ v') := (Left.refl _ _).setCell (Or.inl (by simp)) _
    have hvn : ∀ k, v'.ownBlock = some k → (∀ i, i < 18 → k ≠ s i) ∧ k ∉ r.F ∧ NoRow w (s 3) k := fun k hk => by
      rw [hrow.2] at hk
      injection hk with hk
      subst hk
      exact h1.hvn g rfl
    refine ⟨⟨p, r, h1.heads_ hl (fun k hk => ?_) (h1.hal.put 6 v') (hrow.1.left hl (fun k hk e => ?_)) hvn (fun y hy => h1.hsm y (by simp [hy])), h2⟩, hl.belowB (by omega) (by simpa using h0.1)⟩
    · simp only [List.mem_singleton] at hk
      subst hk
      exact ⟨fun i h1' hi e => by have := (h1.inj 0 i (by omega) hi).1 e; omega, fun hm => (h1.fn _ hm).2 0 (by omega) rfl, h1.nor 0 (by omega)⟩
    · simp only [List.mem_singleton] at hk
      exact (hvn k e).1 0 (by omega) hk
end
set_option maxRecDepth 20000 in
set_option maxHeartbeats 2000000 in
theorem does_push (w : World) (base : Nat) (s : Nat → Nat) (q : Nat) (hv : Value) (hs : List Nat) (dk n at_ : Int) (lv : Value) (v : Nat) (h : JX w base s q hv hs) (hlen : hs.length ≤ 100) (kind : Int) (hk : kind = 9 ∨ kind = 10) :
    Calls Try.prog 48 #[.pointer (some ⟨s 0, 0, none⟩), actV dk n at_ lv v, .int .i64 kind] w (DoesH base s q hs w) := by
  unfold actV
  have hb0 := h.base_le
  have hb1 : Below base w (w.alloc (.cells #[.int .i64 dk, .int .i64 n, .int .i64 at_, lv, .int .u64 v] 77)) := (Below.refl _ _).alloc hb0 _
  have hJ1 : JX (w.alloc (.cells #[.int .i64 dk, .int .i64 n, .int .i64 at_, lv, .int .u64 v] 77)) base s q hv hs := h.left0 ((Left.refl _ _).alloc _)
  obtain ⟨hW, hlt, _, hnp, hnq⟩ := h.hal
  have c0 : w.cell? ⟨s 0, 0, none⟩ = some (.pointer (some ⟨s 6, 0, none⟩)) := by rw [hW.cell]; rfl
  have c1 : w.cell? ⟨s 0, 1, none⟩ = some (.pointer (some ⟨s 1, 0, none⟩)) := by rw [hW.cell]; rfl
  have c2 : w.cell? ⟨s 0, 2, none⟩ = some (.pointer (some ⟨s 5, 0, none⟩)) := by rw [hW.cell]; rfl
  have c3 : w.cell? ⟨s 0, 3, none⟩ = some (.pointer (some ⟨s 8, 0, none⟩)) := by rw [hW.cell]; rfl
  have c4 : w.cell? ⟨s 0, 4, none⟩ = some (.pointer (some ⟨s 10, 0, none⟩)) := by rw [hW.cell]; rfl
  have c5 : w.cell? ⟨s 0, 5, none⟩ = some (.pointer (some ⟨s 14, 0, none⟩)) := by rw [hW.cell]; rfl
  have c6 : w.cell? ⟨s 0, 6, none⟩ = some hv := by rw [hW.cell]; rfl
  have f6 := hW.free 6
  have hform := hJ1.heads_at.1.form
  have HW0 := Lib.hid h
  have HJ1 := Lib.hid hJ1
  have HB1 := Lib.hid hb1
  have HW := Lib.hid hW
  have HNP := Lib.hid hnp
  have HNQ := Lib.hid hnq
  have HPB : Hid (w.heap.size ∉ PL s) := Lib.hid (fun hm => by obtain ⟨j, _, h2, e⟩ := PL_mem hm; obtain ⟨p, r, hJ, _⟩ := h; have := (hJ.old j (by omega)).2; omega)
  have HQB : Hid (w.heap.size ∉ QL s) := Lib.hid (fun hm => by obtain ⟨j, _, h2, e⟩ := QL_mem hm; obtain ⟨p, r, hJ, _⟩ := h; have := (hJ.old j (by omega)).2; omega)
  clear h hb1 hJ1 hW
  obtain ⟨m8, hm8⟩ : ∃ m8, n.tmod 8 = m8 := ⟨_, rfl⟩
  have hm9 : -8 < m8 ∧ m8 < 8 := by
    rw [← hm8]
    rcases Int.le_total 0 n with h | h
    · rw [Int.tmod_eq_emod_of_nonneg h]; omega
    · obtain ⟨k, rfl⟩ : ∃ k : Int, n = -k := ⟨-n, by omega⟩
      rw [Int.neg_tmod, Int.tmod_eq_emod_of_nonneg (by omega)]; omega
  have hw8 : IntKind.i64.wrap m8 = m8 := IntWalk.i64_in _ ⟨by omega, by omega⟩
  obtain ⟨hao, hcap, rfl, hhc, hhm⟩ := hform
  cases hs with
  | nil =>
    clear hhc hhm
    simp only [List.length_nil] at c6
    rcases hk with rfl | rfl
    · go_enter Try.func48, Try.ntmps48
      go_upto_region 30 with fail
      have ib : (w.alloc (.cells #[.int .i64 dk, .int .i64 n, .int .i64 at_, lv, .int .u64 v] 77)).cell? ⟨w.heap.size, 1, none⟩ = some (.int .i64 n) := by simp
      have HJW := HJ1
      have HBW := HB1
      clear c0 c1 c2 c3 c4 c5 c6 f6
      have hbw1 : base ≤ (w.alloc (.cells #[.int .i64 dk, .int .i64 n, .int .i64 at_, lv, .int .u64 v] 77)).heap.size := HJ1.out.base_le
      have HJ1 := trivial
      have HB1 := trivial
      generalize (w.alloc (.cells #[.int .i64 dk, .int .i64 n, .int .i64 at_, lv, .int .u64 v] 77)) = w1 at ib HJW HBW hbw1 ⊢
      have hW7 := HJW.out.hal.1
      have i2 : w1.cell? ⟨s 0, 2, none⟩ = some (.pointer (some ⟨s 5, 0, none⟩)) := by rw [hW7.cell]; rfl
      have i5 : w1.cell? ⟨s 0, 5, none⟩ = some (.pointer (some ⟨s 14, 0, none⟩)) := by rw [hW7.cell]; rfl
      have HW7 := Lib.hid hW7
      obtain ⟨er, M, hc1, hc2⟩ := (HJW.out.left0 (Left.refl [] _).drew).push at_ n
      have HC1 := Lib.hid hc1
      have HC2 := Lib.hid hc2
      clear hc1 hc2 hW7
      refine wp_region_held_drew (S := fun wx => wx.cell? ⟨s 0, 2, none⟩ = some (.pointer (some ⟨s 5, 0, none⟩)) ∧ wx.cell? ⟨s 0, 5, none⟩ = some (.pointer (some ⟨s 14, 0, none⟩)) ∧ wx.cell? ⟨w.heap.size, 1, none⟩ = some (.int .i64 n)) (by kernel_rfl) ⟨i2, i5, ib⟩ (fun hHeld => ?_)
      refine take_h 0 ⟨?_, ?_, ?_, by kernel_rfl, by kernel_rfl, by kernel_rfl, ?_, ?_, by assumption, ?_⟩
      rotate_left 2
      · (simp only [List.getElem?_toArray, List.getElem?_cons_zero]; exact rfl)
      · exact fun _ _ _ h => h
      · first
          | (refine Or.inr ⟨by rfl, ?_⟩; exact rfl)
          | (refine Or.inl ⟨by rfl, ?_⟩
             intro w hSw
             (try dsimp only at hSw)
             (try go_split_ands)
             go_simp
             (first | done | with_reducible rfl))
      try simp only [Act.put, List.setIfInBounds_toArray, List.set_cons_zero, List.set_cons_succ]
      refine take_h 1 ⟨?_, ?_, ?_, by kernel_rfl, by kernel_rfl, by kernel_rfl, ?_, ?_, by assumption, ?_⟩
      rotate_left 2
      · (simp only [List.getElem?_toArray, List.getElem?_cons_succ, List.getElem?_cons_zero]; exact rfl)
      · exact fun _ _ _ h => h
      · first
          | (refine Or.inr ⟨by rfl, ?_⟩; exact rfl)
          | (refine Or.inl ⟨by rfl, ?_⟩
             intro w hSw
             (try dsimp only at hSw)
             (try go_split_ands)
             go_simp
             (first | done | with_reducible rfl))
      try simp only [Act.put, List.setIfInBounds_toArray, List.set_cons_zero, List.set_cons_succ]
      refine take_h 2 ⟨?_, ?_, ?_, by kernel_rfl, by kernel_rfl, by kernel_rfl, ?_, ?_, by assumption, ?_⟩
      rotate_left 2
      · (simp only [List.getElem?_toArray, List.getElem?_cons_succ, List.getElem?_cons_zero]; exact rfl)
      · exact fun _ _ _ h => h
      · first
          | (refine Or.inr ⟨by rfl, ?_⟩; exact rfl)
          | (refine Or.inl ⟨by rfl, ?_⟩
             intro w hSw
             (try dsimp only at hSw)
             (try go_split_ands)
             go_simp
             (first | done | with_reducible rfl))
      try simp only [Act.put, List.setIfInBounds_toArray, List.set_cons_zero, List.set_cons_succ]
      refine take_h 3 ⟨?_, ?_, ?_, by kernel_rfl, by kernel_rfl, by kernel_rfl, ?_, ?_, by assumption, ?_⟩
      rotate_left 2
      · (simp only [List.getElem?_toArray, List.getElem?_cons_succ, List.getElem?_cons_zero]; exact rfl)
      · exact fun _ _ _ h => h
      · first
          | (refine Or.inr ⟨by rfl, ?_⟩; exact rfl)
          | (refine Or.inl ⟨by rfl, ?_⟩
             intro w hSw
             (try dsimp only at hSw)
             (try go_split_ands)
             go_simp
             (first | done | with_reducible rfl))
      try simp only [Act.put, List.setIfInBounds_toArray, List.set_cons_zero, List.set_cons_succ]
      refine take_h 4 ⟨?_, ?_, ?_, by kernel_rfl, by kernel_rfl, by kernel_rfl, ?_, ?_, by assumption, ?_⟩
      rotate_left 2
      · (simp only [List.getElem?_toArray, List.getElem?_cons_succ, List.getElem?_cons_zero]; exact rfl)
      · exact fun _ _ _ h => h
      · first
          | (refine Or.inr ⟨by rfl, ?_⟩; exact rfl)
          | (refine Or.inl ⟨by rfl, ?_⟩
             intro w hSw
             (try dsimp only at hSw)
             (try go_split_ands)
             go_simp
             (first | done | with_reducible rfl))
      try simp only [Act.put, List.setIfInBounds_toArray, List.set_cons_zero, List.set_cons_succ]
      refine take_h 5 ⟨?_, ?_, ?_, by kernel_rfl, by kernel_rfl, by kernel_rfl, ?_, ?_, by assumption, ?_⟩
      rotate_left 2
      · (simp only [List.getElem?_toArray, List.getElem?_cons_succ, List.getElem?_cons_zero]; exact rfl)
      · exact fun _ _ _ h => h
      · first
          | (refine Or.inr ⟨by rfl, ?_⟩; exact rfl)
          | (refine Or.inl ⟨by rfl, ?_⟩
             intro w hSw
             (try dsimp only at hSw)
             (try go_split_ands)
             go_simp
             (first | done | with_reducible rfl))
      try simp only [Act.put, List.setIfInBounds_toArray, List.set_cons_zero, List.set_cons_succ]
      refine take_h 6 ⟨?_, ?_, ?_, by kernel_rfl, by kernel_rfl, by kernel_rfl, ?_, ?_, by assumption, ?_⟩
      rotate_left 2
      · (simp only [List.getElem?_toArray, List.getElem?_cons_succ, List.getElem?_cons_zero]; exact rfl)
      · exact fun _ _ _ h => h
      · first
          | (refine Or.inr ⟨by rfl, ?_⟩; exact rfl)
          | (refine Or.inl ⟨by rfl, ?_⟩
             intro w hSw
             (try dsimp only at hSw)
             (try go_split_ands)
             go_simp
             (first | done | with_reducible rfl))
      try simp only [Act.put, List.setIfInBounds_toArray, List.set_cons_zero, List.set_cons_succ]
      refine take_h 9 ⟨?_, ?_, ?_, by kernel_rfl, by kernel_rfl, by kernel_rfl, ?_, ?_, by assumption, ?_⟩
      rotate_left 2
      · (simp only [List.getElem?_toArray, List.getElem?_cons_succ, List.getElem?_cons_zero]; exact rfl)
      · exact fun _ _ _ h => h
      · first
          | (refine Or.inr ⟨by rfl, ?_⟩; exact rfl)
          | (refine Or.inl ⟨by rfl, ?_⟩
             intro w hSw
             (try dsimp only at hSw)
             (try go_split_ands)
             go_simp
             (first | done | with_reducible rfl))
      try simp only [Act.put, List.setIfInBounds_toArray, List.set_cons_zero, List.set_cons_succ]
      refine take_h 10 ⟨?_, ?_, ?_, by kernel_rfl, by kernel_rfl, by kernel_rfl, ?_, ?_, by assumption, ?_⟩
      rotate_left 2
      · (simp only [List.getElem?_toArray, List.getElem?_cons_succ, List.getElem?_cons_zero]; exact rfl)
      · exact fun _ _ _ h => h
      · first
          | (refine Or.inr ⟨by rfl, ?_⟩; exact rfl)
          | (refine Or.inl ⟨by rfl, ?_⟩
             intro w hSw
             (try dsimp only at hSw)
             (try go_split_ands)
             go_simp
             (first | done | with_reducible rfl))
      try simp only [Act.put, List.setIfInBounds_toArray, List.set_cons_zero, List.set_cons_succ]
      refine take_h 11 ⟨?_, ?_, ?_, by kernel_rfl, by kernel_rfl, by kernel_rfl, ?_, ?_, by assumption, ?_⟩
      rotate_left 2
      · (simp only [List.getElem?_toArray, List.getElem?_cons_succ, List.getElem?_cons_zero]; exact rfl)
      · exact fun _ _ _ h => h
      · first
          | (refine Or.inr ⟨by rfl, ?_⟩; exact rfl)
          | (refine Or.inl ⟨by rfl, ?_⟩
             intro w hSw
             (try dsimp only at hSw)
             (try go_split_ands)
             go_simp
             (first | done | with_reducible rfl))
      try simp only [Act.put, List.setIfInBounds_toArray, List.set_cons_zero, List.set_cons_succ]
      refine take_h 12 ⟨?_, ?_, ?_, by kernel_rfl, by kernel_rfl, by kernel_rfl, ?_, ?_, by assumption, ?_⟩
      rotate_left 2
      · (simp only [List.getElem?_toArray, List.getElem?_cons_succ, List.getElem?_cons_zero]; exact rfl)
      · exact fun _ _ _ h => h
      · first
          | (refine Or.inr ⟨by rfl, ?_⟩; exact rfl)
          | (refine Or.inl ⟨by rfl, ?_⟩
             intro w hSw
             (try dsimp only at hSw)
             (try go_split_ands)
             go_simp
             (first | done | with_reducible rfl))
      try simp only [Act.put, List.setIfInBounds_toArray, List.set_cons_zero, List.set_cons_succ]
      refine take_h 13 ⟨?_, ?_, ?_, by kernel_rfl, by kernel_rfl, by kernel_rfl, ?_, ?_, by assumption, ?_⟩
      rotate_left 2
      · (simp only [List.getElem?_toArray, List.getElem?_cons_succ, List.getElem?_cons_zero]; exact rfl)
      · exact fun _ _ _ h => h
      · first
          | (refine Or.inr ⟨by rfl, ?_⟩; exact rfl)
          | (refine Or.inl ⟨by rfl, ?_⟩
             intro w hSw
             (try dsimp only at hSw)
             (try go_split_ands)
             go_simp
             (first | done | with_reducible rfl))
      try simp only [Act.put, List.setIfInBounds_toArray, List.set_cons_zero, List.set_cons_succ]
      refine take_h 14 ⟨?_, ?_, ?_, by kernel_rfl, by kernel_rfl, by kernel_rfl, ?_, ?_, by assumption, ?_⟩
      rotate_left 2
      · (simp only [List.getElem?_toArray, List.getElem?_cons_succ, List.getElem?_cons_zero]; exact rfl)
      · exact fun _ _ _ h => h
      · first
          | (refine Or.inr ⟨by rfl, ?_⟩; exact rfl)
          | (refine Or.inl ⟨by rfl, ?_⟩
             intro w hSw
             (try dsimp only at hSw)
             (try go_split_ands)
             go_simp
             (first | done | with_reducible rfl))
      try simp only [Act.put, List.setIfInBounds_toArray, List.set_cons_zero, List.set_cons_succ]
      refine take_h 15 ⟨?_, ?_, ?_, by kernel_rfl, by kernel_rfl, by kernel_rfl, ?_, ?_, by assumption, ?_⟩
      rotate_left 2
      · (simp only [List.getElem?_toArray, List.getElem?_cons_succ, List.getElem?_cons_zero]; exact rfl)
      · exact fun _ _ _ h => h
      · first
          | (refine Or.inr ⟨by rfl, ?_⟩; exact rfl)
          | (refine Or.inl ⟨by rfl, ?_⟩
             intro w hSw
             (try dsimp only at hSw)
             (try go_split_ands)
             go_simp
             (first | done | with_reducible rfl))
      try simp only [Act.put, List.setIfInBounds_toArray, List.set_cons_zero, List.set_cons_succ]
      refine wpAnyH_ready (rs := [7]) (by kernel_rfl) (by simp) ?_
      refine call_h 7 ⟨?_, ?_, fun K hK => ?_⟩
      rotate_left 1
      · (simp only [List.getElem?_toArray, List.getElem?_cons_succ, List.getElem?_cons_zero]; exact rfl)
      go_simp
      (go_at_call 42; refine HC1.out.mono ?_; rintro e w2 ⟨rfl, hM, hl1⟩)
      go_wp2_with fail
      have hl1' : Left (PL s) w1 w2 := ⟨hl1.os, hl1.tape, hl1.output, hl1.size, hl1.block⟩
      have HB2 := Lib.hid (HBW.out.trans (HJW.out.belowP hl1'))
      have hz2 := hl1'.size
      have HM := Lib.hid hM
      have j2 := cell_left' i2 hl1' HNP.out
      have j5 := cell_left' i5 hl1' HNP.out
      have jb := cell_left' ib hl1' HPB.out
      clear hM hl1 hl1' i2 i5 ib
      refine hK.out _ _ ⟨j2, j5, jb⟩ (fun hHeld => ?_)
      clear hK K
      (try simp only [Act.put, List.setIfInBounds_toArray, List.set_cons_zero, List.set_cons_succ])
      refine wpAnyH_ready (rs := [8]) (by kernel_rfl) (by simp) ?_
      refine call_h 8 ⟨?_, ?_, fun K hK => ?_⟩
      rotate_left 1
      · (simp only [List.getElem?_toArray, List.getElem?_cons_succ, List.getElem?_cons_zero]; exact rfl)
      go_simp
      (go_at_call 16; refine (num2_any _ _).mono ?_; rintro e w' ⟨rfl, rfl⟩)
      go_wp2_with fail
      refine hK.out _ _ ⟨j2, j5, jb⟩ (fun hHeld => ?_)
      clear hK K
      (try simp only [Act.put, List.setIfInBounds_toArray, List.set_cons_zero, List.set_cons_succ])
      refine wpAnyH_ready (rs := [16]) (by kernel_rfl) (by simp) ?_
      refine call_h 16 ⟨?_, ?_, fun K hK => ?_⟩
      rotate_left 1
      · (simp only [List.getElem?_toArray, List.getElem?_cons_succ, List.getElem?_cons_zero]; exact rfl)
      go_simp
      (go_at_call 79; refine (HC2.out w2 HM.out).mono ?_; rintro e w3 ⟨rfl, hJ3, hl2⟩)
      go_wp2_with fail
      have HJ3 := Lib.hid hJ3
      have HB3 := Lib.hid (HB2.out.trans (HJW.out.belowQ (Nat.le_trans hbw1 hz2) hl2))
      have l2 := cell_left' j2 hl2 HNQ.out
      have l5 := cell_left' j5 hl2 HNQ.out
      have lb := cell_left' jb hl2 HQB.out
      have hW3 := hJ3.hal.1
      have e1 : w3.cell? ⟨s 0, 1, none⟩ = some (.pointer (some ⟨s 1, 0, none⟩)) := by rw [hW3.cell]; rfl
      have e4 : w3.cell? ⟨s 0, 4, none⟩ = some (.pointer (some ⟨s 10, 0, none⟩)) := by rw [hW3.cell]; rfl
      clear hJ3 hl2 hW3 j2 j5 jb
      refine hK.out _ _ ⟨l2, l5, lb⟩ (fun hHeld => ?_)
      clear hK K l2 l5 lb
      (try simp only [Act.put, List.setIfInBounds_toArray, List.set_cons_zero, List.set_cons_succ])
      refine take_h 17 ⟨?_, ?_, ?_, by kernel_rfl, by kernel_rfl, by kernel_rfl, ?_, ?_, by assumption, ?_⟩
      rotate_left 2
      · (simp only [List.getElem?_toArray, List.getElem?_cons_succ, List.getElem?_cons_zero]; exact rfl)
      · exact fun _ _ _ h => h
      · first
          | (refine Or.inr ⟨by rfl, ?_⟩; exact rfl)
          | (refine Or.inl ⟨by rfl, ?_⟩
             intro w hSw
             (try dsimp only at hSw)
             (try go_split_ands)
             go_simp
             (first | done | with_reducible rfl))
      try simp only [Act.put, List.setIfInBounds_toArray, List.set_cons_zero, List.set_cons_succ]
      refine wpAnyH_done (by kernel_rfl) ?_ _
      clear hHeld
      obtain ⟨fn, hf1, hf2⟩ := HJ3.out.free
      have HF1 := Lib.hid hf1
      have HF2 := Lib.hid hf2
      clear hf1 hf2
      go_wp2_with fail
      go_quiet ((first | (go_at_call 39; exact Calls.quiet_of_same (HF1.out _)) | (go_at_call 81; exact Calls.quiet_of_same (HF2.out _))))
      go_wp2
      go_ret
      exact ⟨rfl, ⟨_, _, HJ3.out.left0 ((Left.refl _ _).drewN _), by first | (simp; done) | (simp; omega)⟩, below_drewN HB3.out _⟩
    · go_enter Try.func48, Try.ntmps48
      go_upto_region 30 with fail
      have ib : (w.alloc (.cells #[.int .i64 dk, .int .i64 n, .int .i64 at_, lv, .int .u64 v] 77)).cell? ⟨w.heap.size, 1, none⟩ = some (.int .i64 n) := by simp
      have HJW := HJ1
      have HBW := HB1
      clear c0 c1 c2 c3 c4 c5 c6 f6
      have hbw1 : base ≤ (w.alloc (.cells #[.int .i64 dk, .int .i64 n, .int .i64 at_, lv, .int .u64 v] 77)).heap.size := HJ1.out.base_le
      have HJ1 := trivial
      have HB1 := trivial
      generalize (w.alloc (.cells #[.int .i64 dk, .int .i64 n, .int .i64 at_, lv, .int .u64 v] 77)) = w1 at ib HJW HBW hbw1 ⊢
      have hW7 := HJW.out.hal.1
      have i2 : w1.cell? ⟨s 0, 2, none⟩ = some (.pointer (some ⟨s 5, 0, none⟩)) := by rw [hW7.cell]; rfl
      have i5 : w1.cell? ⟨s 0, 5, none⟩ = some (.pointer (some ⟨s 14, 0, none⟩)) := by rw [hW7.cell]; rfl
      have HW7 := Lib.hid hW7
      obtain ⟨er, M, hc1, hc2⟩ := (HJW.out.left0 (Left.refl [] _).drew).push at_ n
      have HC1 := Lib.hid hc1
      have HC2 := Lib.hid hc2
      clear hc1 hc2 hW7
      refine wp_region_held_drew (S := fun wx => wx.cell? ⟨s 0, 2, none⟩ = some (.pointer (some ⟨s 5, 0, none⟩)) ∧ wx.cell? ⟨s 0, 5, none⟩ = some (.pointer (some ⟨s 14, 0, none⟩)) ∧ wx.cell? ⟨w.heap.size, 1, none⟩ = some (.int .i64 n)) (by kernel_rfl) ⟨i2, i5, ib⟩ (fun hHeld => ?_)
      refine take_h 0 ⟨?_, ?_, ?_, by kernel_rfl, by kernel_rfl, by kernel_rfl, ?_, ?_, by assumption, ?_⟩
      rotate_left 2
      · (simp only [List.getElem?_toArray, List.getElem?_cons_zero]; exact rfl)
      · exact fun _ _ _ h => h
      · first
          | (refine Or.inr ⟨by rfl, ?_⟩; exact rfl)
          | (refine Or.inl ⟨by rfl, ?_⟩
             intro w hSw
             (try dsimp only at hSw)
             (try go_split_ands)
             go_simp
             (first | done | with_reducible rfl))
      try simp only [Act.put, List.setIfInBounds_toArray, List.set_cons_zero, List.set_cons_succ]
      refine take_h 1 ⟨?_, ?_, ?_, by kernel_rfl, by kernel_rfl, by kernel_rfl, ?_, ?_, by assumption, ?_⟩
      rotate_left 2
      · (simp only [List.getElem?_toArray, List.getElem?_cons_succ, List.getElem?_cons_zero]; exact rfl)
      · exact fun _ _ _ h => h
      · first
          | (refine Or.inr ⟨by rfl, ?_⟩; exact rfl)
          | (refine Or.inl ⟨by rfl, ?_⟩
             intro w hSw
             (try dsimp only at hSw)
             (try go_split_ands)
             go_simp
             (first | done | with_reducible rfl))
      try simp only [Act.put, List.setIfInBounds_toArray, List.set_cons_zero, List.set_cons_succ]
      refine take_h 2 ⟨?_, ?_, ?_, by kernel_rfl, by kernel_rfl, by kernel_rfl, ?_, ?_, by assumption, ?_⟩
      rotate_left 2
      · (simp only [List.getElem?_toArray, List.getElem?_cons_succ, List.getElem?_cons_zero]; exact rfl)
      · exact fun _ _ _ h => h
      · first
          | (refine Or.inr ⟨by rfl, ?_⟩; exact rfl)
          | (refine Or.inl ⟨by rfl, ?_⟩
             intro w hSw
             (try dsimp only at hSw)
             (try go_split_ands)
             go_simp
             (first | done | with_reducible rfl))
      try simp only [Act.put, List.setIfInBounds_toArray, List.set_cons_zero, List.set_cons_succ]
      refine take_h 3 ⟨?_, ?_, ?_, by kernel_rfl, by kernel_rfl, by kernel_rfl, ?_, ?_, by assumption, ?_⟩
      rotate_left 2
      · (simp only [List.getElem?_toArray, List.getElem?_cons_succ, List.getElem?_cons_zero]; exact rfl)
      · exact fun _ _ _ h => h
      · first
          | (refine Or.inr ⟨by rfl, ?_⟩; exact rfl)
          | (refine Or.inl ⟨by rfl, ?_⟩
             intro w hSw
             (try dsimp only at hSw)
             (try go_split_ands)
             go_simp
             (first | done | with_reducible rfl))
      try simp only [Act.put, List.setIfInBounds_toArray, List.set_cons_zero, List.set_cons_succ]
      refine take_h 4 ⟨?_, ?_, ?_, by kernel_rfl, by kernel_rfl, by kernel_rfl, ?_, ?_, by assumption, ?_⟩
      rotate_left 2
      · (simp only [List.getElem?_toArray, List.getElem?_cons_succ, List.getElem?_cons_zero]; exact rfl)
      · exact fun _ _ _ h => h
      · first
          | (refine Or.inr ⟨by rfl, ?_⟩; exact rfl)
          | (refine Or.inl ⟨by rfl, ?_⟩
             intro w hSw
             (try dsimp only at hSw)
             (try go_split_ands)
             go_simp
             (first | done | with_reducible rfl))
      try simp only [Act.put, List.setIfInBounds_toArray, List.set_cons_zero, List.set_cons_succ]
      refine take_h 5 ⟨?_, ?_, ?_, by kernel_rfl, by kernel_rfl, by kernel_rfl, ?_, ?_, by assumption, ?_⟩
      rotate_left 2
      · (simp only [List.getElem?_toArray, List.getElem?_cons_succ, List.getElem?_cons_zero]; exact rfl)
      · exact fun _ _ _ h => h
      · first
          | (refine Or.inr ⟨by rfl, ?_⟩; exact rfl)
          | (refine Or.inl ⟨by rfl, ?_⟩
             intro w hSw
             (try dsimp only at hSw)
             (try go_split_ands)
             go_simp
             (first | done | with_reducible rfl))
      try simp only [Act.put, List.setIfInBounds_toArray, List.set_cons_zero, List.set_cons_succ]
      refine take_h 6 ⟨?_, ?_, ?_, by kernel_rfl, by kernel_rfl, by kernel_rfl, ?_, ?_, by assumption, ?_⟩
      rotate_left 2
      · (simp only [List.getElem?_toArray, List.getElem?_cons_succ, List.getElem?_cons_zero]; exact rfl)
      · exact fun _ _ _ h => h
      · first
          | (refine Or.inr ⟨by rfl, ?_⟩; exact rfl)
          | (refine Or.inl ⟨by rfl, ?_⟩
             intro w hSw
             (try dsimp only at hSw)
             (try go_split_ands)
             go_simp
             (first | done | with_reducible rfl))
      try simp only [Act.put, List.setIfInBounds_toArray, List.set_cons_zero, List.set_cons_succ]
      refine take_h 9 ⟨?_, ?_, ?_, by kernel_rfl, by kernel_rfl, by kernel_rfl, ?_, ?_, by assumption, ?_⟩
      rotate_left 2
      · (simp only [List.getElem?_toArray, List.getElem?_cons_succ, List.getElem?_cons_zero]; exact rfl)
      · exact fun _ _ _ h => h
      · first
          | (refine Or.inr ⟨by rfl, ?_⟩; exact rfl)
          | (refine Or.inl ⟨by rfl, ?_⟩
             intro w hSw
             (try dsimp only at hSw)
             (try go_split_ands)
             go_simp
             (first | done | with_reducible rfl))
      try simp only [Act.put, List.setIfInBounds_toArray, List.set_cons_zero, List.set_cons_succ]
      refine take_h 10 ⟨?_, ?_, ?_, by kernel_rfl, by kernel_rfl, by kernel_rfl, ?_, ?_, by assumption, ?_⟩
      rotate_left 2
      · (simp only [List.getElem?_toArray, List.getElem?_cons_succ, List.getElem?_cons_zero]; exact rfl)
      · exact fun _ _ _ h => h
      · first
          | (refine Or.inr ⟨by rfl, ?_⟩; exact rfl)
          | (refine Or.inl ⟨by rfl, ?_⟩
             intro w hSw
             (try dsimp only at hSw)
             (try go_split_ands)
             go_simp
             (first | done | with_reducible rfl))
      try simp only [Act.put, List.setIfInBounds_toArray, List.set_cons_zero, List.set_cons_succ]
      refine take_h 11 ⟨?_, ?_, ?_, by kernel_rfl, by kernel_rfl, by kernel_rfl, ?_, ?_, by assumption, ?_⟩
      rotate_left 2
      · (simp only [List.getElem?_toArray, List.getElem?_cons_succ, List.getElem?_cons_zero]; exact rfl)
      · exact fun _ _ _ h => h
      · first
          | (refine Or.inr ⟨by rfl, ?_⟩; exact rfl)
          | (refine Or.inl ⟨by rfl, ?_⟩
             intro w hSw
             (try dsimp only at hSw)
             (try go_split_ands)
             go_simp
             (first | done | with_reducible rfl))
      try simp only [Act.put, List.setIfInBounds_toArray, List.set_cons_zero, List.set_cons_succ]
      refine take_h 12 ⟨?_, ?_, ?_, by kernel_rfl, by kernel_rfl, by kernel_rfl, ?_, ?_, by assumption, ?_⟩
      rotate_left 2
      · (simp only [List.getElem?_toArray, List.getElem?_cons_succ, List.getElem?_cons_zero]; exact rfl)
      · exact fun _ _ _ h => h
      · first
          | (refine Or.inr ⟨by rfl, ?_⟩; exact rfl)
          | (refine Or.inl ⟨by rfl, ?_⟩
             intro w hSw
             (try dsimp only at hSw)
             (try go_split_ands)
             go_simp
             (first | done | with_reducible rfl))
      try simp only [Act.put, List.setIfInBounds_toArray, List.set_cons_zero, List.set_cons_succ]
      refine take_h 13 ⟨?_, ?_, ?_, by kernel_rfl, by kernel_rfl, by kernel_rfl, ?_, ?_, by assumption, ?_⟩
      rotate_left 2
      · (simp only [List.getElem?_toArray, List.getElem?_cons_succ, List.getElem?_cons_zero]; exact rfl)
      · exact fun _ _ _ h => h
      · first
          | (refine Or.inr ⟨by rfl, ?_⟩; exact rfl)
          | (refine Or.inl ⟨by rfl, ?_⟩
             intro w hSw
             (try dsimp only at hSw)
             (try go_split_ands)
             go_simp
             (first | done | with_reducible rfl))
      try simp only [Act.put, List.setIfInBounds_toArray, List.set_cons_zero, List.set_cons_succ]
      refine take_h 14 ⟨?_, ?_, ?_, by kernel_rfl, by kernel_rfl, by kernel_rfl, ?_, ?_, by assumption, ?_⟩
      rotate_left 2
      · (simp only [List.getElem?_toArray, List.getElem?_cons_succ, List.getElem?_cons_zero]; exact rfl)
      · exact fun _ _ _ h => h
      · first
          | (refine Or.inr ⟨by rfl, ?_⟩; exact rfl)
          | (refine Or.inl ⟨by rfl, ?_⟩
             intro w hSw
             (try dsimp only at hSw)
             (try go_split_ands)
             go_simp
             (first | done | with_reducible rfl))
      try simp only [Act.put, List.setIfInBounds_toArray, List.set_cons_zero, List.set_cons_succ]
      refine take_h 15 ⟨?_, ?_, ?_, by kernel_rfl, by kernel_rfl, by kernel_rfl, ?_, ?_, by assumption, ?_⟩
      rotate_left 2
      · (simp only [List.getElem?_toArray, List.getElem?_cons_succ, List.getElem?_cons_zero]; exact rfl)
      · exact fun _ _ _ h => h
      · first
          | (refine Or.inr ⟨by rfl, ?_⟩; exact rfl)
          | (refine Or.inl ⟨by rfl, ?_⟩
             intro w hSw
             (try dsimp only at hSw)
             (try go_split_ands)
             go_simp
             (first | done | with_reducible rfl))
      try simp only [Act.put, List.setIfInBounds_toArray, List.set_cons_zero, List.set_cons_succ]
      refine wpAnyH_ready (rs := [7]) (by kernel_rfl) (by simp) ?_
      refine call_h 7 ⟨?_, ?_, fun K hK => ?_⟩
      rotate_left 1
      · (simp only [List.getElem?_toArray, List.getElem?_cons_succ, List.getElem?_cons_zero]; exact rfl)
      go_simp
      (go_at_call 42; refine HC1.out.mono ?_; rintro e w2 ⟨rfl, hM, hl1⟩)
      go_wp2_with fail
      have hl1' : Left (PL s) w1 w2 := ⟨hl1.os, hl1.tape, hl1.output, hl1.size, hl1.block⟩
      have HB2 := Lib.hid (HBW.out.trans (HJW.out.belowP hl1'))
      have hz2 := hl1'.size
      have HM := Lib.hid hM
      have j2 := cell_left' i2 hl1' HNP.out
      have j5 := cell_left' i5 hl1' HNP.out
      have jb := cell_left' ib hl1' HPB.out
      clear hM hl1 hl1' i2 i5 ib
      refine hK.out _ _ ⟨j2, j5, jb⟩ (fun hHeld => ?_)
      clear hK K
      (try simp only [Act.put, List.setIfInBounds_toArray, List.set_cons_zero, List.set_cons_succ])
      refine wpAnyH_ready (rs := [8]) (by kernel_rfl) (by simp) ?_
      refine call_h 8 ⟨?_, ?_, fun K hK => ?_⟩
      rotate_left 1
      · (simp only [List.getElem?_toArray, List.getElem?_cons_succ, List.getElem?_cons_zero]; exact rfl)
      go_simp
      (go_at_call 16; refine (num2_any _ _).mono ?_; rintro e w' ⟨rfl, rfl⟩)
      go_wp2_with fail
      refine hK.out _ _ ⟨j2, j5, jb⟩ (fun hHeld => ?_)
      clear hK K
      (try simp only [Act.put, List.setIfInBounds_toArray, List.set_cons_zero, List.set_cons_succ])
      refine wpAnyH_ready (rs := [16]) (by kernel_rfl) (by simp) ?_
      refine call_h 16 ⟨?_, ?_, fun K hK => ?_⟩
      rotate_left 1
      · (simp only [List.getElem?_toArray, List.getElem?_cons_succ, List.getElem?_cons_zero]; exact rfl)
      go_simp
      (go_at_call 79; refine (HC2.out w2 HM.out).mono ?_; rintro e w3 ⟨rfl, hJ3, hl2⟩)
      go_wp2_with fail
      have HJ3 := Lib.hid hJ3
      have HB3 := Lib.hid (HB2.out.trans (HJW.out.belowQ (Nat.le_trans hbw1 hz2) hl2))
      have l2 := cell_left' j2 hl2 HNQ.out
      have l5 := cell_left' j5 hl2 HNQ.out
      have lb := cell_left' jb hl2 HQB.out
      have hW3 := hJ3.hal.1
      have e1 : w3.cell? ⟨s 0, 1, none⟩ = some (.pointer (some ⟨s 1, 0, none⟩)) := by rw [hW3.cell]; rfl
      have e4 : w3.cell? ⟨s 0, 4, none⟩ = some (.pointer (some ⟨s 10, 0, none⟩)) := by rw [hW3.cell]; rfl
      clear hJ3 hl2 hW3 j2 j5 jb
      refine hK.out _ _ ⟨l2, l5, lb⟩ (fun hHeld => ?_)
      clear hK K l2 l5 lb
      (try simp only [Act.put, List.setIfInBounds_toArray, List.set_cons_zero, List.set_cons_succ])
      refine take_h 17 ⟨?_, ?_, ?_, by kernel_rfl, by kernel_rfl, by kernel_rfl, ?_, ?_, by assumption, ?_⟩
      rotate_left 2
      · (simp only [List.getElem?_toArray, List.getElem?_cons_succ, List.getElem?_cons_zero]; exact rfl)
      · exact fun _ _ _ h => h
      · first
          | (refine Or.inr ⟨by rfl, ?_⟩; exact rfl)
          | (refine Or.inl ⟨by rfl, ?_⟩
             intro w hSw
             (try dsimp only at hSw)
             (try go_split_ands)
             go_simp
             (first | done | with_reducible rfl))
      try simp only [Act.put, List.setIfInBounds_toArray, List.set_cons_zero, List.set_cons_succ]
      refine wpAnyH_done (by kernel_rfl) ?_ _
      clear hHeld
      obtain ⟨fn, hf1, hf2⟩ := HJ3.out.free
      have HF1 := Lib.hid hf1
      have HF2 := Lib.hid hf2
      clear hf1 hf2
      go_wp2_with fail
      go_quiet ((first | (go_at_call 39; exact Calls.quiet_of_same (HF1.out _)) | (go_at_call 81; exact Calls.quiet_of_same (HF2.out _))))
      go_wp2
      go_ret
      exact ⟨rfl, ⟨_, _, HJ3.out.left0 ((Left.refl _ _).drewN _), by first | (simp; done) | (simp; omega)⟩, below_drewN HB3.out _⟩
  | cons x hs =>
    simp only [List.length_cons] at c6
    by_cases hm0 : m8 = 0
    · subst hm0
      clear hhc hhm
      rcases hk with rfl | rfl
      · go_enter Try.func48, Try.ntmps48
        go_upto_region 30 with fail
        have ib : (w.alloc (.cells #[.int .i64 dk, .int .i64 n, .int .i64 at_, lv, .int .u64 v] 77)).cell? ⟨w.heap.size, 1, none⟩ = some (.int .i64 n) := by simp
        have HJW := HJ1
        have HBW := HB1
        clear c0 c1 c2 c3 c4 c5 c6 f6
        have hbw1 : base ≤ (w.alloc (.cells #[.int .i64 dk, .int .i64 n, .int .i64 at_, lv, .int .u64 v] 77)).heap.size := HJ1.out.base_le
        have HJ1 := trivial
        have HB1 := trivial
        generalize (w.alloc (.cells #[.int .i64 dk, .int .i64 n, .int .i64 at_, lv, .int .u64 v] 77)) = w1 at ib HJW HBW hbw1 ⊢
        have hW7 := HJW.out.hal.1
        have i2 : w1.cell? ⟨s 0, 2, none⟩ = some (.pointer (some ⟨s 5, 0, none⟩)) := by rw [hW7.cell]; rfl
        have i5 : w1.cell? ⟨s 0, 5, none⟩ = some (.pointer (some ⟨s 14, 0, none⟩)) := by rw [hW7.cell]; rfl
        have HW7 := Lib.hid hW7
        obtain ⟨er, M, hc1, hc2⟩ := (HJW.out.left0 (Left.refl [] _).drew).push at_ n
        have HC1 := Lib.hid hc1
        have HC2 := Lib.hid hc2
        clear hc1 hc2 hW7
        refine wp_region_held_drew (S := fun wx => wx.cell? ⟨s 0, 2, none⟩ = some (.pointer (some ⟨s 5, 0, none⟩)) ∧ wx.cell? ⟨s 0, 5, none⟩ = some (.pointer (some ⟨s 14, 0, none⟩)) ∧ wx.cell? ⟨w.heap.size, 1, none⟩ = some (.int .i64 n)) (by kernel_rfl) ⟨i2, i5, ib⟩ (fun hHeld => ?_)
        refine take_h 0 ⟨?_, ?_, ?_, by kernel_rfl, by kernel_rfl, by kernel_rfl, ?_, ?_, by assumption, ?_⟩
        rotate_left 2
        · (simp only [List.getElem?_toArray, List.getElem?_cons_zero]; exact rfl)
        · exact fun _ _ _ h => h
        · first
            | (refine Or.inr ⟨by rfl, ?_⟩; exact rfl)
            | (refine Or.inl ⟨by rfl, ?_⟩
               intro w hSw
               (try dsimp only at hSw)
               (try go_split_ands)
               go_simp
               (first | done | with_reducible rfl))
        try simp only [Act.put, List.setIfInBounds_toArray, List.set_cons_zero, List.set_cons_succ]
        refine take_h 1 ⟨?_, ?_, ?_, by kernel_rfl, by kernel_rfl, by kernel_rfl, ?_, ?_, by assumption, ?_⟩
        rotate_left 2
        · (simp only [List.getElem?_toArray, List.getElem?_cons_succ, List.getElem?_cons_zero]; exact rfl)
        · exact fun _ _ _ h => h
        · first
            | (refine Or.inr ⟨by rfl, ?_⟩; exact rfl)
            | (refine Or.inl ⟨by rfl, ?_⟩
               intro w hSw
               (try dsimp only at hSw)
               (try go_split_ands)
               go_simp
               (first | done | with_reducible rfl))
        try simp only [Act.put, List.setIfInBounds_toArray, List.set_cons_zero, List.set_cons_succ]
        refine take_h 2 ⟨?_, ?_, ?_, by kernel_rfl, by kernel_rfl, by kernel_rfl, ?_, ?_, by assumption, ?_⟩
        rotate_left 2
        · (simp only [List.getElem?_toArray, List.getElem?_cons_succ, List.getElem?_cons_zero]; exact rfl)
        · exact fun _ _ _ h => h
        · first
            | (refine Or.inr ⟨by rfl, ?_⟩; exact rfl)
            | (refine Or.inl ⟨by rfl, ?_⟩
               intro w hSw
               (try dsimp only at hSw)
               (try go_split_ands)
               go_simp
               (first | done | with_reducible rfl))
        try simp only [Act.put, List.setIfInBounds_toArray, List.set_cons_zero, List.set_cons_succ]
        refine take_h 3 ⟨?_, ?_, ?_, by kernel_rfl, by kernel_rfl, by kernel_rfl, ?_, ?_, by assumption, ?_⟩
        rotate_left 2
        · (simp only [List.getElem?_toArray, List.getElem?_cons_succ, List.getElem?_cons_zero]; exact rfl)
        · exact fun _ _ _ h => h
        · first
            | (refine Or.inr ⟨by rfl, ?_⟩; exact rfl)
            | (refine Or.inl ⟨by rfl, ?_⟩
               intro w hSw
               (try dsimp only at hSw)
               (try go_split_ands)
               go_simp
               (first | done | with_reducible rfl))
        try simp only [Act.put, List.setIfInBounds_toArray, List.set_cons_zero, List.set_cons_succ]
        refine take_h 4 ⟨?_, ?_, ?_, by kernel_rfl, by kernel_rfl, by kernel_rfl, ?_, ?_, by assumption, ?_⟩
        rotate_left 2
        · (simp only [List.getElem?_toArray, List.getElem?_cons_succ, List.getElem?_cons_zero]; exact rfl)
        · exact fun _ _ _ h => h
        · first
            | (refine Or.inr ⟨by rfl, ?_⟩; exact rfl)
            | (refine Or.inl ⟨by rfl, ?_⟩
               intro w hSw
               (try dsimp only at hSw)
               (try go_split_ands)
               go_simp
               (first | done | with_reducible rfl))
        try simp only [Act.put, List.setIfInBounds_toArray, List.set_cons_zero, List.set_cons_succ]
        refine take_h 5 ⟨?_, ?_, ?_, by kernel_rfl, by kernel_rfl, by kernel_rfl, ?_, ?_, by assumption, ?_⟩
        rotate_left 2
        · (simp only [List.getElem?_toArray, List.getElem?_cons_succ, List.getElem?_cons_zero]; exact rfl)
        · exact fun _ _ _ h => h
        · first
            | (refine Or.inr ⟨by rfl, ?_⟩; exact rfl)
            | (refine Or.inl ⟨by rfl, ?_⟩
               intro w hSw
               (try dsimp only at hSw)
               (try go_split_ands)
               go_simp
               (first | done | with_reducible rfl))
        try simp only [Act.put, List.setIfInBounds_toArray, List.set_cons_zero, List.set_cons_succ]
        refine take_h 6 ⟨?_, ?_, ?_, by kernel_rfl, by kernel_rfl, by kernel_rfl, ?_, ?_, by assumption, ?_⟩
        rotate_left 2
        · (simp only [List.getElem?_toArray, List.getElem?_cons_succ, List.getElem?_cons_zero]; exact rfl)
        · exact fun _ _ _ h => h
        · first
            | (refine Or.inr ⟨by rfl, ?_⟩; exact rfl)
            | (refine Or.inl ⟨by rfl, ?_⟩
               intro w hSw
               (try dsimp only at hSw)
               (try go_split_ands)
               go_simp
               (first | done | with_reducible rfl))
        try simp only [Act.put, List.setIfInBounds_toArray, List.set_cons_zero, List.set_cons_succ]
        refine take_h 9 ⟨?_, ?_, ?_, by kernel_rfl, by kernel_rfl, by kernel_rfl, ?_, ?_, by assumption, ?_⟩
        rotate_left 2
        · (simp only [List.getElem?_toArray, List.getElem?_cons_succ, List.getElem?_cons_zero]; exact rfl)
        · exact fun _ _ _ h => h
        · first
            | (refine Or.inr ⟨by rfl, ?_⟩; exact rfl)
            | (refine Or.inl ⟨by rfl, ?_⟩
               intro w hSw
               (try dsimp only at hSw)
               (try go_split_ands)
               go_simp
               (first | done | with_reducible rfl))
        try simp only [Act.put, List.setIfInBounds_toArray, List.set_cons_zero, List.set_cons_succ]
        refine take_h 10 ⟨?_, ?_, ?_, by kernel_rfl, by kernel_rfl, by kernel_rfl, ?_, ?_, by assumption, ?_⟩
        rotate_left 2
        · (simp only [List.getElem?_toArray, List.getElem?_cons_succ, List.getElem?_cons_zero]; exact rfl)
        · exact fun _ _ _ h => h
        · first
            | (refine Or.inr ⟨by rfl, ?_⟩; exact rfl)
            | (refine Or.inl ⟨by rfl, ?_⟩
               intro w hSw
               (try dsimp only at hSw)
               (try go_split_ands)
               go_simp
               (first | done | with_reducible rfl))
        try simp only [Act.put, List.setIfInBounds_toArray, List.set_cons_zero, List.set_cons_succ]
        refine take_h 11 ⟨?_, ?_, ?_, by kernel_rfl, by kernel_rfl, by kernel_rfl, ?_, ?_, by assumption, ?_⟩
        rotate_left 2
        · (simp only [List.getElem?_toArray, List.getElem?_cons_succ, List.getElem?_cons_zero]; exact rfl)
        · exact fun _ _ _ h => h
        · first
            | (refine Or.inr ⟨by rfl, ?_⟩; exact rfl)
            | (refine Or.inl ⟨by rfl, ?_⟩
               intro w hSw
               (try dsimp only at hSw)
               (try go_split_ands)
               go_simp
               (first | done | with_reducible rfl))
        try simp only [Act.put, List.setIfInBounds_toArray, List.set_cons_zero, List.set_cons_succ]
        refine take_h 12 ⟨?_, ?_, ?_, by kernel_rfl, by kernel_rfl, by kernel_rfl, ?_, ?_, by assumption, ?_⟩
        rotate_left 2
        · (simp only [List.getElem?_toArray, List.getElem?_cons_succ, List.getElem?_cons_zero]; exact rfl)
        · exact fun _ _ _ h => h
        · first
            | (refine Or.inr ⟨by rfl, ?_⟩; exact rfl)
            | (refine Or.inl ⟨by rfl, ?_⟩
               intro w hSw
               (try dsimp only at hSw)
               (try go_split_ands)
               go_simp
               (first | done | with_reducible rfl))
        try simp only [Act.put, List.setIfInBounds_toArray, List.set_cons_zero, List.set_cons_succ]
        refine take_h 13 ⟨?_, ?_, ?_, by kernel_rfl, by kernel_rfl, by kernel_rfl, ?_, ?_, by assumption, ?_⟩
        rotate_left 2
        · (simp only [List.getElem?_toArray, List.getElem?_cons_succ, List.getElem?_cons_zero]; exact rfl)
        · exact fun _ _ _ h => h
        · first
            | (refine Or.inr ⟨by rfl, ?_⟩; exact rfl)
            | (refine Or.inl ⟨by rfl, ?_⟩
               intro w hSw
               (try dsimp only at hSw)
               (try go_split_ands)
               go_simp
               (first | done | with_reducible rfl))
        try simp only [Act.put, List.setIfInBounds_toArray, List.set_cons_zero, List.set_cons_succ]
        refine take_h 14 ⟨?_, ?_, ?_, by kernel_rfl, by kernel_rfl, by kernel_rfl, ?_, ?_, by assumption, ?_⟩
        rotate_left 2
        · (simp only [List.getElem?_toArray, List.getElem?_cons_succ, List.getElem?_cons_zero]; exact rfl)
        · exact fun _ _ _ h => h
        · first
            | (refine Or.inr ⟨by rfl, ?_⟩; exact rfl)
            | (refine Or.inl ⟨by rfl, ?_⟩
               intro w hSw
               (try dsimp only at hSw)
               (try go_split_ands)
               go_simp
               (first | done | with_reducible rfl))
        try simp only [Act.put, List.setIfInBounds_toArray, List.set_cons_zero, List.set_cons_succ]
        refine take_h 15 ⟨?_, ?_, ?_, by kernel_rfl, by kernel_rfl, by kernel_rfl, ?_, ?_, by assumption, ?_⟩
        rotate_left 2
        · (simp only [List.getElem?_toArray, List.getElem?_cons_succ, List.getElem?_cons_zero]; exact rfl)
        · exact fun _ _ _ h => h
        · first
            | (refine Or.inr ⟨by rfl, ?_⟩; exact rfl)
            | (refine Or.inl ⟨by rfl, ?_⟩
               intro w hSw
               (try dsimp only at hSw)
               (try go_split_ands)
               go_simp
               (first | done | with_reducible rfl))
        try simp only [Act.put, List.setIfInBounds_toArray, List.set_cons_zero, List.set_cons_succ]
        refine wpAnyH_ready (rs := [7]) (by kernel_rfl) (by simp) ?_
        refine call_h 7 ⟨?_, ?_, fun K hK => ?_⟩
        rotate_left 1
        · (simp only [List.getElem?_toArray, List.getElem?_cons_succ, List.getElem?_cons_zero]; exact rfl)
        go_simp
        (go_at_call 42; refine HC1.out.mono ?_; rintro e w2 ⟨rfl, hM, hl1⟩)
        go_wp2_with fail
        have hl1' : Left (PL s) w1 w2 := ⟨hl1.os, hl1.tape, hl1.output, hl1.size, hl1.block⟩
        have HB2 := Lib.hid (HBW.out.trans (HJW.out.belowP hl1'))
        have hz2 := hl1'.size
        have HM := Lib.hid hM
        have j2 := cell_left' i2 hl1' HNP.out
        have j5 := cell_left' i5 hl1' HNP.out
        have jb := cell_left' ib hl1' HPB.out
        clear hM hl1 hl1' i2 i5 ib
        refine hK.out _ _ ⟨j2, j5, jb⟩ (fun hHeld => ?_)
        clear hK K
        (try simp only [Act.put, List.setIfInBounds_toArray, List.set_cons_zero, List.set_cons_succ])
        refine wpAnyH_ready (rs := [8]) (by kernel_rfl) (by simp) ?_
        refine call_h 8 ⟨?_, ?_, fun K hK => ?_⟩
        rotate_left 1
        · (simp only [List.getElem?_toArray, List.getElem?_cons_succ, List.getElem?_cons_zero]; exact rfl)
        go_simp
        (go_at_call 16; refine (num2_any _ _).mono ?_; rintro e w' ⟨rfl, rfl⟩)
        go_wp2_with fail
        refine hK.out _ _ ⟨j2, j5, jb⟩ (fun hHeld => ?_)
        clear hK K
        (try simp only [Act.put, List.setIfInBounds_toArray, List.set_cons_zero, List.set_cons_succ])
        refine wpAnyH_ready (rs := [16]) (by kernel_rfl) (by simp) ?_
        refine call_h 16 ⟨?_, ?_, fun K hK => ?_⟩
        rotate_left 1
        · (simp only [List.getElem?_toArray, List.getElem?_cons_succ, List.getElem?_cons_zero]; exact rfl)
        go_simp
        (go_at_call 79; refine (HC2.out w2 HM.out).mono ?_; rintro e w3 ⟨rfl, hJ3, hl2⟩)
        go_wp2_with fail
        have HJ3 := Lib.hid hJ3
        have HB3 := Lib.hid (HB2.out.trans (HJW.out.belowQ (Nat.le_trans hbw1 hz2) hl2))
        have l2 := cell_left' j2 hl2 HNQ.out
        have l5 := cell_left' j5 hl2 HNQ.out
        have lb := cell_left' jb hl2 HQB.out
        have hW3 := hJ3.hal.1
        have e1 : w3.cell? ⟨s 0, 1, none⟩ = some (.pointer (some ⟨s 1, 0, none⟩)) := by rw [hW3.cell]; rfl
        have e4 : w3.cell? ⟨s 0, 4, none⟩ = some (.pointer (some ⟨s 10, 0, none⟩)) := by rw [hW3.cell]; rfl
        clear hJ3 hl2 hW3 j2 j5 jb
        refine hK.out _ _ ⟨l2, l5, lb⟩ (fun hHeld => ?_)
        clear hK K l2 l5 lb
        (try simp only [Act.put, List.setIfInBounds_toArray, List.set_cons_zero, List.set_cons_succ])
        refine take_h 17 ⟨?_, ?_, ?_, by kernel_rfl, by kernel_rfl, by kernel_rfl, ?_, ?_, by assumption, ?_⟩
        rotate_left 2
        · (simp only [List.getElem?_toArray, List.getElem?_cons_succ, List.getElem?_cons_zero]; exact rfl)
        · exact fun _ _ _ h => h
        · first
            | (refine Or.inr ⟨by rfl, ?_⟩; exact rfl)
            | (refine Or.inl ⟨by rfl, ?_⟩
               intro w hSw
               (try dsimp only at hSw)
               (try go_split_ands)
               go_simp
               (first | done | with_reducible rfl))
        try simp only [Act.put, List.setIfInBounds_toArray, List.set_cons_zero, List.set_cons_succ]
        refine wpAnyH_done (by kernel_rfl) ?_ _
        clear hHeld
        obtain ⟨fn, hf1, hf2⟩ := HJ3.out.free
        have HF1 := Lib.hid hf1
        have HF2 := Lib.hid hf2
        clear hf1 hf2
        go_wp2_with fail
        go_quiet ((first | (go_at_call 39; exact Calls.quiet_of_same (HF1.out _)) | (go_at_call 81; exact Calls.quiet_of_same (HF2.out _))))
        go_wp2
        go_ret
        exact ⟨rfl, ⟨_, _, HJ3.out.left0 ((Left.refl _ _).drewN _), by first | (simp; done) | (simp; omega)⟩, below_drewN HB3.out _⟩
      · go_enter Try.func48, Try.ntmps48
        go_upto_region 30 with fail
        have ib : (w.alloc (.cells #[.int .i64 dk, .int .i64 n, .int .i64 at_, lv, .int .u64 v] 77)).cell? ⟨w.heap.size, 1, none⟩ = some (.int .i64 n) := by simp
        have HJW := HJ1
        have HBW := HB1
        clear c0 c1 c2 c3 c4 c5 c6 f6
        have hbw1 : base ≤ (w.alloc (.cells #[.int .i64 dk, .int .i64 n, .int .i64 at_, lv, .int .u64 v] 77)).heap.size := HJ1.out.base_le
        have HJ1 := trivial
        have HB1 := trivial
        generalize (w.alloc (.cells #[.int .i64 dk, .int .i64 n, .int .i64 at_, lv, .int .u64 v] 77)) = w1 at ib HJW HBW hbw1 ⊢
        have hW7 := HJW.out.hal.1
        have i2 : w1.cell? ⟨s 0, 2, none⟩ = some (.pointer (some ⟨s 5, 0, none⟩)) := by rw [hW7.cell]; rfl
        have i5 : w1.cell? ⟨s 0, 5, none⟩ = some (.pointer (some ⟨s 14, 0, none⟩)) := by rw [hW7.cell]; rfl
        have HW7 := Lib.hid hW7
        obtain ⟨er, M, hc1, hc2⟩ := (HJW.out.left0 (Left.refl [] _).drew).push at_ n
        have HC1 := Lib.hid hc1
        have HC2 := Lib.hid hc2
        clear hc1 hc2 hW7
        refine wp_region_held_drew (S := fun wx => wx.cell? ⟨s 0, 2, none⟩ = some (.pointer (some ⟨s 5, 0, none⟩)) ∧ wx.cell? ⟨s 0, 5, none⟩ = some (.pointer (some ⟨s 14, 0, none⟩)) ∧ wx.cell? ⟨w.heap.size, 1, none⟩ = some (.int .i64 n)) (by kernel_rfl) ⟨i2, i5, ib⟩ (fun hHeld => ?_)
        refine take_h 0 ⟨?_, ?_, ?_, by kernel_rfl, by kernel_rfl, by kernel_rfl, ?_, ?_, by assumption, ?_⟩
        rotate_left 2
        · (simp only [List.getElem?_toArray, List.getElem?_cons_zero]; exact rfl)
        · exact fun _ _ _ h => h
        · first
            | (refine Or.inr ⟨by rfl, ?_⟩; exact rfl)
            | (refine Or.inl ⟨by rfl, ?_⟩
               intro w hSw
               (try dsimp only at hSw)
               (try go_split_ands)
               go_simp
               (first | done | with_reducible rfl))
        try simp only [Act.put, List.setIfInBounds_toArray, List.set_cons_zero, List.set_cons_succ]
        refine take_h 1 ⟨?_, ?_, ?_, by kernel_rfl, by kernel_rfl, by kernel_rfl, ?_, ?_, by assumption, ?_⟩
        rotate_left 2
        · (simp only [List.getElem?_toArray, List.getElem?_cons_succ, List.getElem?_cons_zero]; exact rfl)
        · exact fun _ _ _ h => h
        · first
            | (refine Or.inr ⟨by rfl, ?_⟩; exact rfl)
            | (refine Or.inl ⟨by rfl, ?_⟩
               intro w hSw
               (try dsimp only at hSw)
               (try go_split_ands)
               go_simp
               (first | done | with_reducible rfl))
        try simp only [Act.put, List.setIfInBounds_toArray, List.set_cons_zero, List.set_cons_succ]
        refine take_h 2 ⟨?_, ?_, ?_, by kernel_rfl, by kernel_rfl, by kernel_rfl, ?_, ?_, by assumption, ?_⟩
        rotate_left 2
        · (simp only [List.getElem?_toArray, List.getElem?_cons_succ, List.getElem?_cons_zero]; exact rfl)
        · exact fun _ _ _ h => h
        · first
            | (refine Or.inr ⟨by rfl, ?_⟩; exact rfl)
            | (refine Or.inl ⟨by rfl, ?_⟩
               intro w hSw
               (try dsimp only at hSw)
               (try go_split_ands)
               go_simp
               (first | done | with_reducible rfl))
        try simp only [Act.put, List.setIfInBounds_toArray, List.set_cons_zero, List.set_cons_succ]
        refine take_h 3 ⟨?_, ?_, ?_, by kernel_rfl, by kernel_rfl, by kernel_rfl, ?_, ?_, by assumption, ?_⟩
        rotate_left 2
        · (simp only [List.getElem?_toArray, List.getElem?_cons_succ, List.getElem?_cons_zero]; exact rfl)
        · exact fun _ _ _ h => h
        · first
            | (refine Or.inr ⟨by rfl, ?_⟩; exact rfl)
            | (refine Or.inl ⟨by rfl, ?_⟩
               intro w hSw
               (try dsimp only at hSw)
               (try go_split_ands)
               go_simp
               (first | done | with_reducible rfl))
        try simp only [Act.put, List.setIfInBounds_toArray, List.set_cons_zero, List.set_cons_succ]
        refine take_h 4 ⟨?_, ?_, ?_, by kernel_rfl, by kernel_rfl, by kernel_rfl, ?_, ?_, by assumption, ?_⟩
        rotate_left 2
        · (simp only [List.getElem?_toArray, List.getElem?_cons_succ, List.getElem?_cons_zero]; exact rfl)
        · exact fun _ _ _ h => h
        · first
            | (refine Or.inr ⟨by rfl, ?_⟩; exact rfl)
            | (refine Or.inl ⟨by rfl, ?_⟩
               intro w hSw
               (try dsimp only at hSw)
               (try go_split_ands)
               go_simp
               (first | done | with_reducible rfl))
        try simp only [Act.put, List.setIfInBounds_toArray, List.set_cons_zero, List.set_cons_succ]
        refine take_h 5 ⟨?_, ?_, ?_, by kernel_rfl, by kernel_rfl, by kernel_rfl, ?_, ?_, by assumption, ?_⟩
        rotate_left 2
        · (simp only [List.getElem?_toArray, List.getElem?_cons_succ, List.getElem?_cons_zero]; exact rfl)
        · exact fun _ _ _ h => h
        · first
            | (refine Or.inr ⟨by rfl, ?_⟩; exact rfl)
            | (refine Or.inl ⟨by rfl, ?_⟩
               intro w hSw
               (try dsimp only at hSw)
               (try go_split_ands)
               go_simp
               (first | done | with_reducible rfl))
        try simp only [Act.put, List.setIfInBounds_toArray, List.set_cons_zero, List.set_cons_succ]
        refine take_h 6 ⟨?_, ?_, ?_, by kernel_rfl, by kernel_rfl, by kernel_rfl, ?_, ?_, by assumption, ?_⟩
        rotate_left 2
        · (simp only [List.getElem?_toArray, List.getElem?_cons_succ, List.getElem?_cons_zero]; exact rfl)
        · exact fun _ _ _ h => h
        · first
            | (refine Or.inr ⟨by rfl, ?_⟩; exact rfl)
            | (refine Or.inl ⟨by rfl, ?_⟩
               intro w hSw
               (try dsimp only at hSw)
               (try go_split_ands)
               go_simp
               (first | done | with_reducible rfl))
        try simp only [Act.put, List.setIfInBounds_toArray, List.set_cons_zero, List.set_cons_succ]
        refine take_h 9 ⟨?_, ?_, ?_, by kernel_rfl, by kernel_rfl, by kernel_rfl, ?_, ?_, by assumption, ?_⟩
        rotate_left 2
        · (simp only [List.getElem?_toArray, List.getElem?_cons_succ, List.getElem?_cons_zero]; exact rfl)
        · exact fun _ _ _ h => h
        · first
            | (refine Or.inr ⟨by rfl, ?_⟩; exact rfl)
            | (refine Or.inl ⟨by rfl, ?_⟩
               intro w hSw
               (try dsimp only at hSw)
               (try go_split_ands)
               go_simp
               (first | done | with_reducible rfl))
        try simp only [Act.put, List.setIfInBounds_toArray, List.set_cons_zero, List.set_cons_succ]
        refine take_h 10 ⟨?_, ?_, ?_, by kernel_rfl, by kernel_rfl, by kernel_rfl, ?_, ?_, by assumption, ?_⟩
        rotate_left 2
        · (simp only [List.getElem?_toArray, List.getElem?_cons_succ, List.getElem?_cons_zero]; exact rfl)
        · exact fun _ _ _ h => h
        · first
            | (refine Or.inr ⟨by rfl, ?_⟩; exact rfl)
            | (refine Or.inl ⟨by rfl, ?_⟩
               intro w hSw
               (try dsimp only at hSw)
               (try go_split_ands)
               go_simp
               (first | done | with_reducible rfl))
        try simp only [Act.put, List.setIfInBounds_toArray, List.set_cons_zero, List.set_cons_succ]
        refine take_h 11 ⟨?_, ?_, ?_, by kernel_rfl, by kernel_rfl, by kernel_rfl, ?_, ?_, by assumption, ?_⟩
        rotate_left 2
        · (simp only [List.getElem?_toArray, List.getElem?_cons_succ, List.getElem?_cons_zero]; exact rfl)
        · exact fun _ _ _ h => h
        · first
            | (refine Or.inr ⟨by rfl, ?_⟩; exact rfl)
            | (refine Or.inl ⟨by rfl, ?_⟩
               intro w hSw
               (try dsimp only at hSw)
               (try go_split_ands)
               go_simp
               (first | done | with_reducible rfl))
        try simp only [Act.put, List.setIfInBounds_toArray, List.set_cons_zero, List.set_cons_succ]
        refine take_h 12 ⟨?_, ?_, ?_, by kernel_rfl, by kernel_rfl, by kernel_rfl, ?_, ?_, by assumption, ?_⟩
        rotate_left 2
        · (simp only [List.getElem?_toArray, List.getElem?_cons_succ, List.getElem?_cons_zero]; exact rfl)
        · exact fun _ _ _ h => h
        · first
            | (refine Or.inr ⟨by rfl, ?_⟩; exact rfl)
            | (refine Or.inl ⟨by rfl, ?_⟩
               intro w hSw
               (try dsimp only at hSw)
               (try go_split_ands)
               go_simp
               (first | done | with_reducible rfl))
        try simp only [Act.put, List.setIfInBounds_toArray, List.set_cons_zero, List.set_cons_succ]
        refine take_h 13 ⟨?_, ?_, ?_, by kernel_rfl, by kernel_rfl, by kernel_rfl, ?_, ?_, by assumption, ?_⟩
        rotate_left 2
        · (simp only [List.getElem?_toArray, List.getElem?_cons_succ, List.getElem?_cons_zero]; exact rfl)
        · exact fun _ _ _ h => h
        · first
            | (refine Or.inr ⟨by rfl, ?_⟩; exact rfl)
            | (refine Or.inl ⟨by rfl, ?_⟩
               intro w hSw
               (try dsimp only at hSw)
               (try go_split_ands)
               go_simp
               (first | done | with_reducible rfl))
        try simp only [Act.put, List.setIfInBounds_toArray, List.set_cons_zero, List.set_cons_succ]
        refine take_h 14 ⟨?_, ?_, ?_, by kernel_rfl, by kernel_rfl, by kernel_rfl, ?_, ?_, by assumption, ?_⟩
        rotate_left 2
        · (simp only [List.getElem?_toArray, List.getElem?_cons_succ, List.getElem?_cons_zero]; exact rfl)
        · exact fun _ _ _ h => h
        · first
            | (refine Or.inr ⟨by rfl, ?_⟩; exact rfl)
            | (refine Or.inl ⟨by rfl, ?_⟩
               intro w hSw
               (try dsimp only at hSw)
               (try go_split_ands)
               go_simp
               (first | done | with_reducible rfl))
        try simp only [Act.put, List.setIfInBounds_toArray, List.set_cons_zero, List.set_cons_succ]
        refine take_h 15 ⟨?_, ?_, ?_, by kernel_rfl, by kernel_rfl, by kernel_rfl, ?_, ?_, by assumption, ?_⟩
        rotate_left 2
        · (simp only [List.getElem?_toArray, List.getElem?_cons_succ, List.getElem?_cons_zero]; exact rfl)
        · exact fun _ _ _ h => h
        · first
            | (refine Or.inr ⟨by rfl, ?_⟩; exact rfl)
            | (refine Or.inl ⟨by rfl, ?_⟩
               intro w hSw
               (try dsimp only at hSw)
               (try go_split_ands)
               go_simp
               (first | done | with_reducible rfl))
        try simp only [Act.put, List.setIfInBounds_toArray, List.set_cons_zero, List.set_cons_succ]
        refine wpAnyH_ready (rs := [7]) (by kernel_rfl) (by simp) ?_
        refine call_h 7 ⟨?_, ?_, fun K hK => ?_⟩
        rotate_left 1
        · (simp only [List.getElem?_toArray, List.getElem?_cons_succ, List.getElem?_cons_zero]; exact rfl)
        go_simp
        (go_at_call 42; refine HC1.out.mono ?_; rintro e w2 ⟨rfl, hM, hl1⟩)
        go_wp2_with fail
        have hl1' : Left (PL s) w1 w2 := ⟨hl1.os, hl1.tape, hl1.output, hl1.size, hl1.block⟩
        have HB2 := Lib.hid (HBW.out.trans (HJW.out.belowP hl1'))
        have hz2 := hl1'.size
        have HM := Lib.hid hM
        have j2 := cell_left' i2 hl1' HNP.out
        have j5 := cell_left' i5 hl1' HNP.out
        have jb := cell_left' ib hl1' HPB.out
        clear hM hl1 hl1' i2 i5 ib
        refine hK.out _ _ ⟨j2, j5, jb⟩ (fun hHeld => ?_)
        clear hK K
        (try simp only [Act.put, List.setIfInBounds_toArray, List.set_cons_zero, List.set_cons_succ])
        refine wpAnyH_ready (rs := [8]) (by kernel_rfl) (by simp) ?_
        refine call_h 8 ⟨?_, ?_, fun K hK => ?_⟩
        rotate_left 1
        · (simp only [List.getElem?_toArray, List.getElem?_cons_succ, List.getElem?_cons_zero]; exact rfl)
        go_simp
        (go_at_call 16; refine (num2_any _ _).mono ?_; rintro e w' ⟨rfl, rfl⟩)
        go_wp2_with fail
        refine hK.out _ _ ⟨j2, j5, jb⟩ (fun hHeld => ?_)
        clear hK K
        (try simp only [Act.put, List.setIfInBounds_toArray, List.set_cons_zero, List.set_cons_succ])
        refine wpAnyH_ready (rs := [16]) (by kernel_rfl) (by simp) ?_
        refine call_h 16 ⟨?_, ?_, fun K hK => ?_⟩
        rotate_left 1
        · (simp only [List.getElem?_toArray, List.getElem?_cons_succ, List.getElem?_cons_zero]; exact rfl)
        go_simp
        (go_at_call 79; refine (HC2.out w2 HM.out).mono ?_; rintro e w3 ⟨rfl, hJ3, hl2⟩)
        go_wp2_with fail
        have HJ3 := Lib.hid hJ3
        have HB3 := Lib.hid (HB2.out.trans (HJW.out.belowQ (Nat.le_trans hbw1 hz2) hl2))
        have l2 := cell_left' j2 hl2 HNQ.out
        have l5 := cell_left' j5 hl2 HNQ.out
        have lb := cell_left' jb hl2 HQB.out
        have hW3 := hJ3.hal.1
        have e1 : w3.cell? ⟨s 0, 1, none⟩ = some (.pointer (some ⟨s 1, 0, none⟩)) := by rw [hW3.cell]; rfl
        have e4 : w3.cell? ⟨s 0, 4, none⟩ = some (.pointer (some ⟨s 10, 0, none⟩)) := by rw [hW3.cell]; rfl
        clear hJ3 hl2 hW3 j2 j5 jb
        refine hK.out _ _ ⟨l2, l5, lb⟩ (fun hHeld => ?_)
        clear hK K l2 l5 lb
        (try simp only [Act.put, List.setIfInBounds_toArray, List.set_cons_zero, List.set_cons_succ])
        refine take_h 17 ⟨?_, ?_, ?_, by kernel_rfl, by kernel_rfl, by kernel_rfl, ?_, ?_, by assumption, ?_⟩
        rotate_left 2
        · (simp only [List.getElem?_toArray, List.getElem?_cons_succ, List.getElem?_cons_zero]; exact rfl)
        · exact fun _ _ _ h => h
        · first
            | (refine Or.inr ⟨by rfl, ?_⟩; exact rfl)
            | (refine Or.inl ⟨by rfl, ?_⟩
               intro w hSw
               (try dsimp only at hSw)
               (try go_split_ands)
               go_simp
               (first | done | with_reducible rfl))
        try simp only [Act.put, List.setIfInBounds_toArray, List.set_cons_zero, List.set_cons_succ]
        refine wpAnyH_done (by kernel_rfl) ?_ _
        clear hHeld
        obtain ⟨fn, hf1, hf2⟩ := HJ3.out.free
        have HF1 := Lib.hid hf1
        have HF2 := Lib.hid hf2
        clear hf1 hf2
        go_wp2_with fail
        go_quiet ((first | (go_at_call 39; exact Calls.quiet_of_same (HF1.out _)) | (go_at_call 81; exact Calls.quiet_of_same (HF2.out _))))
        go_wp2
        go_ret
        exact ⟨rfl, ⟨_, _, HJ3.out.left0 ((Left.refl _ _).drewN _), by first | (simp; done) | (simp; omega)⟩, below_drewN HB3.out _⟩
    · have hm0' : (m8 != 0) = true := bne_iff_ne.2 hm0
      obtain ⟨g, o, cap, e, hcap1, hcapm, kcell, hupd⟩ := HW0.out.pop_head
      injection e with e1 e2 e3
      subst e1
      obtain rfl : cap = hcap := e3.symm
      have hglt := World.block_lt_of_cell? _ _ kcell
      have HUPD := Lib.hid hupd
      have hcap2 : cap ≤ 9223372036854775807 := by unfold maxLen at hcapm; omega
      clear hhc hhm hupd hm0
      by_cases hc1 : cap = 1
      · subst hc1
        obtain rfl : hs = [] := List.eq_nil_of_length_eq_zero (by omega)
        have hc1 : True := trivial
        simp only [List.length_nil, Nat.zero_add] at c6
        rcases hk with rfl | rfl
        · go_enter Try.func48, Try.ntmps48
          go_upto_region 30 with fail
          obtain ⟨hJW0, hbW0⟩ := HUPD.out (.slice (some ⟨g, o, none⟩) 0 0) (by simp [hc1])
          have hJW : JX ((w.setCell ⟨s 0, 6, none⟩ (.slice (some ⟨g, o, none⟩) 0 0)).alloc (.cells #[.int .i64 dk, .int .i64 n, .int .i64 at_, lv, .int .u64 v] 77)) base s q (.slice (some ⟨g, o, none⟩) 0 0) _ := hJW0.left0 ((Left.refl _ _).alloc _)
          have hbW : Below base w ((w.setCell ⟨s 0, 6, none⟩ (.slice (some ⟨g, o, none⟩) 0 0)).alloc (.cells #[.int .i64 dk, .int .i64 n, .int .i64 at_, lv, .int .u64 v] 77)) := hbW0.alloc hJW0.base_le _
          have hzz : (w.setCell ⟨s 0, 6, none⟩ (.slice (some ⟨g, o, none⟩) 0 0)).heap.size = w.heap.size := by simp
          have ib : ((w.setCell ⟨s 0, 6, none⟩ (.slice (some ⟨g, o, none⟩) 0 0)).alloc (.cells #[.int .i64 dk, .int .i64 n, .int .i64 at_, lv, .int .u64 v] 77)).cell? ⟨w.heap.size, 1, none⟩ = some (.int .i64 n) := by
            have := (Whole.new (w.setCell ⟨s 0, 6, none⟩ (.slice (some ⟨g, o, none⟩) 0 0)) 77 [.int .i64 dk, .int .i64 n, .int .i64 at_, lv, .int .u64 v]).cell 1
            rw [hzz] at this
            exact this
          have HJW := Lib.hid hJW
          have HBW := Lib.hid hbW
          have hbw1 : base ≤ ((w.setCell ⟨s 0, 6, none⟩ (.slice (some ⟨g, o, none⟩) 0 0)).alloc (.cells #[.int .i64 dk, .int .i64 n, .int .i64 at_, lv, .int .u64 v] 77)).heap.size := hJW.base_le
          have HJ1 := trivial
          have HB1 := trivial
          have HUPD := trivial
          clear c0 c1 c2 c3 c4 c5 c6 f6 hJW hbW kcell hJW0 hbW0 hzz
          generalize ((w.setCell ⟨s 0, 6, none⟩ (.slice (some ⟨g, o, none⟩) 0 0)).alloc (.cells #[.int .i64 dk, .int .i64 n, .int .i64 at_, lv, .int .u64 v] 77)) = w1 at ib HJW HBW hbw1 ⊢
          have hW7 := HJW.out.hal.1
          have i2 : w1.cell? ⟨s 0, 2, none⟩ = some (.pointer (some ⟨s 5, 0, none⟩)) := by rw [hW7.cell]; rfl
          have i5 : w1.cell? ⟨s 0, 5, none⟩ = some (.pointer (some ⟨s 14, 0, none⟩)) := by rw [hW7.cell]; rfl
          have HW7 := Lib.hid hW7
          obtain ⟨er, M, hc1, hc2⟩ := (HJW.out.left0 (Left.refl [] _).drew).push (x : Int) n
          have HC1 := Lib.hid hc1
          have HC2 := Lib.hid hc2
          clear hc1 hc2 hW7
          refine wp_region_held_drew (S := fun wx => wx.cell? ⟨s 0, 2, none⟩ = some (.pointer (some ⟨s 5, 0, none⟩)) ∧ wx.cell? ⟨s 0, 5, none⟩ = some (.pointer (some ⟨s 14, 0, none⟩)) ∧ wx.cell? ⟨w.heap.size, 1, none⟩ = some (.int .i64 n)) (by kernel_rfl) ⟨i2, i5, ib⟩ (fun hHeld => ?_)
          refine take_h 0 ⟨?_, ?_, ?_, by kernel_rfl, by kernel_rfl, by kernel_rfl, ?_, ?_, by assumption, ?_⟩
          rotate_left 2
          · (simp only [List.getElem?_toArray, List.getElem?_cons_zero]; exact rfl)
          · exact fun _ _ _ h => h
          · first
              | (refine Or.inr ⟨by rfl, ?_⟩; exact rfl)
              | (refine Or.inl ⟨by rfl, ?_⟩
                 intro w hSw
                 (try dsimp only at hSw)
                 (try go_split_ands)
                 go_simp
                 (first | done | with_reducible rfl))
          try simp only [Act.put, List.setIfInBounds_toArray, List.set_cons_zero, List.set_cons_succ]
          refine take_h 1 ⟨?_, ?_, ?_, by kernel_rfl, by kernel_rfl, by kernel_rfl, ?_, ?_, by assumption, ?_⟩
          rotate_left 2
          · (simp only [List.getElem?_toArray, List.getElem?_cons_succ, List.getElem?_cons_zero]; exact rfl)
          · exact fun _ _ _ h => h
          · first
              | (refine Or.inr ⟨by rfl, ?_⟩; exact rfl)
              | (refine Or.inl ⟨by rfl, ?_⟩
                 intro w hSw
                 (try dsimp only at hSw)
                 (try go_split_ands)
                 go_simp
                 (first | done | with_reducible rfl))
          try simp only [Act.put, List.setIfInBounds_toArray, List.set_cons_zero, List.set_cons_succ]
          refine take_h 2 ⟨?_, ?_, ?_, by kernel_rfl, by kernel_rfl, by kernel_rfl, ?_, ?_, by assumption, ?_⟩
          rotate_left 2
          · (simp only [List.getElem?_toArray, List.getElem?_cons_succ, List.getElem?_cons_zero]; exact rfl)
          · exact fun _ _ _ h => h
          · first
              | (refine Or.inr ⟨by rfl, ?_⟩; exact rfl)
              | (refine Or.inl ⟨by rfl, ?_⟩
                 intro w hSw
                 (try dsimp only at hSw)
                 (try go_split_ands)
                 go_simp
                 (first | done | with_reducible rfl))
          try simp only [Act.put, List.setIfInBounds_toArray, List.set_cons_zero, List.set_cons_succ]
          refine take_h 3 ⟨?_, ?_, ?_, by kernel_rfl, by kernel_rfl, by kernel_rfl, ?_, ?_, by assumption, ?_⟩
          rotate_left 2
          · (simp only [List.getElem?_toArray, List.getElem?_cons_succ, List.getElem?_cons_zero]; exact rfl)
          · exact fun _ _ _ h => h
          · first
              | (refine Or.inr ⟨by rfl, ?_⟩; exact rfl)
              | (refine Or.inl ⟨by rfl, ?_⟩
                 intro w hSw
                 (try dsimp only at hSw)
                 (try go_split_ands)
                 go_simp
                 (first | done | with_reducible rfl))
          try simp only [Act.put, List.setIfInBounds_toArray, List.set_cons_zero, List.set_cons_succ]
          refine take_h 4 ⟨?_, ?_, ?_, by kernel_rfl, by kernel_rfl, by kernel_rfl, ?_, ?_, by assumption, ?_⟩
          rotate_left 2
          · (simp only [List.getElem?_toArray, List.getElem?_cons_succ, List.getElem?_cons_zero]; exact rfl)
          · exact fun _ _ _ h => h
          · first
              | (refine Or.inr ⟨by rfl, ?_⟩; exact rfl)
              | (refine Or.inl ⟨by rfl, ?_⟩
                 intro w hSw
                 (try dsimp only at hSw)
                 (try go_split_ands)
                 go_simp
                 (first | done | with_reducible rfl))
          try simp only [Act.put, List.setIfInBounds_toArray, List.set_cons_zero, List.set_cons_succ]
          refine take_h 5 ⟨?_, ?_, ?_, by kernel_rfl, by kernel_rfl, by kernel_rfl, ?_, ?_, by assumption, ?_⟩
          rotate_left 2
          · (simp only [List.getElem?_toArray, List.getElem?_cons_succ, List.getElem?_cons_zero]; exact rfl)
          · exact fun _ _ _ h => h
          · first
              | (refine Or.inr ⟨by rfl, ?_⟩; exact rfl)
              | (refine Or.inl ⟨by rfl, ?_⟩
                 intro w hSw
                 (try dsimp only at hSw)
                 (try go_split_ands)
                 go_simp
                 (first | done | with_reducible rfl))
          try simp only [Act.put, List.setIfInBounds_toArray, List.set_cons_zero, List.set_cons_succ]
          refine take_h 6 ⟨?_, ?_, ?_, by kernel_rfl, by kernel_rfl, by kernel_rfl, ?_, ?_, by assumption, ?_⟩
          rotate_left 2
          · (simp only [List.getElem?_toArray, List.getElem?_cons_succ, List.getElem?_cons_zero]; exact rfl)
          · exact fun _ _ _ h => h
          · first
              | (refine Or.inr ⟨by rfl, ?_⟩; exact rfl)
              | (refine Or.inl ⟨by rfl, ?_⟩
                 intro w hSw
                 (try dsimp only at hSw)
                 (try go_split_ands)
                 go_simp
                 (first | done | with_reducible rfl))
          try simp only [Act.put, List.setIfInBounds_toArray, List.set_cons_zero, List.set_cons_succ]
          refine take_h 9 ⟨?_, ?_, ?_, by kernel_rfl, by kernel_rfl, by kernel_rfl, ?_, ?_, by assumption, ?_⟩
          rotate_left 2
          · (simp only [List.getElem?_toArray, List.getElem?_cons_succ, List.getElem?_cons_zero]; exact rfl)
          · exact fun _ _ _ h => h
          · first
              | (refine Or.inr ⟨by rfl, ?_⟩; exact rfl)
              | (refine Or.inl ⟨by rfl, ?_⟩
                 intro w hSw
                 (try dsimp only at hSw)
                 (try go_split_ands)
                 go_simp
                 (first | done | with_reducible rfl))
          try simp only [Act.put, List.setIfInBounds_toArray, List.set_cons_zero, List.set_cons_succ]
          refine take_h 10 ⟨?_, ?_, ?_, by kernel_rfl, by kernel_rfl, by kernel_rfl, ?_, ?_, by assumption, ?_⟩
          rotate_left 2
          · (simp only [List.getElem?_toArray, List.getElem?_cons_succ, List.getElem?_cons_zero]; exact rfl)
          · exact fun _ _ _ h => h
          · first
              | (refine Or.inr ⟨by rfl, ?_⟩; exact rfl)
              | (refine Or.inl ⟨by rfl, ?_⟩
                 intro w hSw
                 (try dsimp only at hSw)
                 (try go_split_ands)
                 go_simp
                 (first | done | with_reducible rfl))
          try simp only [Act.put, List.setIfInBounds_toArray, List.set_cons_zero, List.set_cons_succ]
          refine take_h 11 ⟨?_, ?_, ?_, by kernel_rfl, by kernel_rfl, by kernel_rfl, ?_, ?_, by assumption, ?_⟩
          rotate_left 2
          · (simp only [List.getElem?_toArray, List.getElem?_cons_succ, List.getElem?_cons_zero]; exact rfl)
          · exact fun _ _ _ h => h
          · first
              | (refine Or.inr ⟨by rfl, ?_⟩; exact rfl)
              | (refine Or.inl ⟨by rfl, ?_⟩
                 intro w hSw
                 (try dsimp only at hSw)
                 (try go_split_ands)
                 go_simp
                 (first | done | with_reducible rfl))
          try simp only [Act.put, List.setIfInBounds_toArray, List.set_cons_zero, List.set_cons_succ]
          refine take_h 12 ⟨?_, ?_, ?_, by kernel_rfl, by kernel_rfl, by kernel_rfl, ?_, ?_, by assumption, ?_⟩
          rotate_left 2
          · (simp only [List.getElem?_toArray, List.getElem?_cons_succ, List.getElem?_cons_zero]; exact rfl)
          · exact fun _ _ _ h => h
          · first
              | (refine Or.inr ⟨by rfl, ?_⟩; exact rfl)
              | (refine Or.inl ⟨by rfl, ?_⟩
                 intro w hSw
                 (try dsimp only at hSw)
                 (try go_split_ands)
                 go_simp
                 (first | done | with_reducible rfl))
          try simp only [Act.put, List.setIfInBounds_toArray, List.set_cons_zero, List.set_cons_succ]
          refine take_h 13 ⟨?_, ?_, ?_, by kernel_rfl, by kernel_rfl, by kernel_rfl, ?_, ?_, by assumption, ?_⟩
          rotate_left 2
          · (simp only [List.getElem?_toArray, List.getElem?_cons_succ, List.getElem?_cons_zero]; exact rfl)
          · exact fun _ _ _ h => h
          · first
              | (refine Or.inr ⟨by rfl, ?_⟩; exact rfl)
              | (refine Or.inl ⟨by rfl, ?_⟩
                 intro w hSw
                 (try dsimp only at hSw)
                 (try go_split_ands)
                 go_simp
                 (first | done | with_reducible rfl))
          try simp only [Act.put, List.setIfInBounds_toArray, List.set_cons_zero, List.set_cons_succ]
          refine take_h 14 ⟨?_, ?_, ?_, by kernel_rfl, by kernel_rfl, by kernel_rfl, ?_, ?_, by assumption, ?_⟩
          rotate_left 2
          · (simp only [List.getElem?_toArray, List.getElem?_cons_succ, List.getElem?_cons_zero]; exact rfl)
          · exact fun _ _ _ h => h
          · first
              | (refine Or.inr ⟨by rfl, ?_⟩; exact rfl)
              | (refine Or.inl ⟨by rfl, ?_⟩
                 intro w hSw
                 (try dsimp only at hSw)
                 (try go_split_ands)
                 go_simp
                 (first | done | with_reducible rfl))
          try simp only [Act.put, List.setIfInBounds_toArray, List.set_cons_zero, List.set_cons_succ]
          refine take_h 15 ⟨?_, ?_, ?_, by kernel_rfl, by kernel_rfl, by kernel_rfl, ?_, ?_, by assumption, ?_⟩
          rotate_left 2
          · (simp only [List.getElem?_toArray, List.getElem?_cons_succ, List.getElem?_cons_zero]; exact rfl)
          · exact fun _ _ _ h => h
          · first
              | (refine Or.inr ⟨by rfl, ?_⟩; exact rfl)
              | (refine Or.inl ⟨by rfl, ?_⟩
                 intro w hSw
                 (try dsimp only at hSw)
                 (try go_split_ands)
                 go_simp
                 (first | done | with_reducible rfl))
          try simp only [Act.put, List.setIfInBounds_toArray, List.set_cons_zero, List.set_cons_succ]
          refine wpAnyH_ready (rs := [7]) (by kernel_rfl) (by simp) ?_
          refine call_h 7 ⟨?_, ?_, fun K hK => ?_⟩
          rotate_left 1
          · (simp only [List.getElem?_toArray, List.getElem?_cons_succ, List.getElem?_cons_zero]; exact rfl)
          go_simp
          (go_at_call 42; refine HC1.out.mono ?_; rintro e w2 ⟨rfl, hM, hl1⟩)
          go_wp2_with fail
          have hl1' : Left (PL s) w1 w2 := ⟨hl1.os, hl1.tape, hl1.output, hl1.size, hl1.block⟩
          have HB2 := Lib.hid (HBW.out.trans (HJW.out.belowP hl1'))
          have hz2 := hl1'.size
          have HM := Lib.hid hM
          have j2 := cell_left' i2 hl1' HNP.out
          have j5 := cell_left' i5 hl1' HNP.out
          have jb := cell_left' ib hl1' HPB.out
          clear hM hl1 hl1' i2 i5 ib
          refine hK.out _ _ ⟨j2, j5, jb⟩ (fun hHeld => ?_)
          clear hK K
          (try simp only [Act.put, List.setIfInBounds_toArray, List.set_cons_zero, List.set_cons_succ])
          refine wpAnyH_ready (rs := [8]) (by kernel_rfl) (by simp) ?_
          refine call_h 8 ⟨?_, ?_, fun K hK => ?_⟩
          rotate_left 1
          · (simp only [List.getElem?_toArray, List.getElem?_cons_succ, List.getElem?_cons_zero]; exact rfl)
          go_simp
          (go_at_call 16; refine (num2_any _ _).mono ?_; rintro e w' ⟨rfl, rfl⟩)
          go_wp2_with fail
          refine hK.out _ _ ⟨j2, j5, jb⟩ (fun hHeld => ?_)
          clear hK K
          (try simp only [Act.put, List.setIfInBounds_toArray, List.set_cons_zero, List.set_cons_succ])
          refine wpAnyH_ready (rs := [16]) (by kernel_rfl) (by simp) ?_
          refine call_h 16 ⟨?_, ?_, fun K hK => ?_⟩
          rotate_left 1
          · (simp only [List.getElem?_toArray, List.getElem?_cons_succ, List.getElem?_cons_zero]; exact rfl)
          go_simp
          (go_at_call 79; refine (HC2.out w2 HM.out).mono ?_; rintro e w3 ⟨rfl, hJ3, hl2⟩)
          go_wp2_with fail
          have HJ3 := Lib.hid hJ3
          have HB3 := Lib.hid (HB2.out.trans (HJW.out.belowQ (Nat.le_trans hbw1 hz2) hl2))
          have l2 := cell_left' j2 hl2 HNQ.out
          have l5 := cell_left' j5 hl2 HNQ.out
          have lb := cell_left' jb hl2 HQB.out
          have hW3 := hJ3.hal.1
          have e1 : w3.cell? ⟨s 0, 1, none⟩ = some (.pointer (some ⟨s 1, 0, none⟩)) := by rw [hW3.cell]; rfl
          have e4 : w3.cell? ⟨s 0, 4, none⟩ = some (.pointer (some ⟨s 10, 0, none⟩)) := by rw [hW3.cell]; rfl
          clear hJ3 hl2 hW3 j2 j5 jb
          refine hK.out _ _ ⟨l2, l5, lb⟩ (fun hHeld => ?_)
          clear hK K l2 l5 lb
          (try simp only [Act.put, List.setIfInBounds_toArray, List.set_cons_zero, List.set_cons_succ])
          refine take_h 17 ⟨?_, ?_, ?_, by kernel_rfl, by kernel_rfl, by kernel_rfl, ?_, ?_, by assumption, ?_⟩
          rotate_left 2
          · (simp only [List.getElem?_toArray, List.getElem?_cons_succ, List.getElem?_cons_zero]; exact rfl)
          · exact fun _ _ _ h => h
          · first
              | (refine Or.inr ⟨by rfl, ?_⟩; exact rfl)
              | (refine Or.inl ⟨by rfl, ?_⟩
                 intro w hSw
                 (try dsimp only at hSw)
                 (try go_split_ands)
                 go_simp
                 (first | done | with_reducible rfl))
          try simp only [Act.put, List.setIfInBounds_toArray, List.set_cons_zero, List.set_cons_succ]
          refine wpAnyH_done (by kernel_rfl) ?_ _
          clear hHeld
          obtain ⟨fn, hf1, hf2⟩ := HJ3.out.free
          have HF1 := Lib.hid hf1
          have HF2 := Lib.hid hf2
          clear hf1 hf2
          go_wp2_with fail
          go_quiet ((first | (go_at_call 39; exact Calls.quiet_of_same (HF1.out _)) | (go_at_call 81; exact Calls.quiet_of_same (HF2.out _))))
          go_wp2
          go_ret
          exact ⟨rfl, ⟨_, _, HJ3.out.left0 ((Left.refl _ _).drewN _), by first | (simp; done) | (simp; omega)⟩, below_drewN HB3.out _⟩
        · go_enter Try.func48, Try.ntmps48
          go_upto_region 30 with fail
          obtain ⟨hJW0, hbW0⟩ := HUPD.out (.slice (some ⟨g, o, none⟩) 0 0) (by simp [hc1])
          have hJW : JX ((w.setCell ⟨s 0, 6, none⟩ (.slice (some ⟨g, o, none⟩) 0 0)).alloc (.cells #[.int .i64 dk, .int .i64 n, .int .i64 at_, lv, .int .u64 v] 77)) base s q (.slice (some ⟨g, o, none⟩) 0 0) _ := hJW0.left0 ((Left.refl _ _).alloc _)
          have hbW : Below base w ((w.setCell ⟨s 0, 6, none⟩ (.slice (some ⟨g, o, none⟩) 0 0)).alloc (.cells #[.int .i64 dk, .int .i64 n, .int .i64 at_, lv, .int .u64 v] 77)) := hbW0.alloc hJW0.base_le _
          have hzz : (w.setCell ⟨s 0, 6, none⟩ (.slice (some ⟨g, o, none⟩) 0 0)).heap.size = w.heap.size := by simp
          have ib : ((w.setCell ⟨s 0, 6, none⟩ (.slice (some ⟨g, o, none⟩) 0 0)).alloc (.cells #[.int .i64 dk, .int .i64 n, .int .i64 at_, lv, .int .u64 v] 77)).cell? ⟨w.heap.size, 1, none⟩ = some (.int .i64 n) := by
            have := (Whole.new (w.setCell ⟨s 0, 6, none⟩ (.slice (some ⟨g, o, none⟩) 0 0)) 77 [.int .i64 dk, .int .i64 n, .int .i64 at_, lv, .int .u64 v]).cell 1
            rw [hzz] at this
            exact this
          have HJW := Lib.hid hJW
          have HBW := Lib.hid hbW
          have hbw1 : base ≤ ((w.setCell ⟨s 0, 6, none⟩ (.slice (some ⟨g, o, none⟩) 0 0)).alloc (.cells #[.int .i64 dk, .int .i64 n, .int .i64 at_, lv, .int .u64 v] 77)).heap.size := hJW.base_le
          have HJ1 := trivial
          have HB1 := trivial
          have HUPD := trivial
          clear c0 c1 c2 c3 c4 c5 c6 f6 hJW hbW kcell hJW0 hbW0 hzz
          generalize ((w.setCell ⟨s 0, 6, none⟩ (.slice (some ⟨g, o, none⟩) 0 0)).alloc (.cells #[.int .i64 dk, .int .i64 n, .int .i64 at_, lv, .int .u64 v] 77)) = w1 at ib HJW HBW hbw1 ⊢
          have hW7 := HJW.out.hal.1
          have i2 : w1.cell? ⟨s 0, 2, none⟩ = some (.pointer (some ⟨s 5, 0, none⟩)) := by rw [hW7.cell]; rfl
          have i5 : w1.cell? ⟨s 0, 5, none⟩ = some (.pointer (some ⟨s 14, 0, none⟩)) := by rw [hW7.cell]; rfl
          have HW7 := Lib.hid hW7
          obtain ⟨er, M, hc1, hc2⟩ := (HJW.out.left0 (Left.refl [] _).drew).push (x : Int) n
          have HC1 := Lib.hid hc1
          have HC2 := Lib.hid hc2
          clear hc1 hc2 hW7
          refine wp_region_held_drew (S := fun wx => wx.cell? ⟨s 0, 2, none⟩ = some (.pointer (some ⟨s 5, 0, none⟩)) ∧ wx.cell? ⟨s 0, 5, none⟩ = some (.pointer (some ⟨s 14, 0, none⟩)) ∧ wx.cell? ⟨w.heap.size, 1, none⟩ = some (.int .i64 n)) (by kernel_rfl) ⟨i2, i5, ib⟩ (fun hHeld => ?_)
          refine take_h 0 ⟨?_, ?_, ?_, by kernel_rfl, by kernel_rfl, by kernel_rfl, ?_, ?_, by assumption, ?_⟩
          rotate_left 2
          · (simp only [List.getElem?_toArray, List.getElem?_cons_zero]; exact rfl)
          · exact fun _ _ _ h => h
          · first
              | (refine Or.inr ⟨by rfl, ?_⟩; exact rfl)
              | (refine Or.inl ⟨by rfl, ?_⟩
                 intro w hSw
                 (try dsimp only at hSw)
                 (try go_split_ands)
                 go_simp
                 (first | done | with_reducible rfl))
          try simp only [Act.put, List.setIfInBounds_toArray, List.set_cons_zero, List.set_cons_succ]
          refine take_h 1 ⟨?_, ?_, ?_, by kernel_rfl, by kernel_rfl, by kernel_rfl, ?_, ?_, by assumption, ?_⟩
          rotate_left 2
          · (simp only [List.getElem?_toArray, List.getElem?_cons_succ, List.getElem?_cons_zero]; exact rfl)
          · exact fun _ _ _ h => h
          · first
              | (refine Or.inr ⟨by rfl, ?_⟩; exact rfl)
              | (refine Or.inl ⟨by rfl, ?_⟩
                 intro w hSw
                 (try dsimp only at hSw)
                 (try go_split_ands)
                 go_simp
                 (first | done | with_reducible rfl))
          try simp only [Act.put, List.setIfInBounds_toArray, List.set_cons_zero, List.set_cons_succ]
          refine take_h 2 ⟨?_, ?_, ?_, by kernel_rfl, by kernel_rfl, by kernel_rfl, ?_, ?_, by assumption, ?_⟩
          rotate_left 2
          · (simp only [List.getElem?_toArray, List.getElem?_cons_succ, List.getElem?_cons_zero]; exact rfl)
          · exact fun _ _ _ h => h
          · first
              | (refine Or.inr ⟨by rfl, ?_⟩; exact rfl)
              | (refine Or.inl ⟨by rfl, ?_⟩
                 intro w hSw
                 (try dsimp only at hSw)
                 (try go_split_ands)
                 go_simp
                 (first | done | with_reducible rfl))
          try simp only [Act.put, List.setIfInBounds_toArray, List.set_cons_zero, List.set_cons_succ]
          refine take_h 3 ⟨?_, ?_, ?_, by kernel_rfl, by kernel_rfl, by kernel_rfl, ?_, ?_, by assumption, ?_⟩
          rotate_left 2
          · (simp only [List.getElem?_toArray, List.getElem?_cons_succ, List.getElem?_cons_zero]; exact rfl)
          · exact fun _ _ _ h => h
          · first
              | (refine Or.inr ⟨by rfl, ?_⟩; exact rfl)
              | (refine Or.inl ⟨by rfl, ?_⟩
                 intro w hSw
                 (try dsimp only at hSw)
                 (try go_split_ands)
                 go_simp
                 (first | done | with_reducible rfl))
          try simp only [Act.put, List.setIfInBounds_toArray, List.set_cons_zero, List.set_cons_succ]
          refine take_h 4 ⟨?_, ?_, ?_, by kernel_rfl, by kernel_rfl, by kernel_rfl, ?_, ?_, by assumption, ?_⟩
          rotate_left 2
          · (simp only [List.getElem?_toArray, List.getElem?_cons_succ, List.getElem?_cons_zero]; exact rfl)
          · exact fun _ _ _ h => h
          · first
              | (refine Or.inr ⟨by rfl, ?_⟩; exact rfl)
              | (refine Or.inl ⟨by rfl, ?_⟩
                 intro w hSw
                 (try dsimp only at hSw)
                 (try go_split_ands)
                 go_simp
                 (first | done | with_reducible rfl))
          try simp only [Act.put, List.setIfInBounds_toArray, List.set_cons_zero, List.set_cons_succ]
          refine take_h 5 ⟨?_, ?_, ?_, by kernel_rfl, by kernel_rfl, by kernel_rfl, ?_, ?_, by assumption, ?_⟩
          rotate_left 2
          · (simp only [List.getElem?_toArray, List.getElem?_cons_succ, List.getElem?_cons_zero]; exact rfl)
          · exact fun _ _ _ h => h
          · first
              | (refine Or.inr ⟨by rfl, ?_⟩; exact rfl)
              | (refine Or.inl ⟨by rfl, ?_⟩
                 intro w hSw
                 (try dsimp only at hSw)
                 (try go_split_ands)
                 go_simp
                 (first | done | with_reducible rfl))
          try simp only [Act.put, List.setIfInBounds_toArray, List.set_cons_zero, List.set_cons_succ]
          refine take_h 6 ⟨?_, ?_, ?_, by kernel_rfl, by kernel_rfl, by kernel_rfl, ?_, ?_, by assumption, ?_⟩
          rotate_left 2
          · (simp only [List.getElem?_toArray, List.getElem?_cons_succ, List.getElem?_cons_zero]; exact rfl)
          · exact fun _ _ _ h => h
          · first
              | (refine Or.inr ⟨by rfl, ?_⟩; exact rfl)
              | (refine Or.inl ⟨by rfl, ?_⟩
                 intro w hSw
                 (try dsimp only at hSw)
                 (try go_split_ands)
                 go_simp
                 (first | done | with_reducible rfl))
          try simp only [Act.put, List.setIfInBounds_toArray, List.set_cons_zero, List.set_cons_succ]
          refine take_h 9 ⟨?_, ?_, ?_, by kernel_rfl, by kernel_rfl, by kernel_rfl, ?_, ?_, by assumption, ?_⟩
          rotate_left 2
          · (simp only [List.getElem?_toArray, List.getElem?_cons_succ, List.getElem?_cons_zero]; exact rfl)
          · exact fun _ _ _ h => h
          · first
              | (refine Or.inr ⟨by rfl, ?_⟩; exact rfl)
              | (refine Or.inl ⟨by rfl, ?_⟩
                 intro w hSw
                 (try dsimp only at hSw)
                 (try go_split_ands)
                 go_simp
                 (first | done | with_reducible rfl))
          try simp only [Act.put, List.setIfInBounds_toArray, List.set_cons_zero, List.set_cons_succ]
          refine take_h 10 ⟨?_, ?_, ?_, by kernel_rfl, by kernel_rfl, by kernel_rfl, ?_, ?_, by assumption, ?_⟩
          rotate_left 2
          · (simp only [List.getElem?_toArray, List.getElem?_cons_succ, List.getElem?_cons_zero]; exact rfl)
          · exact fun _ _ _ h => h
          · first
              | (refine Or.inr ⟨by rfl, ?_⟩; exact rfl)
              | (refine Or.inl ⟨by rfl, ?_⟩
                 intro w hSw
                 (try dsimp only at hSw)
                 (try go_split_ands)
                 go_simp
                 (first | done | with_reducible rfl))
          try simp only [Act.put, List.setIfInBounds_toArray, List.set_cons_zero, List.set_cons_succ]
          refine take_h 11 ⟨?_, ?_, ?_, by kernel_rfl, by kernel_rfl, by kernel_rfl, ?_, ?_, by assumption, ?_⟩
          rotate_left 2
          · (simp only [List.getElem?_toArray, List.getElem?_cons_succ, List.getElem?_cons_zero]; exact rfl)
          · exact fun _ _ _ h => h
          · first
              | (refine Or.inr ⟨by rfl, ?_⟩; exact rfl)
              | (refine Or.inl ⟨by rfl, ?_⟩
                 intro w hSw
                 (try dsimp only at hSw)
                 (try go_split_ands)
                 go_simp
                 (first | done | with_reducible rfl))
          try simp only [Act.put, List.setIfInBounds_toArray, List.set_cons_zero, List.set_cons_succ]
          refine take_h 12 ⟨?_, ?_, ?_, by kernel_rfl, by kernel_rfl, by kernel_rfl, ?_, ?_, by assumption, ?_⟩
          rotate_left 2
          · (simp only [List.getElem?_toArray, List.getElem?_cons_succ, List.getElem?_cons_zero]; exact rfl)
          · exact fun _ _ _ h => h
          · first
              | (refine Or.inr ⟨by rfl, ?_⟩; exact rfl)
              | (refine Or.inl ⟨by rfl, ?_⟩
                 intro w hSw
                 (try dsimp only at hSw)
                 (try go_split_ands)
                 go_simp
                 (first | done | with_reducible rfl))
          try simp only [Act.put, List.setIfInBounds_toArray, List.set_cons_zero, List.set_cons_succ]
          refine take_h 13 ⟨?_, ?_, ?_, by kernel_rfl, by kernel_rfl, by kernel_rfl, ?_, ?_, by assumption, ?_⟩
          rotate_left 2
          · (simp only [List.getElem?_toArray, List.getElem?_cons_succ, List.getElem?_cons_zero]; exact rfl)
          · exact fun _ _ _ h => h
          · first
              | (refine Or.inr ⟨by rfl, ?_⟩; exact rfl)
              | (refine Or.inl ⟨by rfl, ?_⟩
                 intro w hSw
                 (try dsimp only at hSw)
                 (try go_split_ands)
                 go_simp
                 (first | done | with_reducible rfl))
          try simp only [Act.put, List.setIfInBounds_toArray, List.set_cons_zero, List.set_cons_succ]
          refine take_h 14 ⟨?_, ?_, ?_, by kernel_rfl, by kernel_rfl, by kernel_rfl, ?_, ?_, by assumption, ?_⟩
          rotate_left 2
          · (simp only [List.getElem?_toArray, List.getElem?_cons_succ, List.getElem?_cons_zero]; exact rfl)
          · exact fun _ _ _ h => h
          · first
              | (refine Or.inr ⟨by rfl, ?_⟩; exact rfl)
              | (refine Or.inl ⟨by rfl, ?_⟩
                 intro w hSw
                 (try dsimp only at hSw)
                 (try go_split_ands)
                 go_simp
                 (first | done | with_reducible rfl))
          try simp only [Act.put, List.setIfInBounds_toArray, List.set_cons_zero, List.set_cons_succ]
          refine take_h 15 ⟨?_, ?_, ?_, by kernel_rfl, by kernel_rfl, by kernel_rfl, ?_, ?_, by assumption, ?_⟩
          rotate_left 2
          · (simp only [List.getElem?_toArray, List.getElem?_cons_succ, List.getElem?_cons_zero]; exact rfl)
          · exact fun _ _ _ h => h
          · first
              | (refine Or.inr ⟨by rfl, ?_⟩; exact rfl)
              | (refine Or.inl ⟨by rfl, ?_⟩
                 intro w hSw
                 (try dsimp only at hSw)
                 (try go_split_ands)
                 go_simp
                 (first | done | with_reducible rfl))
          try simp only [Act.put, List.setIfInBounds_toArray, List.set_cons_zero, List.set_cons_succ]
          refine wpAnyH_ready (rs := [7]) (by kernel_rfl) (by simp) ?_
          refine call_h 7 ⟨?_, ?_, fun K hK => ?_⟩
          rotate_left 1
          · (simp only [List.getElem?_toArray, List.getElem?_cons_succ, List.getElem?_cons_zero]; exact rfl)
          go_simp
          (go_at_call 42; refine HC1.out.mono ?_; rintro e w2 ⟨rfl, hM, hl1⟩)
          go_wp2_with fail
          have hl1' : Left (PL s) w1 w2 := ⟨hl1.os, hl1.tape, hl1.output, hl1.size, hl1.block⟩
          have HB2 := Lib.hid (HBW.out.trans (HJW.out.belowP hl1'))
          have hz2 := hl1'.size
          have HM := Lib.hid hM
          have j2 := cell_left' i2 hl1' HNP.out
          have j5 := cell_left' i5 hl1' HNP.out
          have jb := cell_left' ib hl1' HPB.out
          clear hM hl1 hl1' i2 i5 ib
          refine hK.out _ _ ⟨j2, j5, jb⟩ (fun hHeld => ?_)
          clear hK K
          (try simp only [Act.put, List.setIfInBounds_toArray, List.set_cons_zero, List.set_cons_succ])
          refine wpAnyH_ready (rs := [8]) (by kernel_rfl) (by simp) ?_
          refine call_h 8 ⟨?_, ?_, fun K hK => ?_⟩
          rotate_left 1
          · (simp only [List.getElem?_toArray, List.getElem?_cons_succ, List.getElem?_cons_zero]; exact rfl)
          go_simp
          (go_at_call 16; refine (num2_any _ _).mono ?_; rintro e w' ⟨rfl, rfl⟩)
          go_wp2_with fail
          refine hK.out _ _ ⟨j2, j5, jb⟩ (fun hHeld => ?_)
          clear hK K
          (try simp only [Act.put, List.setIfInBounds_toArray, List.set_cons_zero, List.set_cons_succ])
          refine wpAnyH_ready (rs := [16]) (by kernel_rfl) (by simp) ?_
          refine call_h 16 ⟨?_, ?_, fun K hK => ?_⟩
          rotate_left 1
          · (simp only [List.getElem?_toArray, List.getElem?_cons_succ, List.getElem?_cons_zero]; exact rfl)
          go_simp
          (go_at_call 79; refine (HC2.out w2 HM.out).mono ?_; rintro e w3 ⟨rfl, hJ3, hl2⟩)
          go_wp2_with fail
          have HJ3 := Lib.hid hJ3
          have HB3 := Lib.hid (HB2.out.trans (HJW.out.belowQ (Nat.le_trans hbw1 hz2) hl2))
          have l2 := cell_left' j2 hl2 HNQ.out
          have l5 := cell_left' j5 hl2 HNQ.out
          have lb := cell_left' jb hl2 HQB.out
          have hW3 := hJ3.hal.1
          have e1 : w3.cell? ⟨s 0, 1, none⟩ = some (.pointer (some ⟨s 1, 0, none⟩)) := by rw [hW3.cell]; rfl
          have e4 : w3.cell? ⟨s 0, 4, none⟩ = some (.pointer (some ⟨s 10, 0, none⟩)) := by rw [hW3.cell]; rfl
          clear hJ3 hl2 hW3 j2 j5 jb
          refine hK.out _ _ ⟨l2, l5, lb⟩ (fun hHeld => ?_)
          clear hK K l2 l5 lb
          (try simp only [Act.put, List.setIfInBounds_toArray, List.set_cons_zero, List.set_cons_succ])
          refine take_h 17 ⟨?_, ?_, ?_, by kernel_rfl, by kernel_rfl, by kernel_rfl, ?_, ?_, by assumption, ?_⟩
          rotate_left 2
          · (simp only [List.getElem?_toArray, List.getElem?_cons_succ, List.getElem?_cons_zero]; exact rfl)
          · exact fun _ _ _ h => h
          · first
              | (refine Or.inr ⟨by rfl, ?_⟩; exact rfl)
              | (refine Or.inl ⟨by rfl, ?_⟩
                 intro w hSw
                 (try dsimp only at hSw)
                 (try go_split_ands)
                 go_simp
                 (first | done | with_reducible rfl))
          try simp only [Act.put, List.setIfInBounds_toArray, List.set_cons_zero, List.set_cons_succ]
          refine wpAnyH_done (by kernel_rfl) ?_ _
          clear hHeld
          obtain ⟨fn, hf1, hf2⟩ := HJ3.out.free
          have HF1 := Lib.hid hf1
          have HF2 := Lib.hid hf2
          clear hf1 hf2
          go_wp2_with fail
          go_quiet ((first | (go_at_call 39; exact Calls.quiet_of_same (HF1.out _)) | (go_at_call 81; exact Calls.quiet_of_same (HF2.out _))))
          go_wp2
          go_ret
          exact ⟨rfl, ⟨_, _, HJ3.out.left0 ((Left.refl _ _).drewN _), by first | (simp; done) | (simp; omega)⟩, below_drewN HB3.out _⟩
      · have hcgt : 1 < cap := by omega
        have z1 : (1 : Int) ≤ (hs.length : Int) + 1 := by omega
        rcases hk with rfl | rfl
        · go_enter Try.func48, Try.ntmps48
          go_upto_region 30 with fail
          obtain ⟨hJW0, hbW0⟩ := HUPD.out (.slice (some ⟨g, o + 1, none⟩) hs.length (cap - 1)) (by simp [hc1])
          have hJW : JX ((w.setCell ⟨s 0, 6, none⟩ (.slice (some ⟨g, o + 1, none⟩) hs.length (cap - 1))).alloc (.cells #[.int .i64 dk, .int .i64 n, .int .i64 at_, lv, .int .u64 v] 77)) base s q (.slice (some ⟨g, o + 1, none⟩) hs.length (cap - 1)) _ := hJW0.left0 ((Left.refl _ _).alloc _)
          have hbW : Below base w ((w.setCell ⟨s 0, 6, none⟩ (.slice (some ⟨g, o + 1, none⟩) hs.length (cap - 1))).alloc (.cells #[.int .i64 dk, .int .i64 n, .int .i64 at_, lv, .int .u64 v] 77)) := hbW0.alloc hJW0.base_le _
          have hzz : (w.setCell ⟨s 0, 6, none⟩ (.slice (some ⟨g, o + 1, none⟩) hs.length (cap - 1))).heap.size = w.heap.size := by simp
          have ib : ((w.setCell ⟨s 0, 6, none⟩ (.slice (some ⟨g, o + 1, none⟩) hs.length (cap - 1))).alloc (.cells #[.int .i64 dk, .int .i64 n, .int .i64 at_, lv, .int .u64 v] 77)).cell? ⟨w.heap.size, 1, none⟩ = some (.int .i64 n) := by
            have := (Whole.new (w.setCell ⟨s 0, 6, none⟩ (.slice (some ⟨g, o + 1, none⟩) hs.length (cap - 1))) 77 [.int .i64 dk, .int .i64 n, .int .i64 at_, lv, .int .u64 v]).cell 1
            rw [hzz] at this
            exact this
          have HJW := Lib.hid hJW
          have HBW := Lib.hid hbW
          have hbw1 : base ≤ ((w.setCell ⟨s 0, 6, none⟩ (.slice (some ⟨g, o + 1, none⟩) hs.length (cap - 1))).alloc (.cells #[.int .i64 dk, .int .i64 n, .int .i64 at_, lv, .int .u64 v] 77)).heap.size := hJW.base_le
          have HJ1 := trivial
          have HB1 := trivial
          have HUPD := trivial
          clear c0 c1 c2 c3 c4 c5 c6 f6 hJW hbW kcell hJW0 hbW0 hzz
          generalize ((w.setCell ⟨s 0, 6, none⟩ (.slice (some ⟨g, o + 1, none⟩) hs.length (cap - 1))).alloc (.cells #[.int .i64 dk, .int .i64 n, .int .i64 at_, lv, .int .u64 v] 77)) = w1 at ib HJW HBW hbw1 ⊢
          have hW7 := HJW.out.hal.1
          have i2 : w1.cell? ⟨s 0, 2, none⟩ = some (.pointer (some ⟨s 5, 0, none⟩)) := by rw [hW7.cell]; rfl
          have i5 : w1.cell? ⟨s 0, 5, none⟩ = some (.pointer (some ⟨s 14, 0, none⟩)) := by rw [hW7.cell]; rfl
          have HW7 := Lib.hid hW7
          obtain ⟨er, M, hc1, hc2⟩ := (HJW.out.left0 (Left.refl [] _).drew).push (x : Int) n
          have HC1 := Lib.hid hc1
          have HC2 := Lib.hid hc2
          clear hc1 hc2 hW7
          refine wp_region_held_drew (S := fun wx => wx.cell? ⟨s 0, 2, none⟩ = some (.pointer (some ⟨s 5, 0, none⟩)) ∧ wx.cell? ⟨s 0, 5, none⟩ = some (.pointer (some ⟨s 14, 0, none⟩)) ∧ wx.cell? ⟨w.heap.size, 1, none⟩ = some (.int .i64 n)) (by kernel_rfl) ⟨i2, i5, ib⟩ (fun hHeld => ?_)
          refine take_h 0 ⟨?_, ?_, ?_, by kernel_rfl, by kernel_rfl, by kernel_rfl, ?_, ?_, by assumption, ?_⟩
          rotate_left 2
          · (simp only [List.getElem?_toArray, List.getElem?_cons_zero]; exact rfl)
          · exact fun _ _ _ h => h
          · first
              | (refine Or.inr ⟨by rfl, ?_⟩; exact rfl)
              | (refine Or.inl ⟨by rfl, ?_⟩
                 intro w hSw
                 (try dsimp only at hSw)
                 (try go_split_ands)
                 go_simp
                 (first | done | with_reducible rfl))
          try simp only [Act.put, List.setIfInBounds_toArray, List.set_cons_zero, List.set_cons_succ]
          refine take_h 1 ⟨?_, ?_, ?_, by kernel_rfl, by kernel_rfl, by kernel_rfl, ?_, ?_, by assumption, ?_⟩
          rotate_left 2
          · (simp only [List.getElem?_toArray, List.getElem?_cons_succ, List.getElem?_cons_zero]; exact rfl)
          · exact fun _ _ _ h => h
          · first
              | (refine Or.inr ⟨by rfl, ?_⟩; exact rfl)
              | (refine Or.inl ⟨by rfl, ?_⟩
                 intro w hSw
                 (try dsimp only at hSw)
                 (try go_split_ands)
                 go_simp
                 (first | done | with_reducible rfl))
          try simp only [Act.put, List.setIfInBounds_toArray, List.set_cons_zero, List.set_cons_succ]
          refine take_h 2 ⟨?_, ?_, ?_, by kernel_rfl, by kernel_rfl, by kernel_rfl, ?_, ?_, by assumption, ?_⟩
          rotate_left 2
          · (simp only [List.getElem?_toArray, List.getElem?_cons_succ, List.getElem?_cons_zero]; exact rfl)
          · exact fun _ _ _ h => h
          · first
              | (refine Or.inr ⟨by rfl, ?_⟩; exact rfl)
              | (refine Or.inl ⟨by rfl, ?_⟩
                 intro w hSw
                 (try dsimp only at hSw)
                 (try go_split_ands)
                 go_simp
                 (first | done | with_reducible rfl))
          try simp only [Act.put, List.setIfInBounds_toArray, List.set_cons_zero, List.set_cons_succ]
          refine take_h 3 ⟨?_, ?_, ?_, by kernel_rfl, by kernel_rfl, by kernel_rfl, ?_, ?_, by assumption, ?_⟩
          rotate_left 2
          · (simp only [List.getElem?_toArray, List.getElem?_cons_succ, List.getElem?_cons_zero]; exact rfl)
          · exact fun _ _ _ h => h
          · first
              | (refine Or.inr ⟨by rfl, ?_⟩; exact rfl)
              | (refine Or.inl ⟨by rfl, ?_⟩
                 intro w hSw
                 (try dsimp only at hSw)
                 (try go_split_ands)
                 go_simp
                 (first | done | with_reducible rfl))
          try simp only [Act.put, List.setIfInBounds_toArray, List.set_cons_zero, List.set_cons_succ]
          refine take_h 4 ⟨?_, ?_, ?_, by kernel_rfl, by kernel_rfl, by kernel_rfl, ?_, ?_, by assumption, ?_⟩
          rotate_left 2
          · (simp only [List.getElem?_toArray, List.getElem?_cons_succ, List.getElem?_cons_zero]; exact rfl)
          · exact fun _ _ _ h => h
          · first
              | (refine Or.inr ⟨by rfl, ?_⟩; exact rfl)
              | (refine Or.inl ⟨by rfl, ?_⟩
                 intro w hSw
                 (try dsimp only at hSw)
                 (try go_split_ands)
                 go_simp
                 (first | done | with_reducible rfl))
          try simp only [Act.put, List.setIfInBounds_toArray, List.set_cons_zero, List.set_cons_succ]
          refine take_h 5 ⟨?_, ?_, ?_, by kernel_rfl, by kernel_rfl, by kernel_rfl, ?_, ?_, by assumption, ?_⟩
          rotate_left 2
          · (simp only [List.getElem?_toArray, List.getElem?_cons_succ, List.getElem?_cons_zero]; exact rfl)
          · exact fun _ _ _ h => h
          · first
              | (refine Or.inr ⟨by rfl, ?_⟩; exact rfl)
              | (refine Or.inl ⟨by rfl, ?_⟩
                 intro w hSw
                 (try dsimp only at hSw)
                 (try go_split_ands)
                 go_simp
                 (first | done | with_reducible rfl))
          try simp only [Act.put, List.setIfInBounds_toArray, List.set_cons_zero, List.set_cons_succ]
          refine take_h 6 ⟨?_, ?_, ?_, by kernel_rfl, by kernel_rfl, by kernel_rfl, ?_, ?_, by assumption, ?_⟩
          rotate_left 2
          · (simp only [List.getElem?_toArray, List.getElem?_cons_succ, List.getElem?_cons_zero]; exact rfl)
          · exact fun _ _ _ h => h
          · first
              | (refine Or.inr ⟨by rfl, ?_⟩; exact rfl)
              | (refine Or.inl ⟨by rfl, ?_⟩
                 intro w hSw
                 (try dsimp only at hSw)
                 (try go_split_ands)
                 go_simp
                 (first | done | with_reducible rfl))
          try simp only [Act.put, List.setIfInBounds_toArray, List.set_cons_zero, List.set_cons_succ]
          refine take_h 9 ⟨?_, ?_, ?_, by kernel_rfl, by kernel_rfl, by kernel_rfl, ?_, ?_, by assumption, ?_⟩
          rotate_left 2
          · (simp only [List.getElem?_toArray, List.getElem?_cons_succ, List.getElem?_cons_zero]; exact rfl)
          · exact fun _ _ _ h => h
          · first
              | (refine Or.inr ⟨by rfl, ?_⟩; exact rfl)
              | (refine Or.inl ⟨by rfl, ?_⟩
                 intro w hSw
                 (try dsimp only at hSw)
                 (try go_split_ands)
                 go_simp
                 (first | done | with_reducible rfl))
          try simp only [Act.put, List.setIfInBounds_toArray, List.set_cons_zero, List.set_cons_succ]
          refine take_h 10 ⟨?_, ?_, ?_, by kernel_rfl, by kernel_rfl, by kernel_rfl, ?_, ?_, by assumption, ?_⟩
          rotate_left 2
          · (simp only [List.getElem?_toArray, List.getElem?_cons_succ, List.getElem?_cons_zero]; exact rfl)
          · exact fun _ _ _ h => h
          · first
              | (refine Or.inr ⟨by rfl, ?_⟩; exact rfl)
              | (refine Or.inl ⟨by rfl, ?_⟩
                 intro w hSw
                 (try dsimp only at hSw)
                 (try go_split_ands)
                 go_simp
                 (first | done | with_reducible rfl))
          try simp only [Act.put, List.setIfInBounds_toArray, List.set_cons_zero, List.set_cons_succ]
          refine take_h 11 ⟨?_, ?_, ?_, by kernel_rfl, by kernel_rfl, by kernel_rfl, ?_, ?_, by assumption, ?_⟩
          rotate_left 2
          · (simp only [List.getElem?_toArray, List.getElem?_cons_succ, List.getElem?_cons_zero]; exact rfl)
          · exact fun _ _ _ h => h
          · first
              | (refine Or.inr ⟨by rfl, ?_⟩; exact rfl)
              | (refine Or.inl ⟨by rfl, ?_⟩
                 intro w hSw
                 (try dsimp only at hSw)
                 (try go_split_ands)
                 go_simp
                 (first | done | with_reducible rfl))
          try simp only [Act.put, List.setIfInBounds_toArray, List.set_cons_zero, List.set_cons_succ]
          refine take_h 12 ⟨?_, ?_, ?_, by kernel_rfl, by kernel_rfl, by kernel_rfl, ?_, ?_, by assumption, ?_⟩
          rotate_left 2
          · (simp only [List.getElem?_toArray, List.getElem?_cons_succ, List.getElem?_cons_zero]; exact rfl)
          · exact fun _ _ _ h => h
          · first
              | (refine Or.inr ⟨by rfl, ?_⟩; exact rfl)
              | (refine Or.inl ⟨by rfl, ?_⟩
                 intro w hSw
                 (try dsimp only at hSw)
                 (try go_split_ands)
                 go_simp
                 (first | done | with_reducible rfl))
          try simp only [Act.put, List.setIfInBounds_toArray, List.set_cons_zero, List.set_cons_succ]
          refine take_h 13 ⟨?_, ?_, ?_, by kernel_rfl, by kernel_rfl, by kernel_rfl, ?_, ?_, by assumption, ?_⟩
          rotate_left 2
          · (simp only [List.getElem?_toArray, List.getElem?_cons_succ, List.getElem?_cons_zero]; exact rfl)
          · exact fun _ _ _ h => h
          · first
              | (refine Or.inr ⟨by rfl, ?_⟩; exact rfl)
              | (refine Or.inl ⟨by rfl, ?_⟩
                 intro w hSw
                 (try dsimp only at hSw)
                 (try go_split_ands)
                 go_simp
                 (first | done | with_reducible rfl))
          try simp only [Act.put, List.setIfInBounds_toArray, List.set_cons_zero, List.set_cons_succ]
          refine take_h 14 ⟨?_, ?_, ?_, by kernel_rfl, by kernel_rfl, by kernel_rfl, ?_, ?_, by assumption, ?_⟩
          rotate_left 2
          · (simp only [List.getElem?_toArray, List.getElem?_cons_succ, List.getElem?_cons_zero]; exact rfl)
          · exact fun _ _ _ h => h
          · first
              | (refine Or.inr ⟨by rfl, ?_⟩; exact rfl)
              | (refine Or.inl ⟨by rfl, ?_⟩
                 intro w hSw
                 (try dsimp only at hSw)
                 (try go_split_ands)
                 go_simp
                 (first | done | with_reducible rfl))
          try simp only [Act.put, List.setIfInBounds_toArray, List.set_cons_zero, List.set_cons_succ]
          refine take_h 15 ⟨?_, ?_, ?_, by kernel_rfl, by kernel_rfl, by kernel_rfl, ?_, ?_, by assumption, ?_⟩
          rotate_left 2
          · (simp only [List.getElem?_toArray, List.getElem?_cons_succ, List.getElem?_cons_zero]; exact rfl)
          · exact fun _ _ _ h => h
          · first
              | (refine Or.inr ⟨by rfl, ?_⟩; exact rfl)
              | (refine Or.inl ⟨by rfl, ?_⟩
                 intro w hSw
                 (try dsimp only at hSw)
                 (try go_split_ands)
                 go_simp
                 (first | done | with_reducible rfl))
          try simp only [Act.put, List.setIfInBounds_toArray, List.set_cons_zero, List.set_cons_succ]
          refine wpAnyH_ready (rs := [7]) (by kernel_rfl) (by simp) ?_
          refine call_h 7 ⟨?_, ?_, fun K hK => ?_⟩
          rotate_left 1
          · (simp only [List.getElem?_toArray, List.getElem?_cons_succ, List.getElem?_cons_zero]; exact rfl)
          go_simp
          (go_at_call 42; refine HC1.out.mono ?_; rintro e w2 ⟨rfl, hM, hl1⟩)
          go_wp2_with fail
          have hl1' : Left (PL s) w1 w2 := ⟨hl1.os, hl1.tape, hl1.output, hl1.size, hl1.block⟩
          have HB2 := Lib.hid (HBW.out.trans (HJW.out.belowP hl1'))
          have hz2 := hl1'.size
          have HM := Lib.hid hM
          have j2 := cell_left' i2 hl1' HNP.out
          have j5 := cell_left' i5 hl1' HNP.out
          have jb := cell_left' ib hl1' HPB.out
          clear hM hl1 hl1' i2 i5 ib
          refine hK.out _ _ ⟨j2, j5, jb⟩ (fun hHeld => ?_)
          clear hK K
          (try simp only [Act.put, List.setIfInBounds_toArray, List.set_cons_zero, List.set_cons_succ])
          refine wpAnyH_ready (rs := [8]) (by kernel_rfl) (by simp) ?_
          refine call_h 8 ⟨?_, ?_, fun K hK => ?_⟩
          rotate_left 1
          · (simp only [List.getElem?_toArray, List.getElem?_cons_succ, List.getElem?_cons_zero]; exact rfl)
          go_simp
          (go_at_call 16; refine (num2_any _ _).mono ?_; rintro e w' ⟨rfl, rfl⟩)
          go_wp2_with fail
          refine hK.out _ _ ⟨j2, j5, jb⟩ (fun hHeld => ?_)
          clear hK K
          (try simp only [Act.put, List.setIfInBounds_toArray, List.set_cons_zero, List.set_cons_succ])
          refine wpAnyH_ready (rs := [16]) (by kernel_rfl) (by simp) ?_
          refine call_h 16 ⟨?_, ?_, fun K hK => ?_⟩
          rotate_left 1
          · (simp only [List.getElem?_toArray, List.getElem?_cons_succ, List.getElem?_cons_zero]; exact rfl)
          go_simp
          (go_at_call 79; refine (HC2.out w2 HM.out).mono ?_; rintro e w3 ⟨rfl, hJ3, hl2⟩)
          go_wp2_with fail
          have HJ3 := Lib.hid hJ3
          have HB3 := Lib.hid (HB2.out.trans (HJW.out.belowQ (Nat.le_trans hbw1 hz2) hl2))
          have l2 := cell_left' j2 hl2 HNQ.out
          have l5 := cell_left' j5 hl2 HNQ.out
          have lb := cell_left' jb hl2 HQB.out
          have hW3 := hJ3.hal.1
          have e1 : w3.cell? ⟨s 0, 1, none⟩ = some (.pointer (some ⟨s 1, 0, none⟩)) := by rw [hW3.cell]; rfl
          have e4 : w3.cell? ⟨s 0, 4, none⟩ = some (.pointer (some ⟨s 10, 0, none⟩)) := by rw [hW3.cell]; rfl
          clear hJ3 hl2 hW3 j2 j5 jb
          refine hK.out _ _ ⟨l2, l5, lb⟩ (fun hHeld => ?_)
          clear hK K l2 l5 lb
          (try simp only [Act.put, List.setIfInBounds_toArray, List.set_cons_zero, List.set_cons_succ])
          refine take_h 17 ⟨?_, ?_, ?_, by kernel_rfl, by kernel_rfl, by kernel_rfl, ?_, ?_, by assumption, ?_⟩
          rotate_left 2
          · (simp only [List.getElem?_toArray, List.getElem?_cons_succ, List.getElem?_cons_zero]; exact rfl)
          · exact fun _ _ _ h => h
          · first
              | (refine Or.inr ⟨by rfl, ?_⟩; exact rfl)
              | (refine Or.inl ⟨by rfl, ?_⟩
                 intro w hSw
                 (try dsimp only at hSw)
                 (try go_split_ands)
                 go_simp
                 (first | done | with_reducible rfl))
          try simp only [Act.put, List.setIfInBounds_toArray, List.set_cons_zero, List.set_cons_succ]
          refine wpAnyH_done (by kernel_rfl) ?_ _
          clear hHeld
          obtain ⟨fn, hf1, hf2⟩ := HJ3.out.free
          have HF1 := Lib.hid hf1
          have HF2 := Lib.hid hf2
          clear hf1 hf2
          go_wp2_with fail
          go_quiet ((first | (go_at_call 39; exact Calls.quiet_of_same (HF1.out _)) | (go_at_call 81; exact Calls.quiet_of_same (HF2.out _))))
          go_wp2
          go_ret
          exact ⟨rfl, ⟨_, _, HJ3.out.left0 ((Left.refl _ _).drewN _), by first | (simp; done) | (simp; omega)⟩, below_drewN HB3.out _⟩
        · go_enter Try.func48, Try.ntmps48
          go_upto_region 30 with fail
          obtain ⟨hJW0, hbW0⟩ := HUPD.out (.slice (some ⟨g, o + 1, none⟩) hs.length (cap - 1)) (by simp [hc1])
          have hJW : JX ((w.setCell ⟨s 0, 6, none⟩ (.slice (some ⟨g, o + 1, none⟩) hs.length (cap - 1))).alloc (.cells #[.int .i64 dk, .int .i64 n, .int .i64 at_, lv, .int .u64 v] 77)) base s q (.slice (some ⟨g, o + 1, none⟩) hs.length (cap - 1)) _ := hJW0.left0 ((Left.refl _ _).alloc _)
          have hbW : Below base w ((w.setCell ⟨s 0, 6, none⟩ (.slice (some ⟨g, o + 1, none⟩) hs.length (cap - 1))).alloc (.cells #[.int .i64 dk, .int .i64 n, .int .i64 at_, lv, .int .u64 v] 77)) := hbW0.alloc hJW0.base_le _
          have hzz : (w.setCell ⟨s 0, 6, none⟩ (.slice (some ⟨g, o + 1, none⟩) hs.length (cap - 1))).heap.size = w.heap.size := by simp
          have ib : ((w.setCell ⟨s 0, 6, none⟩ (.slice (some ⟨g, o + 1, none⟩) hs.length (cap - 1))).alloc (.cells #[.int .i64 dk, .int .i64 n, .int .i64 at_, lv, .int .u64 v] 77)).cell? ⟨w.heap.size, 1, none⟩ = some (.int .i64 n) := by
            have := (Whole.new (w.setCell ⟨s 0, 6, none⟩ (.slice (some ⟨g, o + 1, none⟩) hs.length (cap - 1))) 77 [.int .i64 dk, .int .i64 n, .int .i64 at_, lv, .int .u64 v]).cell 1
            rw [hzz] at this
            exact this
          have HJW := Lib.hid hJW
          have HBW := Lib.hid hbW
          have hbw1 : base ≤ ((w.setCell ⟨s 0, 6, none⟩ (.slice (some ⟨g, o + 1, none⟩) hs.length (cap - 1))).alloc (.cells #[.int .i64 dk, .int .i64 n, .int .i64 at_, lv, .int .u64 v] 77)).heap.size := hJW.base_le
          have HJ1 := trivial
          have HB1 := trivial
          have HUPD := trivial
          clear c0 c1 c2 c3 c4 c5 c6 f6 hJW hbW kcell hJW0 hbW0 hzz
          generalize ((w.setCell ⟨s 0, 6, none⟩ (.slice (some ⟨g, o + 1, none⟩) hs.length (cap - 1))).alloc (.cells #[.int .i64 dk, .int .i64 n, .int .i64 at_, lv, .int .u64 v] 77)) = w1 at ib HJW HBW hbw1 ⊢
          have hW7 := HJW.out.hal.1
          have i2 : w1.cell? ⟨s 0, 2, none⟩ = some (.pointer (some ⟨s 5, 0, none⟩)) := by rw [hW7.cell]; rfl
          have i5 : w1.cell? ⟨s 0, 5, none⟩ = some (.pointer (some ⟨s 14, 0, none⟩)) := by rw [hW7.cell]; rfl
          have HW7 := Lib.hid hW7
          obtain ⟨er, M, hc1, hc2⟩ := (HJW.out.left0 (Left.refl [] _).drew).push (x : Int) n
          have HC1 := Lib.hid hc1
          have HC2 := Lib.hid hc2
          clear hc1 hc2 hW7
          refine wp_region_held_drew (S := fun wx => wx.cell? ⟨s 0, 2, none⟩ = some (.pointer (some ⟨s 5, 0, none⟩)) ∧ wx.cell? ⟨s 0, 5, none⟩ = some (.pointer (some ⟨s 14, 0, none⟩)) ∧ wx.cell? ⟨w.heap.size, 1, none⟩ = some (.int .i64 n)) (by kernel_rfl) ⟨i2, i5, ib⟩ (fun hHeld => ?_)
          refine take_h 0 ⟨?_, ?_, ?_, by kernel_rfl, by kernel_rfl, by kernel_rfl, ?_, ?_, by assumption, ?_⟩
          rotate_left 2
          · (simp only [List.getElem?_toArray, List.getElem?_cons_zero]; exact rfl)
          · exact fun _ _ _ h => h
          · first
              | (refine Or.inr ⟨by rfl, ?_⟩; exact rfl)
              | (refine Or.inl ⟨by rfl, ?_⟩
                 intro w hSw
                 (try dsimp only at hSw)
                 (try go_split_ands)
                 go_simp
                 (first | done | with_reducible rfl))
          try simp only [Act.put, List.setIfInBounds_toArray, List.set_cons_zero, List.set_cons_succ]
          refine take_h 1 ⟨?_, ?_, ?_, by kernel_rfl, by kernel_rfl, by kernel_rfl, ?_, ?_, by assumption, ?_⟩
          rotate_left 2
          · (simp only [List.getElem?_toArray, List.getElem?_cons_succ, List.getElem?_cons_zero]; exact rfl)
          · exact fun _ _ _ h => h
          · first
              | (refine Or.inr ⟨by rfl, ?_⟩; exact rfl)
              | (refine Or.inl ⟨by rfl, ?_⟩
                 intro w hSw
                 (try dsimp only at hSw)
                 (try go_split_ands)
                 go_simp
                 (first | done | with_reducible rfl))
          try simp only [Act.put, List.setIfInBounds_toArray, List.set_cons_zero, List.set_cons_succ]
          refine take_h 2 ⟨?_, ?_, ?_, by kernel_rfl, by kernel_rfl, by kernel_rfl, ?_, ?_, by assumption, ?_⟩
          rotate_left 2
          · (simp only [List.getElem?_toArray, List.getElem?_cons_succ, List.getElem?_cons_zero]; exact rfl)
          · exact fun _ _ _ h => h
          · first
              | (refine Or.inr ⟨by rfl, ?_⟩; exact rfl)
              | (refine Or.inl ⟨by rfl, ?_⟩
                 intro w hSw
                 (try dsimp only at hSw)
                 (try go_split_ands)
                 go_simp
                 (first | done | with_reducible rfl))
          try simp only [Act.put, List.setIfInBounds_toArray, List.set_cons_zero, List.set_cons_succ]
          refine take_h 3 ⟨?_, ?_, ?_, by kernel_rfl, by kernel_rfl, by kernel_rfl, ?_, ?_, by assumption, ?_⟩
          rotate_left 2
          · (simp only [List.getElem?_toArray, List.getElem?_cons_succ, List.getElem?_cons_zero]; exact rfl)
          · exact fun _ _ _ h => h
          · first
              | (refine Or.inr ⟨by rfl, ?_⟩; exact rfl)
              | (refine Or.inl ⟨by rfl, ?_⟩
                 intro w hSw
                 (try dsimp only at hSw)
                 (try go_split_ands)
                 go_simp
                 (first | done | with_reducible rfl))
          try simp only [Act.put, List.setIfInBounds_toArray, List.set_cons_zero, List.set_cons_succ]
          refine take_h 4 ⟨?_, ?_, ?_, by kernel_rfl, by kernel_rfl, by kernel_rfl, ?_, ?_, by assumption, ?_⟩
          rotate_left 2
          · (simp only [List.getElem?_toArray, List.getElem?_cons_succ, List.getElem?_cons_zero]; exact rfl)
          · exact fun _ _ _ h => h
          · first
              | (refine Or.inr ⟨by rfl, ?_⟩; exact rfl)
              | (refine Or.inl ⟨by rfl, ?_⟩
                 intro w hSw
                 (try dsimp only at hSw)
                 (try go_split_ands)
                 go_simp
                 (first | done | with_reducible rfl))
          try simp only [Act.put, List.setIfInBounds_toArray, List.set_cons_zero, List.set_cons_succ]
          refine take_h 5 ⟨?_, ?_, ?_, by kernel_rfl, by kernel_rfl, by kernel_rfl, ?_, ?_, by assumption, ?_⟩
          rotate_left 2
          · (simp only [List.getElem?_toArray, List.getElem?_cons_succ, List.getElem?_cons_zero]; exact rfl)
          · exact fun _ _ _ h => h
          · first
              | (refine Or.inr ⟨by rfl, ?_⟩; exact rfl)
              | (refine Or.inl ⟨by rfl, ?_⟩
                 intro w hSw
                 (try dsimp only at hSw)
                 (try go_split_ands)
                 go_simp
                 (first | done | with_reducible rfl))
          try simp only [Act.put, List.setIfInBounds_toArray, List.set_cons_zero, List.set_cons_succ]
          refine take_h 6 ⟨?_, ?_, ?_, by kernel_rfl, by kernel_rfl, by kernel_rfl, ?_, ?_, by assumption, ?_⟩
          rotate_left 2
          · (simp only [List.getElem?_toArray, List.getElem?_cons_succ, List.getElem?_cons_zero]; exact rfl)
          · exact fun _ _ _ h => h
          · first
              | (refine Or.inr ⟨by rfl, ?_⟩; exact rfl)
              | (refine Or.inl ⟨by rfl, ?_⟩
                 intro w hSw
                 (try dsimp only at hSw)
                 (try go_split_ands)
                 go_simp
                 (first | done | with_reducible rfl))
          try simp only [Act.put, List.setIfInBounds_toArray, List.set_cons_zero, List.set_cons_succ]
          refine take_h 9 ⟨?_, ?_, ?_, by kernel_rfl, by kernel_rfl, by kernel_rfl, ?_, ?_, by assumption, ?_⟩
          rotate_left 2
          · (simp only [List.getElem?_toArray, List.getElem?_cons_succ, List.getElem?_cons_zero]; exact rfl)
          · exact fun _ _ _ h => h
          · first
              | (refine Or.inr ⟨by rfl, ?_⟩; exact rfl)
              | (refine Or.inl ⟨by rfl, ?_⟩
                 intro w hSw
                 (try dsimp only at hSw)
                 (try go_split_ands)
                 go_simp
                 (first | done | with_reducible rfl))
          try simp only [Act.put, List.setIfInBounds_toArray, List.set_cons_zero, List.set_cons_succ]
          refine take_h 10 ⟨?_, ?_, ?_, by kernel_rfl, by kernel_rfl, by kernel_rfl, ?_, ?_, by assumption, ?_⟩
          rotate_left 2
          · (simp only [List.getElem?_toArray, List.getElem?_cons_succ, List.getElem?_cons_zero]; exact rfl)
          · exact fun _ _ _ h => h
          · first
              | (refine Or.inr ⟨by rfl, ?_⟩; exact rfl)
              | (refine Or.inl ⟨by rfl, ?_⟩
                 intro w hSw
                 (try dsimp only at hSw)
                 (try go_split_ands)
                 go_simp
                 (first | done | with_reducible rfl))
          try simp only [Act.put, List.setIfInBounds_toArray, List.set_cons_zero, List.set_cons_succ]
          refine take_h 11 ⟨?_, ?_, ?_, by kernel_rfl, by kernel_rfl, by kernel_rfl, ?_, ?_, by assumption, ?_⟩
          rotate_left 2
          · (simp only [List.getElem?_toArray, List.getElem?_cons_succ, List.getElem?_cons_zero]; exact rfl)
          · exact fun _ _ _ h => h
          · first
              | (refine Or.inr ⟨by rfl, ?_⟩; exact rfl)
              | (refine Or.inl ⟨by rfl, ?_⟩
                 intro w hSw
                 (try dsimp only at hSw)
                 (try go_split_ands)
                 go_simp
                 (first | done | with_reducible rfl))
          try simp only [Act.put, List.setIfInBounds_toArray, List.set_cons_zero, List.set_cons_succ]
          refine take_h 12 ⟨?_, ?_, ?_, by kernel_rfl, by kernel_rfl, by kernel_rfl, ?_, ?_, by assumption, ?_⟩
          rotate_left 2
          · (simp only [List.getElem?_toArray, List.getElem?_cons_succ, List.getElem?_cons_zero]; exact rfl)
          · exact fun _ _ _ h => h
          · first
              | (refine Or.inr ⟨by rfl, ?_⟩; exact rfl)
              | (refine Or.inl ⟨by rfl, ?_⟩
                 intro w hSw
                 (try dsimp only at hSw)
                 (try go_split_ands)
                 go_simp
                 (first | done | with_reducible rfl))
          try simp only [Act.put, List.setIfInBounds_toArray, List.set_cons_zero, List.set_cons_succ]
          refine take_h 13 ⟨?_, ?_, ?_, by kernel_rfl, by kernel_rfl, by kernel_rfl, ?_, ?_, by assumption, ?_⟩
          rotate_left 2
          · (simp only [List.getElem?_toArray, List.getElem?_cons_succ, List.getElem?_cons_zero]; exact rfl)
          · exact fun _ _ _ h => h
          · first
              | (refine Or.inr ⟨by rfl, ?_⟩; exact rfl)
              | (refine Or.inl ⟨by rfl, ?_⟩
                 intro w hSw
                 (try dsimp only at hSw)
                 (try go_split_ands)
                 go_simp
                 (first | done | with_reducible rfl))
          try simp only [Act.put, List.setIfInBounds_toArray, List.set_cons_zero, List.set_cons_succ]
          refine take_h 14 ⟨?_, ?_, ?_, by kernel_rfl, by kernel_rfl, by kernel_rfl, ?_, ?_, by assumption, ?_⟩
          rotate_left 2
          · (simp only [List.getElem?_toArray, List.getElem?_cons_succ, List.getElem?_cons_zero]; exact rfl)
          · exact fun _ _ _ h => h
          · first
              | (refine Or.inr ⟨by rfl, ?_⟩; exact rfl)
              | (refine Or.inl ⟨by rfl, ?_⟩
                 intro w hSw
                 (try dsimp only at hSw)
                 (try go_split_ands)
                 go_simp
                 (first | done | with_reducible rfl))
          try simp only [Act.put, List.setIfInBounds_toArray, List.set_cons_zero, List.set_cons_succ]
          refine take_h 15 ⟨?_, ?_, ?_, by kernel_rfl, by kernel_rfl, by kernel_rfl, ?_, ?_, by assumption, ?_⟩
          rotate_left 2
          · (simp only [List.getElem?_toArray, List.getElem?_cons_succ, List.getElem?_cons_zero]; exact rfl)
          · exact fun _ _ _ h => h
          · first
              | (refine Or.inr ⟨by rfl, ?_⟩; exact rfl)
              | (refine Or.inl ⟨by rfl, ?_⟩
                 intro w hSw
                 (try dsimp only at hSw)
                 (try go_split_ands)
                 go_simp
                 (first | done | with_reducible rfl))
          try simp only [Act.put, List.setIfInBounds_toArray, List.set_cons_zero, List.set_cons_succ]
          refine wpAnyH_ready (rs := [7]) (by kernel_rfl) (by simp) ?_
          refine call_h 7 ⟨?_, ?_, fun K hK => ?_⟩
          rotate_left 1
          · (simp only [List.getElem?_toArray, List.getElem?_cons_succ, List.getElem?_cons_zero]; exact rfl)
          go_simp
          (go_at_call 42; refine HC1.out.mono ?_; rintro e w2 ⟨rfl, hM, hl1⟩)
          go_wp2_with fail
          have hl1' : Left (PL s) w1 w2 := ⟨hl1.os, hl1.tape, hl1.output, hl1.size, hl1.block⟩
          have HB2 := Lib.hid (HBW.out.trans (HJW.out.belowP hl1'))
          have hz2 := hl1'.size
          have HM := Lib.hid hM
          have j2 := cell_left' i2 hl1' HNP.out
          have j5 := cell_left' i5 hl1' HNP.out
          have jb := cell_left' ib hl1' HPB.out
          clear hM hl1 hl1' i2 i5 ib
          refine hK.out _ _ ⟨j2, j5, jb⟩ (fun hHeld => ?_)
          clear hK K
          (try simp only [Act.put, List.setIfInBounds_toArray, List.set_cons_zero, List.set_cons_succ])
          refine wpAnyH_ready (rs := [8]) (by kernel_rfl) (by simp) ?_
          refine call_h 8 ⟨?_, ?_, fun K hK => ?_⟩
          rotate_left 1
          · (simp only [List.getElem?_toArray, List.getElem?_cons_succ, List.getElem?_cons_zero]; exact rfl)
          go_simp
          (go_at_call 16; refine (num2_any _ _).mono ?_; rintro e w' ⟨rfl, rfl⟩)
          go_wp2_with fail
          refine hK.out _ _ ⟨j2, j5, jb⟩ (fun hHeld => ?_)
          clear hK K
          (try simp only [Act.put, List.setIfInBounds_toArray, List.set_cons_zero, List.set_cons_succ])
          refine wpAnyH_ready (rs := [16]) (by kernel_rfl) (by simp) ?_
          refine call_h 16 ⟨?_, ?_, fun K hK => ?_⟩
          rotate_left 1
          · (simp only [List.getElem?_toArray, List.getElem?_cons_succ, List.getElem?_cons_zero]; exact rfl)
          go_simp
          (go_at_call 79; refine (HC2.out w2 HM.out).mono ?_; rintro e w3 ⟨rfl, hJ3, hl2⟩)
          go_wp2_with fail
          have HJ3 := Lib.hid hJ3
          have HB3 := Lib.hid (HB2.out.trans (HJW.out.belowQ (Nat.le_trans hbw1 hz2) hl2))
          have l2 := cell_left' j2 hl2 HNQ.out
          have l5 := cell_left' j5 hl2 HNQ.out
          have lb := cell_left' jb hl2 HQB.out
          have hW3 := hJ3.hal.1
          have e1 : w3.cell? ⟨s 0, 1, none⟩ = some (.pointer (some ⟨s 1, 0, none⟩)) := by rw [hW3.cell]; rfl
          have e4 : w3.cell? ⟨s 0, 4, none⟩ = some (.pointer (some ⟨s 10, 0, none⟩)) := by rw [hW3.cell]; rfl
          clear hJ3 hl2 hW3 j2 j5 jb
          refine hK.out _ _ ⟨l2, l5, lb⟩ (fun hHeld => ?_)
          clear hK K l2 l5 lb
          (try simp only [Act.put, List.setIfInBounds_toArray, List.set_cons_zero, List.set_cons_succ])
          refine take_h 17 ⟨?_, ?_, ?_, by kernel_rfl, by kernel_rfl, by kernel_rfl, ?_, ?_, by assumption, ?_⟩
          rotate_left 2
          · (simp only [List.getElem?_toArray, List.getElem?_cons_succ, List.getElem?_cons_zero]; exact rfl)
          · exact fun _ _ _ h => h
          · first
              | (refine Or.inr ⟨by rfl, ?_⟩; exact rfl)
              | (refine Or.inl ⟨by rfl, ?_⟩
                 intro w hSw
                 (try dsimp only at hSw)
                 (try go_split_ands)
                 go_simp
                 (first | done | with_reducible rfl))
          try simp only [Act.put, List.setIfInBounds_toArray, List.set_cons_zero, List.set_cons_succ]
          refine wpAnyH_done (by kernel_rfl) ?_ _
          clear hHeld
          obtain ⟨fn, hf1, hf2⟩ := HJ3.out.free
          have HF1 := Lib.hid hf1
          have HF2 := Lib.hid hf2
          clear hf1 hf2
          go_wp2_with fail
          go_quiet ((first | (go_at_call 39; exact Calls.quiet_of_same (HF1.out _)) | (go_at_call 81; exact Calls.quiet_of_same (HF2.out _))))
          go_wp2
          go_ret
          exact ⟨rfl, ⟨_, _, HJ3.out.left0 ((Left.refl _ _).drewN _), by first | (simp; done) | (simp; omega)⟩, below_drewN HB3.out _⟩
end Go.Proofs.Ytfffehbipcikoaa
