/- The law's act Pop. -/



import Derived.Test.YtfffehbipcikoaaRgDoes
namespace Go.Proofs.Ytfffehbipcikoaa
open Go.RowKit Go.MapKept

set_option maxHeartbeats 1000000 in
/-- Bufs writes over pieces of our own. -/
theorem Bufs0_any (w : World) (B : Nat) (v : Value) (n : Nat) (xs : List Value) (h : w.ownsRow B 89 3 v n xs) (hn : n ≤ 1048576) :
    Calls Try.prog 78 #[v] w fun e w' => e = .returned (.tuple #[]) ∧ Below B w w' := by
  obtain ⟨ao, cap, rfl, hc, hm⟩ := (Rd.of_own h).form
  have H := Lib.hid h
  clear h hm
  go_enter Try.func78, Try.ntmps78
  go_wp2
  go_loopw [2] (fun i wr => ∃ k : Nat, k ≤ n ∧ i = .int .i64 k ∧ (∃ M : List Value, wr.ownsRow B 89 3 (.slice ao n cap) n M) ∧ Below B w wr) (fun i _ => n - (intOf i).toNat)
  case atStart => exact ⟨0, by omega, rfl, ⟨_, H.out⟩, Below.refl _ _⟩
  case round =>
    obtain ⟨k, hk, rfl, ⟨M, hown⟩, hb⟩ := hrel
    by_cases hlt : k < n
    · obtain ⟨g, cap', hv, hBg, hgl⟩ := own_form' hown (by omega)
      injection hv with hv1 hv2 hv3
      subst hv1
      have hM := hown.1
      have HO := Lib.hid hown
      obtain ⟨u0, hu0⟩ : ∃ u, M[k * 3]? = some u := ⟨_, List.getElem?_eq_getElem (by omega)⟩
      obtain ⟨u1, hu1⟩ : ∃ u, M[k * 3 + 1]? = some u := ⟨_, List.getElem?_eq_getElem (by omega)⟩
      obtain ⟨u2, hu2⟩ : ∃ u, M[k * 3 + 2]? = some u := ⟨_, List.getElem?_eq_getElem (by omega)⟩
      have e0 : wr.cell? ⟨g, k * 3, none⟩ = some u0 := by rw [hown.cellAt (k * 3) (by omega)]; exact hu0
      have e1 : wr.cell? ⟨g, k * 3 + 1, none⟩ = some u1 := by rw [hown.cellAt (k * 3 + 1) (by omega)]; exact hu1
      have e2 : wr.cell? ⟨g, k * 3 + 2, none⟩ = some u2 := by rw [hown.cellAt (k * 3 + 2) (by omega)]; exact hu2
      have f0 := hown.frozenAt (k * 3)
      have f1 := hown.frozenAt (k * 3 + 1)
      have f2 := hown.frozenAt (k * 3 + 2)
      clear hown hv2 hv3 hu0 hu1 hu2
      go_wp2
      go_roundw
      case rel =>
        have h1 := (HO.out.stored (k * 3) (.int .i64 (-9))).1
        have h2 := (h1.stored (k * 3 + 1) (.int .i64 0)).1
        have h3 := (h2.stored (k * 3 + 2) (.bool false)).1
        exact ⟨k + 1, by omega, by go_num, ⟨_, h3⟩, ((hb.setCell hBg _).setCell hBg _).setCell hBg _⟩
      case measure => simp [intOf]; omega
    · have hke : k = n := by omega
      subst hke
      go_wp2
      go_end0
      exact ⟨rfl, hb⟩
open Go.RowKit Go.MapKept

section
variable {w w' : World} {base q : Nat} {s : Nat → Nat} {hv : Value} {hs : List Nat} {p p' : PN} {r r' : RN}
theorem JC.heads_ (h : JC w base s q hv hs p r) {S : List Nat} (hl : Left S w w') (hS : ∀ k ∈ S, (∀ i, 1 ≤ i → i < 18 → k ≠ s i) ∧ k ∉ r.F ∧ NoRow w (s 3) k) {hv' : Value} {hs' : List Nat}
    (hal' : Whole w' (s 0) 138 (halCells s hv')) (hd' : Row w' base 3 1 hv' hs'.length (i64s hs')) (hvn' : ∀ k, hv'.ownBlock = some k → (∀ i, i < 18 → k ≠ s i) ∧ k ∉ r.F ∧ NoRow w (s 3) k) (hsm' : ∀ x ∈ hs', x ≤ 65535) : JC w' base s q hv' hs' p r := by
  have hz := hl.size
  have hno : ∀ i, 1 ≤ i → i < 18 → s i ∉ S := fun i h1 hi hm => (hS _ hm).1 i h1 hi rfl
  have hN : ∀ k, NoRow w (s 3) k → NoRow w' (s 3) k := fun k hk => hk.left hl (hno 3 (by omega) (by omega)) (h.old 3 (by omega)).2
  obtain ⟨tk, ch, ws, h2⟩ := h.r2
  refine ⟨h.inj, h.isq, fun i hi => ⟨(h.old i hi).1, by have := (h.old i hi).2; omega⟩, hal', hd', fun k hk => ?_, h.mem.left hl (hno 6 (by omega) (by omega)) (hno 7 (by omega) (by omega)),
    h.drv.leftB hl (fun k hk => (hS k hk).2.2) (hno 1 (by omega) (by omega)) (hno 2 (by omega) (by omega)) (hno 3 (by omega) (by omega)) (hno 4 (by omega) (by omega)), h.dev.left hl (hno 5 (by omega) (by omega)), h.rmem.left hl (hno 8 (by omega) (by omega)) (hno 9 (by omega) (by omega)),
    h.r1.left hl (hno 10 (by omega) (by omega)) (hno 11 (by omega) (by omega)) (hno 12 (by omega) (by omega)) (hno 13 (by omega) (by omega)) (fun k hk => (hS k hk).2.1),
    ⟨tk, ch, ws, h2.left hl (hno 14 (by omega) (by omega)) (hno 15 (by omega) (by omega)) (hno 16 (by omega) (by omega)) (hno 17 (by omega) (by omega)) (by simp)⟩, fun k hk => ⟨by have := (h.fn k hk).1; omega, (h.fn k hk).2⟩, fun i hi => hN _ (h.nor i hi), h.lenB, h.smallP, h.smallR, hsm'⟩
  obtain ⟨a, b, c⟩ := hvn' k hk
  exact ⟨a, b, hN k c⟩
theorem JX.heads_at (h : JX w base s q hv hs) : Row w base 3 1 hv hs.length (i64s hs) ∧ ∀ x ∈ hs, x ≤ 65535 := by
  obtain ⟨p, r, h1, _⟩ := h
  exact ⟨h1.heads, h1.hsm⟩
/-- A head more. -/
theorem JX.push_head (h : JX w base s q hv hs) {x : Nat} (hx : x ≤ 65535) {v' : Value} {w1 : World} (hr : Row w1 base 3 1 v' (hs.length + 1) (i64s hs ++ [.int .i64 x])) (hg : w.grownBy w1 hv.ownBlock) (hat : v'.ownBlock = hv.ownBlock ∨ v'.ownBlock = some w.heap.size) :
    Whole w1 (s 0) 138 (halCells s hv) ∧ JX (w1.setCell ⟨s 0, 6, none⟩ v') base s q v' (hs ++ [x]) ∧ Below base w (w1.setCell ⟨s 0, 6, none⟩ v') := by
  obtain ⟨p, r, h1, h2⟩ := h
  have hl0 := left_of_grown hg
  have h0 := h1.old 0 (by omega)
  have hl : Left (s 0 :: Value.ownL hv) w (w1.setCell ⟨s 0, 6, none⟩ v') := (hl0.mono (fun k hk => List.mem_cons_of_mem _ hk)).setCell (Or.inl (by simp)) _
  have hv' : ∀ k, v'.ownBlock = some k → (∀ i, i < 18 → k ≠ s i) ∧ k ∉ r.F ∧ NoRow w (s 3) k := by
    intro k hk
    rcases hat with e | e
    · exact h1.hvn k (e ▸ hk)
    · rw [e] at hk
      injection hk with hk
      subst hk
      exact ⟨fun i hi e => by have := (h1.old i hi).2; omega, fun hm => by have := (h1.fn _ hm).1; omega, h1.bel.row _ (Nat.le_refl _)⟩
  have hn0 : s 0 ∉ Value.ownL hv := fun hm => (h1.hvn _ (mem_ownL.1 hm)).1 0 (by omega) rfl
  refine ⟨h1.hal.left hl0 hn0, ⟨p, r, h1.heads_ hl (fun k hk => ?_) ?_ ?_ hv' (fun y hy => ?_), h2⟩, hl.belowB (by omega) (fun k hk => ?_)⟩
  · rcases List.mem_cons.1 hk with rfl | hk
    · exact ⟨fun i h1' hi e => by have := (h1.inj 0 i (by omega) hi).1 e; omega, fun hm => (h1.fn _ hm).2 0 (by omega) rfl, h1.nor 0 (by omega)⟩
    · obtain ⟨a, b, c⟩ := h1.hvn k (mem_ownL.1 hk)
      exact ⟨fun i _ hi => a i hi, b, c⟩
  · have := (h1.hal.left hl0 hn0).put 6 v'
    exact this
  · have hn : (hs ++ [x]).length = hs.length + 1 := by simp
    rw [hn, show i64s (hs ++ [x]) = i64s hs ++ [.int .i64 x] by simp [i64s]]
    exact hr.left ((Left.refl [s 0] w1).setCell (Or.inl (by simp)) _) (fun k hk e => by
      simp only [List.mem_singleton] at hk
      exact (hv' k e).1 0 (by omega) hk)
  · rcases List.mem_append.1 hy with hy | hy
    · exact h1.hsm y hy
    · simp at hy; omega
  · rcases List.mem_cons.1 hk with rfl | hk
    · exact h0.1
    · exact (h1.hv_lt (mem_ownL.1 hk)).1
end

set_option maxRecDepth 20000 in
set_option maxHeartbeats 2000000 in
theorem does_pop (w : World) (base : Nat) (s : Nat → Nat) (q : Nat) (hv : Value) (hs : List Nat) (dk n at_ : Int) (lv : Value) (v : Nat) (h : JX w base s q hv hs) (hlen : hs.length ≤ 100) (kind : Int) (hk : kind = 6 ∨ kind = 7 ∨ kind = 8) :
    Calls Try.prog 48 #[.pointer (some ⟨s 0, 0, none⟩), actV dk n at_ lv v, .int .i64 kind] w (DoesH base s q hs w) := by
  unfold actV
  have hb0 := h.base_le
  have hb1 : Below base w (w.alloc (.cells #[.int .i64 dk, .int .i64 n, .int .i64 at_, lv, .int .u64 v] 77)) := (Below.refl _ _).alloc hb0 _
  have hJ1 : JX (w.alloc (.cells #[.int .i64 dk, .int .i64 n, .int .i64 at_, lv, .int .u64 v] 77)) base s q hv hs := h.left0 ((Left.refl _ _).alloc _)
  obtain ⟨hW, hlt, _, hnp, hnq⟩ := h.hal
  have c0 : w.cell? ⟨s 0, 0, none⟩ = some (.pointer (some ⟨s 6, 0, none⟩)) := by rw [hW.cell]; rfl
  have c1 : w.cell? ⟨s 0, 1, none⟩ = some (.pointer (some ⟨s 1, 0, none⟩)) := by rw [hW.cell]; rfl
  have c2 : w.cell? ⟨s 0, 2, none⟩ = some (.pointer (some ⟨s 5, 0, none⟩)) := by rw [hW.cell]; rfl
  have c3 : w.cell? ⟨s 0, 3, none⟩ = some (.pointer (some ⟨s 8, 0, none⟩)) := by rw [hW.cell]; rfl
  have c4 : w.cell? ⟨s 0, 4, none⟩ = some (.pointer (some ⟨s 10, 0, none⟩)) := by rw [hW.cell]; rfl
  have c5 : w.cell? ⟨s 0, 5, none⟩ = some (.pointer (some ⟨s 14, 0, none⟩)) := by rw [hW.cell]; rfl
  have c6 : w.cell? ⟨s 0, 6, none⟩ = some hv := by rw [hW.cell]; rfl
  obtain ⟨x, ok, er, l, M, hx5, hl16, hc1, hc2⟩ := hJ1.pop
  have HLT : Hid (∀ j, j < 18 → s j < (w.alloc (.cells #[.int .i64 dk, .int .i64 n, .int .i64 at_, lv, .int .u64 v] 77)).heap.size) := Lib.hid (fun j hj => by obtain ⟨p, r, hJ, _⟩ := hJ1; exact (hJ.old j hj).2)
  have hform := hJ1.heads_at.1.form
  have HJ1 := Lib.hid hJ1
  have HB1 := Lib.hid hb1
  have HC1 := Lib.hid hc1
  have HC2 := Lib.hid hc2
  have HW := Lib.hid hW
  have HNP := Lib.hid hnp
  clear h hb1 hJ1 hW hc1 hc2
  obtain ⟨hao, hcap, rfl, hhc, hhm⟩ := hform
  clear hhm
  cases ok
  · rcases hk with rfl | rfl | rfl
    · go_enter Try.func48, Try.ntmps48
      go_wp2_with fail
      refine HC1.out.mono ?_
      rintro e w1 ⟨lv1, rfl, hown1, hM, hl1⟩
      have d5 : w1.cell? ⟨s 0, 5, none⟩ = some (.pointer (some ⟨s 14, 0, none⟩)) := by rw [((HW.out.alloc _).left hl1 HNP.out).cell]; rfl
      have HM := Lib.hid hM
      have HO1 := Lib.hid hown1
      have HB2 := Lib.hid (HB1.out.trans (HJ1.out.belowP hl1))
      have hz1 := hl1.size
      have hz1b : (w.alloc (.cells #[.int .i64 dk, .int .i64 n, .int .i64 at_, lv, .int .u64 v] 77)).heap.size = w.heap.size + 1 := by simp
      clear hM hl1 hown1 c0 c1 c2 c3 c4 c5 c6
      go_wp2_with fail
      refine (HC2.out w1 HM.out).mono ?_
      rintro e w2 ⟨lv2, rfl, hown2, hJ2, hl2⟩
      have HJ2 := Lib.hid hJ2
      have HB3 := Lib.hid (HB2.out.trans (HJ1.out.belowQ (by omega) hl2))
      have hz2 := hl2.size
      have HO1' := Lib.hid (own_left HO1.out hl2 (fun k hk => by obtain ⟨j, _, h2, rfl⟩ := QL_mem hk; exact HLT.out j h2))
      have HO2 := Lib.hid hown2
      clear hl2 d5 hown2 hJ2
      go_wp2_with (first | (go_at_call 16; refine (num2_any _ _).mono ?_; rintro e w' ⟨rfl, rfl⟩) | fail)
      have hE := EqBufs_any w2 lv1 lv2 l l _ _ (Rd.of_own HO1'.out) (Rd.of_own HO2.out) rfl
      refine hE.mono ?_
      rintro e w3 ⟨rfl, hl3⟩
      clear hE
      have HJ3 := Lib.hid (HJ2.out.left0 hl3)
      have HB4 := Lib.hid (HB3.out.trans (hl3.belowB (by omega) (by simp)))
      have HO3 := Lib.hid (own_left HO1'.out hl3 (by simp))
      have hz3 := hl3.size
      clear hl3
      go_wp2_with fail
      refine (Bufs0_any w3 _ lv1 _ _ HO3.out (by omega)).mono ?_
      rintro e w4 ⟨rfl, hb4⟩
      have HJ4 := Lib.hid (HJ3.out.below hb4)
      have HB5 := Lib.hid (HB4.out.trans (hb4.mono (by omega)))
      have hz4 := hb4.size
      have hW4 := HJ4.out.hal.1
      have e1 : w4.cell? ⟨s 0, 1, none⟩ = some (.pointer (some ⟨s 1, 0, none⟩)) := by rw [hW4.cell]; rfl
      have e4 : w4.cell? ⟨s 0, 4, none⟩ = some (.pointer (some ⟨s 10, 0, none⟩)) := by rw [hW4.cell]; rfl
      have e6 : w4.cell? ⟨s 0, 6, none⟩ = some (.slice hao hs.length hcap) := by rw [hW4.cell]; rfl
      have f6 := hW4.free 6
      have HW4 := Lib.hid hW4
      clear hb4 hW4
      obtain ⟨fn, hf1, hf2⟩ := HJ4.out.free
      have HF1 := Lib.hid hf1
      have HF2 := Lib.hid hf2
      clear hf1 hf2
      go_wp2_with fail
      go_quiet ((first | (go_at_call 39; exact Calls.quiet_of_same (HF1.out _)) | (go_at_call 81; exact Calls.quiet_of_same (HF2.out _))))
      go_wp2
      go_ret
      exact ⟨rfl, ⟨_, _, HJ4.out.left0 ((Left.refl _ _).drewN _), by omega⟩, below_drewN HB5.out _⟩
    · go_enter Try.func48, Try.ntmps48
      go_wp2_with fail
      refine HC1.out.mono ?_
      rintro e w1 ⟨lv1, rfl, hown1, hM, hl1⟩
      have d5 : w1.cell? ⟨s 0, 5, none⟩ = some (.pointer (some ⟨s 14, 0, none⟩)) := by rw [((HW.out.alloc _).left hl1 HNP.out).cell]; rfl
      have HM := Lib.hid hM
      have HO1 := Lib.hid hown1
      have HB2 := Lib.hid (HB1.out.trans (HJ1.out.belowP hl1))
      have hz1 := hl1.size
      have hz1b : (w.alloc (.cells #[.int .i64 dk, .int .i64 n, .int .i64 at_, lv, .int .u64 v] 77)).heap.size = w.heap.size + 1 := by simp
      clear hM hl1 hown1 c0 c1 c2 c3 c4 c5 c6
      go_wp2_with fail
      refine (HC2.out w1 HM.out).mono ?_
      rintro e w2 ⟨lv2, rfl, hown2, hJ2, hl2⟩
      have HJ2 := Lib.hid hJ2
      have HB3 := Lib.hid (HB2.out.trans (HJ1.out.belowQ (by omega) hl2))
      have hz2 := hl2.size
      have HO1' := Lib.hid (own_left HO1.out hl2 (fun k hk => by obtain ⟨j, _, h2, rfl⟩ := QL_mem hk; exact HLT.out j h2))
      have HO2 := Lib.hid hown2
      clear hl2 d5 hown2 hJ2
      go_wp2_with (first | (go_at_call 16; refine (num2_any _ _).mono ?_; rintro e w' ⟨rfl, rfl⟩) | fail)
      have hE := EqBufs_any w2 lv1 lv2 l l _ _ (Rd.of_own HO1'.out) (Rd.of_own HO2.out) rfl
      refine hE.mono ?_
      rintro e w3 ⟨rfl, hl3⟩
      clear hE
      have HJ3 := Lib.hid (HJ2.out.left0 hl3)
      have HB4 := Lib.hid (HB3.out.trans (hl3.belowB (by omega) (by simp)))
      have HO3 := Lib.hid (own_left HO1'.out hl3 (by simp))
      have hz3 := hl3.size
      clear hl3
      go_wp2_with fail
      refine (Bufs0_any w3 _ lv1 _ _ HO3.out (by omega)).mono ?_
      rintro e w4 ⟨rfl, hb4⟩
      have HJ4 := Lib.hid (HJ3.out.below hb4)
      have HB5 := Lib.hid (HB4.out.trans (hb4.mono (by omega)))
      have hz4 := hb4.size
      have hW4 := HJ4.out.hal.1
      have e1 : w4.cell? ⟨s 0, 1, none⟩ = some (.pointer (some ⟨s 1, 0, none⟩)) := by rw [hW4.cell]; rfl
      have e4 : w4.cell? ⟨s 0, 4, none⟩ = some (.pointer (some ⟨s 10, 0, none⟩)) := by rw [hW4.cell]; rfl
      have e6 : w4.cell? ⟨s 0, 6, none⟩ = some (.slice hao hs.length hcap) := by rw [hW4.cell]; rfl
      have f6 := hW4.free 6
      have HW4 := Lib.hid hW4
      clear hb4 hW4
      obtain ⟨fn, hf1, hf2⟩ := HJ4.out.free
      have HF1 := Lib.hid hf1
      have HF2 := Lib.hid hf2
      clear hf1 hf2
      go_wp2_with fail
      go_quiet ((first | (go_at_call 39; exact Calls.quiet_of_same (HF1.out _)) | (go_at_call 81; exact Calls.quiet_of_same (HF2.out _))))
      go_wp2
      go_ret
      exact ⟨rfl, ⟨_, _, HJ4.out.left0 ((Left.refl _ _).drewN _), by omega⟩, below_drewN HB5.out _⟩
    · go_enter Try.func48, Try.ntmps48
      go_wp2_with fail
      refine HC1.out.mono ?_
      rintro e w1 ⟨lv1, rfl, hown1, hM, hl1⟩
      have d5 : w1.cell? ⟨s 0, 5, none⟩ = some (.pointer (some ⟨s 14, 0, none⟩)) := by rw [((HW.out.alloc _).left hl1 HNP.out).cell]; rfl
      have HM := Lib.hid hM
      have HO1 := Lib.hid hown1
      have HB2 := Lib.hid (HB1.out.trans (HJ1.out.belowP hl1))
      have hz1 := hl1.size
      have hz1b : (w.alloc (.cells #[.int .i64 dk, .int .i64 n, .int .i64 at_, lv, .int .u64 v] 77)).heap.size = w.heap.size + 1 := by simp
      clear hM hl1 hown1 c0 c1 c2 c3 c4 c5 c6
      go_wp2_with fail
      refine (HC2.out w1 HM.out).mono ?_
      rintro e w2 ⟨lv2, rfl, hown2, hJ2, hl2⟩
      have HJ2 := Lib.hid hJ2
      have HB3 := Lib.hid (HB2.out.trans (HJ1.out.belowQ (by omega) hl2))
      have hz2 := hl2.size
      have HO1' := Lib.hid (own_left HO1.out hl2 (fun k hk => by obtain ⟨j, _, h2, rfl⟩ := QL_mem hk; exact HLT.out j h2))
      have HO2 := Lib.hid hown2
      clear hl2 d5 hown2 hJ2
      go_wp2_with (first | (go_at_call 16; refine (num2_any _ _).mono ?_; rintro e w' ⟨rfl, rfl⟩) | fail)
      have hE := EqBufs_any w2 lv1 lv2 l l _ _ (Rd.of_own HO1'.out) (Rd.of_own HO2.out) rfl
      refine hE.mono ?_
      rintro e w3 ⟨rfl, hl3⟩
      clear hE
      have HJ3 := Lib.hid (HJ2.out.left0 hl3)
      have HB4 := Lib.hid (HB3.out.trans (hl3.belowB (by omega) (by simp)))
      have HO3 := Lib.hid (own_left HO1'.out hl3 (by simp))
      have hz3 := hl3.size
      clear hl3
      go_wp2_with fail
      refine (Bufs0_any w3 _ lv1 _ _ HO3.out (by omega)).mono ?_
      rintro e w4 ⟨rfl, hb4⟩
      have HJ4 := Lib.hid (HJ3.out.below hb4)
      have HB5 := Lib.hid (HB4.out.trans (hb4.mono (by omega)))
      have hz4 := hb4.size
      have hW4 := HJ4.out.hal.1
      have e1 : w4.cell? ⟨s 0, 1, none⟩ = some (.pointer (some ⟨s 1, 0, none⟩)) := by rw [hW4.cell]; rfl
      have e4 : w4.cell? ⟨s 0, 4, none⟩ = some (.pointer (some ⟨s 10, 0, none⟩)) := by rw [hW4.cell]; rfl
      have e6 : w4.cell? ⟨s 0, 6, none⟩ = some (.slice hao hs.length hcap) := by rw [hW4.cell]; rfl
      have f6 := hW4.free 6
      have HW4 := Lib.hid hW4
      clear hb4 hW4
      obtain ⟨fn, hf1, hf2⟩ := HJ4.out.free
      have HF1 := Lib.hid hf1
      have HF2 := Lib.hid hf2
      clear hf1 hf2
      go_wp2_with fail
      go_quiet ((first | (go_at_call 39; exact Calls.quiet_of_same (HF1.out _)) | (go_at_call 81; exact Calls.quiet_of_same (HF2.out _))))
      go_wp2
      go_ret
      exact ⟨rfl, ⟨_, _, HJ4.out.left0 ((Left.refl _ _).drewN _), by omega⟩, below_drewN HB5.out _⟩
  · rcases hk with rfl | rfl | rfl
    · go_enter Try.func48, Try.ntmps48
      go_wp2_with fail
      refine HC1.out.mono ?_
      rintro e w1 ⟨lv1, rfl, hown1, hM, hl1⟩
      have d5 : w1.cell? ⟨s 0, 5, none⟩ = some (.pointer (some ⟨s 14, 0, none⟩)) := by rw [((HW.out.alloc _).left hl1 HNP.out).cell]; rfl
      have HM := Lib.hid hM
      have HO1 := Lib.hid hown1
      have HB2 := Lib.hid (HB1.out.trans (HJ1.out.belowP hl1))
      have hz1 := hl1.size
      have hz1b : (w.alloc (.cells #[.int .i64 dk, .int .i64 n, .int .i64 at_, lv, .int .u64 v] 77)).heap.size = w.heap.size + 1 := by simp
      clear hM hl1 hown1 c0 c1 c2 c3 c4 c5 c6
      go_wp2_with fail
      refine (HC2.out w1 HM.out).mono ?_
      rintro e w2 ⟨lv2, rfl, hown2, hJ2, hl2⟩
      have HJ2 := Lib.hid hJ2
      have HB3 := Lib.hid (HB2.out.trans (HJ1.out.belowQ (by omega) hl2))
      have hz2 := hl2.size
      have HO1' := Lib.hid (own_left HO1.out hl2 (fun k hk => by obtain ⟨j, _, h2, rfl⟩ := QL_mem hk; exact HLT.out j h2))
      have HO2 := Lib.hid hown2
      clear hl2 d5 hown2 hJ2
      go_wp2_with (first | (go_at_call 16; refine (num2_any _ _).mono ?_; rintro e w' ⟨rfl, rfl⟩) | fail)
      have hE := EqBufs_any w2 lv1 lv2 l l _ _ (Rd.of_own HO1'.out) (Rd.of_own HO2.out) rfl
      refine hE.mono ?_
      rintro e w3 ⟨rfl, hl3⟩
      clear hE
      have HJ3 := Lib.hid (HJ2.out.left0 hl3)
      have HB4 := Lib.hid (HB3.out.trans (hl3.belowB (by omega) (by simp)))
      have HO3 := Lib.hid (own_left HO1'.out hl3 (by simp))
      have hz3 := hl3.size
      clear hl3
      go_wp2_with fail
      refine (Bufs0_any w3 _ lv1 _ _ HO3.out (by omega)).mono ?_
      rintro e w4 ⟨rfl, hb4⟩
      have HJ4 := Lib.hid (HJ3.out.below hb4)
      have HB5 := Lib.hid (HB4.out.trans (hb4.mono (by omega)))
      have hz4 := hb4.size
      have hW4 := HJ4.out.hal.1
      have e1 : w4.cell? ⟨s 0, 1, none⟩ = some (.pointer (some ⟨s 1, 0, none⟩)) := by rw [hW4.cell]; rfl
      have e4 : w4.cell? ⟨s 0, 4, none⟩ = some (.pointer (some ⟨s 10, 0, none⟩)) := by rw [hW4.cell]; rfl
      have e6 : w4.cell? ⟨s 0, 6, none⟩ = some (.slice hao hs.length hcap) := by rw [hW4.cell]; rfl
      have f6 := hW4.free 6
      have HW4 := Lib.hid hW4
      clear hb4 hW4
      have hJ5 := HJ4.out.left0 ((Left.refl _ _).alloc (.cells #[.int .i64 (x : Int)] 3))
      have hb6 := hJ5.base_le
      have HROW := Lib.hid hJ5.heads_at.1
      have HJ5 := Lib.hid hJ5
      clear hJ5
      go_wp2_with (at_builtin; refine wpList_row _ rfl (.tmp 163) (.tmp 165) _ rfl base 3 (.int .i64 0) 1 8 Try.underlying22 info_int rfl (by omega) _ hs.length (i64s hs) rfl HROW.out ⟨w4.heap.size, 0, none⟩ 1 1 [.int .i64 (x : Int)] rfl rfl (cell_one_new _ _ _) (by simp [Value.oneCell']) ?_ ?_ ?_ ?_)
      · unfold maxLen; omega
      · omega
      · exact hb6
      intro v1 w5 hrow hg hat
      obtain ⟨hW5, hJ6, hb7⟩ := HJ5.out.push_head hx5 hrow hg (by simpa using hat)
      obtain ⟨ao1, ac1, rfl, hac1, hac2⟩ := hrow.form
      have g6 : w5.cell? ⟨s 0, 6, none⟩ = some (.slice hao hs.length hcap) := by rw [hW5.cell]; rfl
      have g6f := hW5.free 6
      have HJ6 := Lib.hid hJ6
      have HB6 := Lib.hid (HB5.out.trans (((Below.refl _ _).alloc (by have := HB5.out.size; omega) (.cells #[.int .i64 (x : Int)] 3)).trans hb7))
      clear hW5 hJ6 hb7 hrow hg hat hac1 hac2 e1 e4 e6 f6
      go_upto_region 36 with fail
      obtain ⟨w6, hw6⟩ : ∃ u, u = w5.setCell ⟨s 0, 6, none⟩ (.slice ao1 (hs.length + 1) ac1) := ⟨_, rfl⟩
      rw [← hw6]
      have HJ7 : Hid (JX w6 base s q (.slice ao1 (hs.length + 1) ac1) (hs ++ [x])) := Lib.hid (hw6 ▸ HJ6.out)
      have HB7 : Hid (Below base w w6) := Lib.hid (hw6 ▸ HB6.out)
      have hW7 := HJ7.out.hal.1
      have e1 : w6.cell? ⟨s 0, 1, none⟩ = some (.pointer (some ⟨s 1, 0, none⟩)) := by rw [hW7.cell]; rfl
      have e4 : w6.cell? ⟨s 0, 4, none⟩ = some (.pointer (some ⟨s 10, 0, none⟩)) := by rw [hW7.cell]; rfl
      clear hw6 HJ6 HB6 hW7 g6 g6f
      obtain ⟨fn, hf1, hf2⟩ := HJ7.out.free
      have HF1 := Lib.hid hf1
      have HF2 := Lib.hid hf2
      clear hf1 hf2
      go_wp2_with fail
      go_quiet ((first | (go_at_call 39; exact Calls.quiet_of_same (HF1.out _)) | (go_at_call 81; exact Calls.quiet_of_same (HF2.out _))))
      go_wp2
      go_ret
      exact ⟨rfl, ⟨_, _, HJ7.out.left0 ((Left.refl _ _).drewN _), by simp⟩, below_drewN HB7.out _⟩
    · go_enter Try.func48, Try.ntmps48
      go_wp2_with fail
      refine HC1.out.mono ?_
      rintro e w1 ⟨lv1, rfl, hown1, hM, hl1⟩
      have d5 : w1.cell? ⟨s 0, 5, none⟩ = some (.pointer (some ⟨s 14, 0, none⟩)) := by rw [((HW.out.alloc _).left hl1 HNP.out).cell]; rfl
      have HM := Lib.hid hM
      have HO1 := Lib.hid hown1
      have HB2 := Lib.hid (HB1.out.trans (HJ1.out.belowP hl1))
      have hz1 := hl1.size
      have hz1b : (w.alloc (.cells #[.int .i64 dk, .int .i64 n, .int .i64 at_, lv, .int .u64 v] 77)).heap.size = w.heap.size + 1 := by simp
      clear hM hl1 hown1 c0 c1 c2 c3 c4 c5 c6
      go_wp2_with fail
      refine (HC2.out w1 HM.out).mono ?_
      rintro e w2 ⟨lv2, rfl, hown2, hJ2, hl2⟩
      have HJ2 := Lib.hid hJ2
      have HB3 := Lib.hid (HB2.out.trans (HJ1.out.belowQ (by omega) hl2))
      have hz2 := hl2.size
      have HO1' := Lib.hid (own_left HO1.out hl2 (fun k hk => by obtain ⟨j, _, h2, rfl⟩ := QL_mem hk; exact HLT.out j h2))
      have HO2 := Lib.hid hown2
      clear hl2 d5 hown2 hJ2
      go_wp2_with (first | (go_at_call 16; refine (num2_any _ _).mono ?_; rintro e w' ⟨rfl, rfl⟩) | fail)
      have hE := EqBufs_any w2 lv1 lv2 l l _ _ (Rd.of_own HO1'.out) (Rd.of_own HO2.out) rfl
      refine hE.mono ?_
      rintro e w3 ⟨rfl, hl3⟩
      clear hE
      have HJ3 := Lib.hid (HJ2.out.left0 hl3)
      have HB4 := Lib.hid (HB3.out.trans (hl3.belowB (by omega) (by simp)))
      have HO3 := Lib.hid (own_left HO1'.out hl3 (by simp))
      have hz3 := hl3.size
      clear hl3
      go_wp2_with fail
      refine (Bufs0_any w3 _ lv1 _ _ HO3.out (by omega)).mono ?_
      rintro e w4 ⟨rfl, hb4⟩
      have HJ4 := Lib.hid (HJ3.out.below hb4)
      have HB5 := Lib.hid (HB4.out.trans (hb4.mono (by omega)))
      have hz4 := hb4.size
      have hW4 := HJ4.out.hal.1
      have e1 : w4.cell? ⟨s 0, 1, none⟩ = some (.pointer (some ⟨s 1, 0, none⟩)) := by rw [hW4.cell]; rfl
      have e4 : w4.cell? ⟨s 0, 4, none⟩ = some (.pointer (some ⟨s 10, 0, none⟩)) := by rw [hW4.cell]; rfl
      have e6 : w4.cell? ⟨s 0, 6, none⟩ = some (.slice hao hs.length hcap) := by rw [hW4.cell]; rfl
      have f6 := hW4.free 6
      have HW4 := Lib.hid hW4
      clear hb4 hW4
      have hJ5 := HJ4.out.left0 ((Left.refl _ _).alloc (.cells #[.int .i64 (x : Int)] 3))
      have hb6 := hJ5.base_le
      have HROW := Lib.hid hJ5.heads_at.1
      have HJ5 := Lib.hid hJ5
      clear hJ5
      go_wp2_with (at_builtin; refine wpList_row _ rfl (.tmp 163) (.tmp 165) _ rfl base 3 (.int .i64 0) 1 8 Try.underlying22 info_int rfl (by omega) _ hs.length (i64s hs) rfl HROW.out ⟨w4.heap.size, 0, none⟩ 1 1 [.int .i64 (x : Int)] rfl rfl (cell_one_new _ _ _) (by simp [Value.oneCell']) ?_ ?_ ?_ ?_)
      · unfold maxLen; omega
      · omega
      · exact hb6
      intro v1 w5 hrow hg hat
      obtain ⟨hW5, hJ6, hb7⟩ := HJ5.out.push_head hx5 hrow hg (by simpa using hat)
      obtain ⟨ao1, ac1, rfl, hac1, hac2⟩ := hrow.form
      have g6 : w5.cell? ⟨s 0, 6, none⟩ = some (.slice hao hs.length hcap) := by rw [hW5.cell]; rfl
      have g6f := hW5.free 6
      have HJ6 := Lib.hid hJ6
      have HB6 := Lib.hid (HB5.out.trans (((Below.refl _ _).alloc (by have := HB5.out.size; omega) (.cells #[.int .i64 (x : Int)] 3)).trans hb7))
      clear hW5 hJ6 hb7 hrow hg hat hac1 hac2 e1 e4 e6 f6
      go_upto_region 36 with fail
      obtain ⟨w6, hw6⟩ : ∃ u, u = w5.setCell ⟨s 0, 6, none⟩ (.slice ao1 (hs.length + 1) ac1) := ⟨_, rfl⟩
      rw [← hw6]
      have HJ7 : Hid (JX w6 base s q (.slice ao1 (hs.length + 1) ac1) (hs ++ [x])) := Lib.hid (hw6 ▸ HJ6.out)
      have HB7 : Hid (Below base w w6) := Lib.hid (hw6 ▸ HB6.out)
      have hW7 := HJ7.out.hal.1
      have e1 : w6.cell? ⟨s 0, 1, none⟩ = some (.pointer (some ⟨s 1, 0, none⟩)) := by rw [hW7.cell]; rfl
      have e4 : w6.cell? ⟨s 0, 4, none⟩ = some (.pointer (some ⟨s 10, 0, none⟩)) := by rw [hW7.cell]; rfl
      clear hw6 HJ6 HB6 hW7 g6 g6f
      obtain ⟨fn, hf1, hf2⟩ := HJ7.out.free
      have HF1 := Lib.hid hf1
      have HF2 := Lib.hid hf2
      clear hf1 hf2
      go_wp2_with fail
      go_quiet ((first | (go_at_call 39; exact Calls.quiet_of_same (HF1.out _)) | (go_at_call 81; exact Calls.quiet_of_same (HF2.out _))))
      go_wp2
      go_ret
      exact ⟨rfl, ⟨_, _, HJ7.out.left0 ((Left.refl _ _).drewN _), by simp⟩, below_drewN HB7.out _⟩
    · go_enter Try.func48, Try.ntmps48
      go_wp2_with fail
      refine HC1.out.mono ?_
      rintro e w1 ⟨lv1, rfl, hown1, hM, hl1⟩
      have d5 : w1.cell? ⟨s 0, 5, none⟩ = some (.pointer (some ⟨s 14, 0, none⟩)) := by rw [((HW.out.alloc _).left hl1 HNP.out).cell]; rfl
      have HM := Lib.hid hM
      have HO1 := Lib.hid hown1
      have HB2 := Lib.hid (HB1.out.trans (HJ1.out.belowP hl1))
      have hz1 := hl1.size
      have hz1b : (w.alloc (.cells #[.int .i64 dk, .int .i64 n, .int .i64 at_, lv, .int .u64 v] 77)).heap.size = w.heap.size + 1 := by simp
      clear hM hl1 hown1 c0 c1 c2 c3 c4 c5 c6
      go_wp2_with fail
      refine (HC2.out w1 HM.out).mono ?_
      rintro e w2 ⟨lv2, rfl, hown2, hJ2, hl2⟩
      have HJ2 := Lib.hid hJ2
      have HB3 := Lib.hid (HB2.out.trans (HJ1.out.belowQ (by omega) hl2))
      have hz2 := hl2.size
      have HO1' := Lib.hid (own_left HO1.out hl2 (fun k hk => by obtain ⟨j, _, h2, rfl⟩ := QL_mem hk; exact HLT.out j h2))
      have HO2 := Lib.hid hown2
      clear hl2 d5 hown2 hJ2
      go_wp2_with (first | (go_at_call 16; refine (num2_any _ _).mono ?_; rintro e w' ⟨rfl, rfl⟩) | fail)
      have hE := EqBufs_any w2 lv1 lv2 l l _ _ (Rd.of_own HO1'.out) (Rd.of_own HO2.out) rfl
      refine hE.mono ?_
      rintro e w3 ⟨rfl, hl3⟩
      clear hE
      have HJ3 := Lib.hid (HJ2.out.left0 hl3)
      have HB4 := Lib.hid (HB3.out.trans (hl3.belowB (by omega) (by simp)))
      have HO3 := Lib.hid (own_left HO1'.out hl3 (by simp))
      have hz3 := hl3.size
      clear hl3
      go_wp2_with fail
      refine (Bufs0_any w3 _ lv1 _ _ HO3.out (by omega)).mono ?_
      rintro e w4 ⟨rfl, hb4⟩
      have HJ4 := Lib.hid (HJ3.out.below hb4)
      have HB5 := Lib.hid (HB4.out.trans (hb4.mono (by omega)))
      have hz4 := hb4.size
      have hW4 := HJ4.out.hal.1
      have e1 : w4.cell? ⟨s 0, 1, none⟩ = some (.pointer (some ⟨s 1, 0, none⟩)) := by rw [hW4.cell]; rfl
      have e4 : w4.cell? ⟨s 0, 4, none⟩ = some (.pointer (some ⟨s 10, 0, none⟩)) := by rw [hW4.cell]; rfl
      have e6 : w4.cell? ⟨s 0, 6, none⟩ = some (.slice hao hs.length hcap) := by rw [hW4.cell]; rfl
      have f6 := hW4.free 6
      have HW4 := Lib.hid hW4
      clear hb4 hW4
      have hJ5 := HJ4.out.left0 ((Left.refl _ _).alloc (.cells #[.int .i64 (x : Int)] 3))
      have hb6 := hJ5.base_le
      have HROW := Lib.hid hJ5.heads_at.1
      have HJ5 := Lib.hid hJ5
      clear hJ5
      go_wp2_with (at_builtin; refine wpList_row _ rfl (.tmp 163) (.tmp 165) _ rfl base 3 (.int .i64 0) 1 8 Try.underlying22 info_int rfl (by omega) _ hs.length (i64s hs) rfl HROW.out ⟨w4.heap.size, 0, none⟩ 1 1 [.int .i64 (x : Int)] rfl rfl (cell_one_new _ _ _) (by simp [Value.oneCell']) ?_ ?_ ?_ ?_)
      · unfold maxLen; omega
      · omega
      · exact hb6
      intro v1 w5 hrow hg hat
      obtain ⟨hW5, hJ6, hb7⟩ := HJ5.out.push_head hx5 hrow hg (by simpa using hat)
      obtain ⟨ao1, ac1, rfl, hac1, hac2⟩ := hrow.form
      have g6 : w5.cell? ⟨s 0, 6, none⟩ = some (.slice hao hs.length hcap) := by rw [hW5.cell]; rfl
      have g6f := hW5.free 6
      have HJ6 := Lib.hid hJ6
      have HB6 := Lib.hid (HB5.out.trans (((Below.refl _ _).alloc (by have := HB5.out.size; omega) (.cells #[.int .i64 (x : Int)] 3)).trans hb7))
      clear hW5 hJ6 hb7 hrow hg hat hac1 hac2 e1 e4 e6 f6
      go_upto_region 36 with fail
      obtain ⟨w6, hw6⟩ : ∃ u, u = w5.setCell ⟨s 0, 6, none⟩ (.slice ao1 (hs.length + 1) ac1) := ⟨_, rfl⟩
      rw [← hw6]
      have HJ7 : Hid (JX w6 base s q (.slice ao1 (hs.length + 1) ac1) (hs ++ [x])) := Lib.hid (hw6 ▸ HJ6.out)
      have HB7 : Hid (Below base w w6) := Lib.hid (hw6 ▸ HB6.out)
      have hW7 := HJ7.out.hal.1
      have e1 : w6.cell? ⟨s 0, 1, none⟩ = some (.pointer (some ⟨s 1, 0, none⟩)) := by rw [hW7.cell]; rfl
      have e4 : w6.cell? ⟨s 0, 4, none⟩ = some (.pointer (some ⟨s 10, 0, none⟩)) := by rw [hW7.cell]; rfl
      clear hw6 HJ6 HB6 hW7 g6 g6f
      obtain ⟨fn, hf1, hf2⟩ := HJ7.out.free
      have HF1 := Lib.hid hf1
      have HF2 := Lib.hid hf2
      clear hf1 hf2
      go_wp2_with fail
      go_quiet ((first | (go_at_call 39; exact Calls.quiet_of_same (HF1.out _)) | (go_at_call 81; exact Calls.quiet_of_same (HF2.out _))))
      go_wp2
      go_ret
      exact ⟨rfl, ⟨_, _, HJ7.out.left0 ((Left.refl _ _).drewN _), by simp⟩, below_drewN HB7.out _⟩
end Go.Proofs.Ytfffehbipcikoaa
