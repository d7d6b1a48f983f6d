/- The page's own: a session may be: of any. -/


import Derived.Test.YtknnaeejkmlnbaaGreatDoorGh
import Derived.Test.YtknnaeejkmlnbaaGreatDoorRcMay2
import Derived.Test.YtknnaeejkmlnbaaGreatDoorSbRef
namespace Go.Proofs.YtknnaeejkmlnbaaGreatDoor
open Go.RowKit Go.Shelf Go.Proofs
theorem ids_parts {I : List Int} : idsOk I ↔ I.length ≤ 16 ∧ riseOk I ∧ betw I 1 65535 := by
  constructor
  · intro h
    refine ⟨h.1, fun k x hx => (h.2 k x hx).2.2, fun x hx => ?_⟩
    obtain ⟨k, hk⟩ := List.getElem?_of_mem hx
    exact ⟨(h.2 k x hk).1, (h.2 k x hk).2.1⟩
  · intro h
    exact ⟨h.1, fun k x hx => ⟨(h.2.2 x (List.mem_of_getElem? hx)).1, (h.2.2 x (List.mem_of_getElem? hx)).2, h.2.1 k x hx⟩⟩
set_option maxRecDepth 20000 in
set_option maxHeartbeats 16000000 in
theorem rses_any (w : World) (r : Rs) (h : SRd w w.heap.size r) (hs : ShS r.s) (hE : Env w) :
    Calls Tryz.prog 24 #[seV r] w fun e w' => e = .returned (.bool (yes (sesOk r.s))) ∧ Below w.heap.size w w' := by
  obtain ⟨B, hB⟩ : ∃ B, B = w.heap.size := ⟨_, rfl⟩
  obtain ⟨wa, hwa⟩ : ∃ wa, wa = w.alloc (.cells (seC r).toArray 61) := ⟨_, rfl⟩
  have hb0 : Below w.heap.size w wa := by rw [hwa]; exact (Below.refl _ _).alloc (Nat.le_refl _) _
  have hW : Whole wa B 61 (seC r) := by rw [hwa, hB]; exact Whole.new w 61 _
  have hE0 := hE.below hb0
  have HCL := Lib.hid (fun wx (hx : Below wa.heap.size wa wx) => ses_whole (hW.belowH hx))
  have HRD : ∀ wx, Below wa.heap.size wa wx → SRd wx wx.heap.size r := fun wx hx => (((h.below hb0).more hb0.size).below hx).more hx.size
  have HSM := Lib.hid (fun wx (hx : Below wa.heap.size wa wx) => rSubs_any wx _ r.s.S (HRD wx hx).s (fun i x hi => hs.s x (List.mem_of_getElem? hi)) (hE0.below hx))
  have HOM := Lib.hid (fun wx (hx : Below wa.heap.size wa wx) => rO_any wx (.agg #[.int .i64 r.s.o.last, .slice r.fa r.s.o.F.length r.fc, .slice r.qa r.s.o.Q.length r.qc]) r.s.o ⟨_, _, rfl, (HRD wx hx).f, (HRD wx hx).q⟩ hs.o)
  have HRI := Lib.hid (fun wx (hx : Below wa.heap.size wa wx) => Rising_any wx _ r.s.I _ (HRD wx hx).i (by have := hs.i; omega))
  have HBT := Lib.hid (fun wx (hx : Below wa.heap.size wa wx) => Between_any wx _ r.s.I 1 65535 _ (HRD wx hx).i)
  have HWM := Lib.hid (fun wx (hx : Below wa.heap.size wa wx) => rWill_any wx r.s.wl (by have := hs.w.1; omega) (by have := hs.w.2; omega) (hE0.below hx))
  have HNM := Lib.hid (fun wx (hx : Below wa.heap.size wa wx) => rName_any wx r.s.wl.t (by have := hs.w.1; omega) (hE0.below hx))
  have HNO : Hid (¬ sesOk r.s → yes (sesOk r.s) = false) := Lib.hid yes_false
  have HYES : Hid (sesOk r.s → yes (sesOk r.s) = true) := Lib.hid yes_true
  have HB0 := Lib.hid hb0
  have HBE := Lib.hid hB
  have HWA : Hid (w.alloc (.cells (seC r).toArray 61) = wa) := Lib.hid hwa.symm
  have hcs := hs.c
  clear h hs hE hb0 hW hE0 HRD hB hwa
  obtain ⟨⟨c, cl, ln, S, ⟨last, F, Q⟩, I, ⟨wi, wt, wp, wq, wr⟩, keep, idle⟩, sa, sc, fa, fc, qa, qc, ia, ic⟩ := r
  unfold seV wlV at *
  simp only [seC] at *
  obtain ⟨x0, x1, x2, x3, x4, x5, x6, x7, x8, x9, x10, x11, x12, x13, x14⟩ := HCL.out _ (Below.refl _ _)
  have hcur := Below.refl wa.heap.size wa
  go_enter Tryz.func24, Tryz.ntmps24
  go_upto_region 1 with fail
  rw [HWA.out, ← HBE.out]
  obtain ⟨R1, hR1⟩ : ∃ R1 : Prop, R1 = ((1 ≤ c.size ∧ c.size ≤ 46) ∧ (0 ≤ ln ∧ ln ≤ 1099511627776) ∧ ¬ (cl = true ∧ ln = 0) ∧ subsB S = true ∧ okO ⟨last, F, Q⟩ ∧ idsOk I ∧ wlOk ⟨wi, wt, wp, wq, wr⟩ ∧ (0 ≤ keep ∧ keep ≤ 65535) ∧ (0 ≤ idle ∧ idle ≤ 1048576)) := ⟨_, rfl⟩
  obtain ⟨z1, hz1⟩ : ∃ z1 : Bool, z1 = !yes R1 := ⟨_, rfl⟩
  have HN1 : Hid (¬ ((1 ≤ c.size ∧ c.size ≤ 46) ∧ (0 ≤ ln ∧ ln ≤ 1099511627776) ∧ ¬ (cl = true ∧ ln = 0) ∧ subsB S = true ∧ okO ⟨last, F, Q⟩ ∧ idsOk I ∧ wlOk ⟨wi, wt, wp, wq, wr⟩ ∧ (0 ≤ keep ∧ keep ≤ 65535) ∧ (0 ≤ idle ∧ idle ≤ 1048576)) → z1 = true) := Lib.hid (fun h => by rw [hz1, yes_false (by rw [hR1]; exact h)]; rfl)
  have HY1 : Hid (((1 ≤ c.size ∧ c.size ≤ 46) ∧ (0 ≤ ln ∧ ln ≤ 1099511627776) ∧ ¬ (cl = true ∧ ln = 0) ∧ subsB S = true ∧ okO ⟨last, F, Q⟩ ∧ idsOk I ∧ wlOk ⟨wi, wt, wp, wq, wr⟩ ∧ (0 ≤ keep ∧ keep ≤ 65535) ∧ (0 ≤ idle ∧ idle ≤ 1048576)) → z1 = false) := Lib.hid (fun h => by rw [hz1, yes_true (by rw [hR1]; exact h)]; rfl)
  have HZ1 := Lib.hid hz1
  have HR1 := Lib.hid hR1
  clear hz1 hR1
  go_cut [75] (fun s wx => s = .bool z1 ∧ Below wa.heap.size wa wx)
  case first =>
    as_aux_lemma =>
      by_cases hc1 : (c.size : Int) < 1
      · have HZ := Lib.hid (HN1.out (fun h => by have := h.1; omega))
        go_wp2_with (first
          | (go_at_call 47; refine (nums_any _ _ _).mono ?_; rintro e w' ⟨rfl, rfl⟩; (try rw [hvb]); (try rw [hvk]); (try rw [hvi]))
          | (go_at_call 48; refine (HSM.out _ hcur).mono ?_; rintro e wz ⟨rfl, hbz⟩; replace hcur := b_tr hcur hbz; clear hbz; clear x0 x1 x2 x3 x4 x5 x6 x7 x8 x9 x10 x11 x12 x13 x14; obtain ⟨x0, x1, x2, x3, x4, x5, x6, x7, x8, x9, x10, x11, x12, x13, x14⟩ := HCL.out _ hcur)
          | (go_at_call 49; refine (HOM.out _ hcur).mono ?_; rintro e wz ⟨rfl, hbz⟩; replace hcur := b_tr hcur hbz; clear hbz; clear x0 x1 x2 x3 x4 x5 x6 x7 x8 x9 x10 x11 x12 x13 x14; obtain ⟨x0, x1, x2, x3, x4, x5, x6, x7, x8, x9, x10, x11, x12, x13, x14⟩ := HCL.out _ hcur)
          | (go_at_call 21; refine (HRI.out _ hcur).mono ?_; rintro e wz ⟨rfl, hbz⟩; replace hcur := b_tr hcur hbz; clear hbz; clear x0 x1 x2 x3 x4 x5 x6 x7 x8 x9 x10 x11 x12 x13 x14; obtain ⟨x0, x1, x2, x3, x4, x5, x6, x7, x8, x9, x10, x11, x12, x13, x14⟩ := HCL.out _ hcur)
          | (go_at_call 22; refine (HBT.out _ hcur).mono ?_; rintro e w' ⟨rfl, rfl⟩)
          | (go_at_call 50; refine (HWM.out _ hcur).mono ?_; rintro e wz ⟨rfl, hbz⟩; replace hcur := b_tr hcur hbz; clear hbz; clear x0 x1 x2 x3 x4 x5 x6 x7 x8 x9 x10 x11 x12 x13 x14; obtain ⟨x0, x1, x2, x3, x4, x5, x6, x7, x8, x9, x10, x11, x12, x13, x14⟩ := HCL.out _ hcur)
          | (go_at_call 51; refine (HNM.out _ hcur).mono ?_; rintro e wz ⟨rfl, hbz⟩; replace hcur := b_tr hcur hbz; clear hbz; clear x0 x1 x2 x3 x4 x5 x6 x7 x8 x9 x10 x11 x12 x13 x14; obtain ⟨x0, x1, x2, x3, x4, x5, x6, x7, x8, x9, x10, x11, x12, x13, x14⟩ := HCL.out _ hcur))
        all_goals (first | (rename_i _ _ h1 _; cases h1; done) | (go_meet; exact ⟨by rw [HZ.out]; first | done | rfl | (congr 1; simp; omega) | (simp; omega), hcur⟩))
      by_cases hc2 : 46 < (c.size : Int)
      · have HZ := Lib.hid (HN1.out (fun h => by have := h.1; omega))
        go_wp2_with (first
          | (go_at_call 47; refine (nums_any _ _ _).mono ?_; rintro e w' ⟨rfl, rfl⟩; (try rw [hvb]); (try rw [hvk]); (try rw [hvi]))
          | (go_at_call 48; refine (HSM.out _ hcur).mono ?_; rintro e wz ⟨rfl, hbz⟩; replace hcur := b_tr hcur hbz; clear hbz; clear x0 x1 x2 x3 x4 x5 x6 x7 x8 x9 x10 x11 x12 x13 x14; obtain ⟨x0, x1, x2, x3, x4, x5, x6, x7, x8, x9, x10, x11, x12, x13, x14⟩ := HCL.out _ hcur)
          | (go_at_call 49; refine (HOM.out _ hcur).mono ?_; rintro e wz ⟨rfl, hbz⟩; replace hcur := b_tr hcur hbz; clear hbz; clear x0 x1 x2 x3 x4 x5 x6 x7 x8 x9 x10 x11 x12 x13 x14; obtain ⟨x0, x1, x2, x3, x4, x5, x6, x7, x8, x9, x10, x11, x12, x13, x14⟩ := HCL.out _ hcur)
          | (go_at_call 21; refine (HRI.out _ hcur).mono ?_; rintro e wz ⟨rfl, hbz⟩; replace hcur := b_tr hcur hbz; clear hbz; clear x0 x1 x2 x3 x4 x5 x6 x7 x8 x9 x10 x11 x12 x13 x14; obtain ⟨x0, x1, x2, x3, x4, x5, x6, x7, x8, x9, x10, x11, x12, x13, x14⟩ := HCL.out _ hcur)
          | (go_at_call 22; refine (HBT.out _ hcur).mono ?_; rintro e w' ⟨rfl, rfl⟩)
          | (go_at_call 50; refine (HWM.out _ hcur).mono ?_; rintro e wz ⟨rfl, hbz⟩; replace hcur := b_tr hcur hbz; clear hbz; clear x0 x1 x2 x3 x4 x5 x6 x7 x8 x9 x10 x11 x12 x13 x14; obtain ⟨x0, x1, x2, x3, x4, x5, x6, x7, x8, x9, x10, x11, x12, x13, x14⟩ := HCL.out _ hcur)
          | (go_at_call 51; refine (HNM.out _ hcur).mono ?_; rintro e wz ⟨rfl, hbz⟩; replace hcur := b_tr hcur hbz; clear hbz; clear x0 x1 x2 x3 x4 x5 x6 x7 x8 x9 x10 x11 x12 x13 x14; obtain ⟨x0, x1, x2, x3, x4, x5, x6, x7, x8, x9, x10, x11, x12, x13, x14⟩ := HCL.out _ hcur))
        all_goals (first | (rename_i _ _ h1 _; cases h1; done) | (go_meet; exact ⟨by rw [HZ.out]; first | done | rfl | (congr 1; simp; omega) | (simp; omega), hcur⟩))
      cases hvb : (decide (0 ≤ ln) && decide (ln ≤ 1099511627776))
      · have HZ := Lib.hid (HN1.out (fun h => by have := h.2.1; simp at hvb; omega))
        go_wp2_with (first
          | (go_at_call 47; refine (nums_any _ _ _).mono ?_; rintro e w' ⟨rfl, rfl⟩; (try rw [hvb]); (try rw [hvk]); (try rw [hvi]))
          | (go_at_call 48; refine (HSM.out _ hcur).mono ?_; rintro e wz ⟨rfl, hbz⟩; replace hcur := b_tr hcur hbz; clear hbz; clear x0 x1 x2 x3 x4 x5 x6 x7 x8 x9 x10 x11 x12 x13 x14; obtain ⟨x0, x1, x2, x3, x4, x5, x6, x7, x8, x9, x10, x11, x12, x13, x14⟩ := HCL.out _ hcur)
          | (go_at_call 49; refine (HOM.out _ hcur).mono ?_; rintro e wz ⟨rfl, hbz⟩; replace hcur := b_tr hcur hbz; clear hbz; clear x0 x1 x2 x3 x4 x5 x6 x7 x8 x9 x10 x11 x12 x13 x14; obtain ⟨x0, x1, x2, x3, x4, x5, x6, x7, x8, x9, x10, x11, x12, x13, x14⟩ := HCL.out _ hcur)
          | (go_at_call 21; refine (HRI.out _ hcur).mono ?_; rintro e wz ⟨rfl, hbz⟩; replace hcur := b_tr hcur hbz; clear hbz; clear x0 x1 x2 x3 x4 x5 x6 x7 x8 x9 x10 x11 x12 x13 x14; obtain ⟨x0, x1, x2, x3, x4, x5, x6, x7, x8, x9, x10, x11, x12, x13, x14⟩ := HCL.out _ hcur)
          | (go_at_call 22; refine (HBT.out _ hcur).mono ?_; rintro e w' ⟨rfl, rfl⟩)
          | (go_at_call 50; refine (HWM.out _ hcur).mono ?_; rintro e wz ⟨rfl, hbz⟩; replace hcur := b_tr hcur hbz; clear hbz; clear x0 x1 x2 x3 x4 x5 x6 x7 x8 x9 x10 x11 x12 x13 x14; obtain ⟨x0, x1, x2, x3, x4, x5, x6, x7, x8, x9, x10, x11, x12, x13, x14⟩ := HCL.out _ hcur)
          | (go_at_call 51; refine (HNM.out _ hcur).mono ?_; rintro e wz ⟨rfl, hbz⟩; replace hcur := b_tr hcur hbz; clear hbz; clear x0 x1 x2 x3 x4 x5 x6 x7 x8 x9 x10 x11 x12 x13 x14; obtain ⟨x0, x1, x2, x3, x4, x5, x6, x7, x8, x9, x10, x11, x12, x13, x14⟩ := HCL.out _ hcur))
        all_goals (first | (rename_i _ _ h1 _; cases h1; done) | (go_meet; exact ⟨by rw [HZ.out]; first | done | rfl | (congr 1; simp; omega) | (simp; omega), hcur⟩))
      have hcc : (1 ≤ c.size ∧ c.size ≤ 46) ∧ (0 ≤ ln ∧ ln ≤ 1099511627776) := by simp at hvb; omega
      have HC1 := Lib.hid hcc
      clear hcc hcs
      cases cl
      · have HCLL : Hid (¬ (false = true ∧ ln = 0)) := Lib.hid (by simp)
        cases hvd : subsB S
        · rw [hvd] at HSM
          have HZ := Lib.hid (HN1.out (fun h => by have := h.2.2.2.1; rw [hvd] at this; cases this))
          go_wp2_with (first
            | (go_at_call 47; refine (nums_any _ _ _).mono ?_; rintro e w' ⟨rfl, rfl⟩; (try rw [hvb]); (try rw [hvk]); (try rw [hvi]))
            | (go_at_call 48; refine (HSM.out _ hcur).mono ?_; rintro e wz ⟨rfl, hbz⟩; replace hcur := b_tr hcur hbz; clear hbz; clear x0 x1 x2 x3 x4 x5 x6 x7 x8 x9 x10 x11 x12 x13 x14; obtain ⟨x0, x1, x2, x3, x4, x5, x6, x7, x8, x9, x10, x11, x12, x13, x14⟩ := HCL.out _ hcur)
            | (go_at_call 49; refine (HOM.out _ hcur).mono ?_; rintro e wz ⟨rfl, hbz⟩; replace hcur := b_tr hcur hbz; clear hbz; clear x0 x1 x2 x3 x4 x5 x6 x7 x8 x9 x10 x11 x12 x13 x14; obtain ⟨x0, x1, x2, x3, x4, x5, x6, x7, x8, x9, x10, x11, x12, x13, x14⟩ := HCL.out _ hcur)
            | (go_at_call 21; refine (HRI.out _ hcur).mono ?_; rintro e wz ⟨rfl, hbz⟩; replace hcur := b_tr hcur hbz; clear hbz; clear x0 x1 x2 x3 x4 x5 x6 x7 x8 x9 x10 x11 x12 x13 x14; obtain ⟨x0, x1, x2, x3, x4, x5, x6, x7, x8, x9, x10, x11, x12, x13, x14⟩ := HCL.out _ hcur)
            | (go_at_call 22; refine (HBT.out _ hcur).mono ?_; rintro e w' ⟨rfl, rfl⟩)
            | (go_at_call 50; refine (HWM.out _ hcur).mono ?_; rintro e wz ⟨rfl, hbz⟩; replace hcur := b_tr hcur hbz; clear hbz; clear x0 x1 x2 x3 x4 x5 x6 x7 x8 x9 x10 x11 x12 x13 x14; obtain ⟨x0, x1, x2, x3, x4, x5, x6, x7, x8, x9, x10, x11, x12, x13, x14⟩ := HCL.out _ hcur)
            | (go_at_call 51; refine (HNM.out _ hcur).mono ?_; rintro e wz ⟨rfl, hbz⟩; replace hcur := b_tr hcur hbz; clear hbz; clear x0 x1 x2 x3 x4 x5 x6 x7 x8 x9 x10 x11 x12 x13 x14; obtain ⟨x0, x1, x2, x3, x4, x5, x6, x7, x8, x9, x10, x11, x12, x13, x14⟩ := HCL.out _ hcur))
          all_goals (first | (rename_i _ _ h1 _; cases h1; done) | (go_meet; exact ⟨by rw [HZ.out]; first | done | rfl | (congr 1; simp; omega) | (simp; omega), hcur⟩))
        rw [hvd] at HSM
        cases hve : yes (okO ⟨last, F, Q⟩)
        · rw [hve] at HOM
          have HZ := Lib.hid (HN1.out (fun h => yes_not.1 hve h.2.2.2.2.1))
          go_wp2_with (first
            | (go_at_call 47; refine (nums_any _ _ _).mono ?_; rintro e w' ⟨rfl, rfl⟩; (try rw [hvb]); (try rw [hvk]); (try rw [hvi]))
            | (go_at_call 48; refine (HSM.out _ hcur).mono ?_; rintro e wz ⟨rfl, hbz⟩; replace hcur := b_tr hcur hbz; clear hbz; clear x0 x1 x2 x3 x4 x5 x6 x7 x8 x9 x10 x11 x12 x13 x14; obtain ⟨x0, x1, x2, x3, x4, x5, x6, x7, x8, x9, x10, x11, x12, x13, x14⟩ := HCL.out _ hcur)
            | (go_at_call 49; refine (HOM.out _ hcur).mono ?_; rintro e wz ⟨rfl, hbz⟩; replace hcur := b_tr hcur hbz; clear hbz; clear x0 x1 x2 x3 x4 x5 x6 x7 x8 x9 x10 x11 x12 x13 x14; obtain ⟨x0, x1, x2, x3, x4, x5, x6, x7, x8, x9, x10, x11, x12, x13, x14⟩ := HCL.out _ hcur)
            | (go_at_call 21; refine (HRI.out _ hcur).mono ?_; rintro e wz ⟨rfl, hbz⟩; replace hcur := b_tr hcur hbz; clear hbz; clear x0 x1 x2 x3 x4 x5 x6 x7 x8 x9 x10 x11 x12 x13 x14; obtain ⟨x0, x1, x2, x3, x4, x5, x6, x7, x8, x9, x10, x11, x12, x13, x14⟩ := HCL.out _ hcur)
            | (go_at_call 22; refine (HBT.out _ hcur).mono ?_; rintro e w' ⟨rfl, rfl⟩)
            | (go_at_call 50; refine (HWM.out _ hcur).mono ?_; rintro e wz ⟨rfl, hbz⟩; replace hcur := b_tr hcur hbz; clear hbz; clear x0 x1 x2 x3 x4 x5 x6 x7 x8 x9 x10 x11 x12 x13 x14; obtain ⟨x0, x1, x2, x3, x4, x5, x6, x7, x8, x9, x10, x11, x12, x13, x14⟩ := HCL.out _ hcur)
            | (go_at_call 51; refine (HNM.out _ hcur).mono ?_; rintro e wz ⟨rfl, hbz⟩; replace hcur := b_tr hcur hbz; clear hbz; clear x0 x1 x2 x3 x4 x5 x6 x7 x8 x9 x10 x11 x12 x13 x14; obtain ⟨x0, x1, x2, x3, x4, x5, x6, x7, x8, x9, x10, x11, x12, x13, x14⟩ := HCL.out _ hcur))
          all_goals (first | (rename_i _ _ h1 _; cases h1; done) | (go_meet; exact ⟨by rw [HZ.out]; first | done | rfl | (congr 1; simp; omega) | (simp; omega), hcur⟩))
        rw [hve] at HOM
        by_cases hi16 : 16 < (I.length : Int)
        · have HZ := Lib.hid (HN1.out (fun h => by have := h.2.2.2.2.2.1.1; omega))
          go_wp2_with (first
            | (go_at_call 47; refine (nums_any _ _ _).mono ?_; rintro e w' ⟨rfl, rfl⟩; (try rw [hvb]); (try rw [hvk]); (try rw [hvi]))
            | (go_at_call 48; refine (HSM.out _ hcur).mono ?_; rintro e wz ⟨rfl, hbz⟩; replace hcur := b_tr hcur hbz; clear hbz; clear x0 x1 x2 x3 x4 x5 x6 x7 x8 x9 x10 x11 x12 x13 x14; obtain ⟨x0, x1, x2, x3, x4, x5, x6, x7, x8, x9, x10, x11, x12, x13, x14⟩ := HCL.out _ hcur)
            | (go_at_call 49; refine (HOM.out _ hcur).mono ?_; rintro e wz ⟨rfl, hbz⟩; replace hcur := b_tr hcur hbz; clear hbz; clear x0 x1 x2 x3 x4 x5 x6 x7 x8 x9 x10 x11 x12 x13 x14; obtain ⟨x0, x1, x2, x3, x4, x5, x6, x7, x8, x9, x10, x11, x12, x13, x14⟩ := HCL.out _ hcur)
            | (go_at_call 21; refine (HRI.out _ hcur).mono ?_; rintro e wz ⟨rfl, hbz⟩; replace hcur := b_tr hcur hbz; clear hbz; clear x0 x1 x2 x3 x4 x5 x6 x7 x8 x9 x10 x11 x12 x13 x14; obtain ⟨x0, x1, x2, x3, x4, x5, x6, x7, x8, x9, x10, x11, x12, x13, x14⟩ := HCL.out _ hcur)
            | (go_at_call 22; refine (HBT.out _ hcur).mono ?_; rintro e w' ⟨rfl, rfl⟩)
            | (go_at_call 50; refine (HWM.out _ hcur).mono ?_; rintro e wz ⟨rfl, hbz⟩; replace hcur := b_tr hcur hbz; clear hbz; clear x0 x1 x2 x3 x4 x5 x6 x7 x8 x9 x10 x11 x12 x13 x14; obtain ⟨x0, x1, x2, x3, x4, x5, x6, x7, x8, x9, x10, x11, x12, x13, x14⟩ := HCL.out _ hcur)
            | (go_at_call 51; refine (HNM.out _ hcur).mono ?_; rintro e wz ⟨rfl, hbz⟩; replace hcur := b_tr hcur hbz; clear hbz; clear x0 x1 x2 x3 x4 x5 x6 x7 x8 x9 x10 x11 x12 x13 x14; obtain ⟨x0, x1, x2, x3, x4, x5, x6, x7, x8, x9, x10, x11, x12, x13, x14⟩ := HCL.out _ hcur))
          all_goals (first | (rename_i _ _ h1 _; cases h1; done) | (go_meet; exact ⟨by rw [HZ.out]; first | done | rfl | (congr 1; simp; omega) | (simp; omega), hcur⟩))
        cases hvr : yes (riseOk I)
        · rw [hvr] at HRI
          have HZ := Lib.hid (HN1.out (fun h => yes_not.1 hvr (ids_parts.1 h.2.2.2.2.2.1).2.1))
          go_wp2_with (first
            | (go_at_call 47; refine (nums_any _ _ _).mono ?_; rintro e w' ⟨rfl, rfl⟩; (try rw [hvb]); (try rw [hvk]); (try rw [hvi]))
            | (go_at_call 48; refine (HSM.out _ hcur).mono ?_; rintro e wz ⟨rfl, hbz⟩; replace hcur := b_tr hcur hbz; clear hbz; clear x0 x1 x2 x3 x4 x5 x6 x7 x8 x9 x10 x11 x12 x13 x14; obtain ⟨x0, x1, x2, x3, x4, x5, x6, x7, x8, x9, x10, x11, x12, x13, x14⟩ := HCL.out _ hcur)
            | (go_at_call 49; refine (HOM.out _ hcur).mono ?_; rintro e wz ⟨rfl, hbz⟩; replace hcur := b_tr hcur hbz; clear hbz; clear x0 x1 x2 x3 x4 x5 x6 x7 x8 x9 x10 x11 x12 x13 x14; obtain ⟨x0, x1, x2, x3, x4, x5, x6, x7, x8, x9, x10, x11, x12, x13, x14⟩ := HCL.out _ hcur)
            | (go_at_call 21; refine (HRI.out _ hcur).mono ?_; rintro e wz ⟨rfl, hbz⟩; replace hcur := b_tr hcur hbz; clear hbz; clear x0 x1 x2 x3 x4 x5 x6 x7 x8 x9 x10 x11 x12 x13 x14; obtain ⟨x0, x1, x2, x3, x4, x5, x6, x7, x8, x9, x10, x11, x12, x13, x14⟩ := HCL.out _ hcur)
            | (go_at_call 22; refine (HBT.out _ hcur).mono ?_; rintro e w' ⟨rfl, rfl⟩)
            | (go_at_call 50; refine (HWM.out _ hcur).mono ?_; rintro e wz ⟨rfl, hbz⟩; replace hcur := b_tr hcur hbz; clear hbz; clear x0 x1 x2 x3 x4 x5 x6 x7 x8 x9 x10 x11 x12 x13 x14; obtain ⟨x0, x1, x2, x3, x4, x5, x6, x7, x8, x9, x10, x11, x12, x13, x14⟩ := HCL.out _ hcur)
            | (go_at_call 51; refine (HNM.out _ hcur).mono ?_; rintro e wz ⟨rfl, hbz⟩; replace hcur := b_tr hcur hbz; clear hbz; clear x0 x1 x2 x3 x4 x5 x6 x7 x8 x9 x10 x11 x12 x13 x14; obtain ⟨x0, x1, x2, x3, x4, x5, x6, x7, x8, x9, x10, x11, x12, x13, x14⟩ := HCL.out _ hcur))
          all_goals (first | (rename_i _ _ h1 _; cases h1; done) | (go_meet; exact ⟨by rw [HZ.out]; first | done | rfl | (congr 1; simp; omega) | (simp; omega), hcur⟩))
        rw [hvr] at HRI
        cases hvt : yes (betw I 1 65535)
        · rw [hvt] at HBT
          have HZ := Lib.hid (HN1.out (fun h => yes_not.1 hvt (ids_parts.1 h.2.2.2.2.2.1).2.2))
          go_wp2_with (first
            | (go_at_call 47; refine (nums_any _ _ _).mono ?_; rintro e w' ⟨rfl, rfl⟩; (try rw [hvb]); (try rw [hvk]); (try rw [hvi]))
            | (go_at_call 48; refine (HSM.out _ hcur).mono ?_; rintro e wz ⟨rfl, hbz⟩; replace hcur := b_tr hcur hbz; clear hbz; clear x0 x1 x2 x3 x4 x5 x6 x7 x8 x9 x10 x11 x12 x13 x14; obtain ⟨x0, x1, x2, x3, x4, x5, x6, x7, x8, x9, x10, x11, x12, x13, x14⟩ := HCL.out _ hcur)
            | (go_at_call 49; refine (HOM.out _ hcur).mono ?_; rintro e wz ⟨rfl, hbz⟩; replace hcur := b_tr hcur hbz; clear hbz; clear x0 x1 x2 x3 x4 x5 x6 x7 x8 x9 x10 x11 x12 x13 x14; obtain ⟨x0, x1, x2, x3, x4, x5, x6, x7, x8, x9, x10, x11, x12, x13, x14⟩ := HCL.out _ hcur)
            | (go_at_call 21; refine (HRI.out _ hcur).mono ?_; rintro e wz ⟨rfl, hbz⟩; replace hcur := b_tr hcur hbz; clear hbz; clear x0 x1 x2 x3 x4 x5 x6 x7 x8 x9 x10 x11 x12 x13 x14; obtain ⟨x0, x1, x2, x3, x4, x5, x6, x7, x8, x9, x10, x11, x12, x13, x14⟩ := HCL.out _ hcur)
            | (go_at_call 22; refine (HBT.out _ hcur).mono ?_; rintro e w' ⟨rfl, rfl⟩)
            | (go_at_call 50; refine (HWM.out _ hcur).mono ?_; rintro e wz ⟨rfl, hbz⟩; replace hcur := b_tr hcur hbz; clear hbz; clear x0 x1 x2 x3 x4 x5 x6 x7 x8 x9 x10 x11 x12 x13 x14; obtain ⟨x0, x1, x2, x3, x4, x5, x6, x7, x8, x9, x10, x11, x12, x13, x14⟩ := HCL.out _ hcur)
            | (go_at_call 51; refine (HNM.out _ hcur).mono ?_; rintro e wz ⟨rfl, hbz⟩; replace hcur := b_tr hcur hbz; clear hbz; clear x0 x1 x2 x3 x4 x5 x6 x7 x8 x9 x10 x11 x12 x13 x14; obtain ⟨x0, x1, x2, x3, x4, x5, x6, x7, x8, x9, x10, x11, x12, x13, x14⟩ := HCL.out _ hcur))
          all_goals (first | (rename_i _ _ h1 _; cases h1; done) | (go_meet; exact ⟨by rw [HZ.out]; first | done | rfl | (congr 1; simp; omega) | (simp; omega), hcur⟩))
        rw [hvt] at HBT
        cases hvw : yes (wlOk ⟨wi, wt, wp, wq, wr⟩)
        · rw [hvw] at HWM
          have HZ := Lib.hid (HN1.out (fun h => yes_not.1 hvw h.2.2.2.2.2.2.1))
          go_wp2_with (first
            | (go_at_call 47; refine (nums_any _ _ _).mono ?_; rintro e w' ⟨rfl, rfl⟩; (try rw [hvb]); (try rw [hvk]); (try rw [hvi]))
            | (go_at_call 48; refine (HSM.out _ hcur).mono ?_; rintro e wz ⟨rfl, hbz⟩; replace hcur := b_tr hcur hbz; clear hbz; clear x0 x1 x2 x3 x4 x5 x6 x7 x8 x9 x10 x11 x12 x13 x14; obtain ⟨x0, x1, x2, x3, x4, x5, x6, x7, x8, x9, x10, x11, x12, x13, x14⟩ := HCL.out _ hcur)
            | (go_at_call 49; refine (HOM.out _ hcur).mono ?_; rintro e wz ⟨rfl, hbz⟩; replace hcur := b_tr hcur hbz; clear hbz; clear x0 x1 x2 x3 x4 x5 x6 x7 x8 x9 x10 x11 x12 x13 x14; obtain ⟨x0, x1, x2, x3, x4, x5, x6, x7, x8, x9, x10, x11, x12, x13, x14⟩ := HCL.out _ hcur)
            | (go_at_call 21; refine (HRI.out _ hcur).mono ?_; rintro e wz ⟨rfl, hbz⟩; replace hcur := b_tr hcur hbz; clear hbz; clear x0 x1 x2 x3 x4 x5 x6 x7 x8 x9 x10 x11 x12 x13 x14; obtain ⟨x0, x1, x2, x3, x4, x5, x6, x7, x8, x9, x10, x11, x12, x13, x14⟩ := HCL.out _ hcur)
            | (go_at_call 22; refine (HBT.out _ hcur).mono ?_; rintro e w' ⟨rfl, rfl⟩)
            | (go_at_call 50; refine (HWM.out _ hcur).mono ?_; rintro e wz ⟨rfl, hbz⟩; replace hcur := b_tr hcur hbz; clear hbz; clear x0 x1 x2 x3 x4 x5 x6 x7 x8 x9 x10 x11 x12 x13 x14; obtain ⟨x0, x1, x2, x3, x4, x5, x6, x7, x8, x9, x10, x11, x12, x13, x14⟩ := HCL.out _ hcur)
            | (go_at_call 51; refine (HNM.out _ hcur).mono ?_; rintro e wz ⟨rfl, hbz⟩; replace hcur := b_tr hcur hbz; clear hbz; clear x0 x1 x2 x3 x4 x5 x6 x7 x8 x9 x10 x11 x12 x13 x14; obtain ⟨x0, x1, x2, x3, x4, x5, x6, x7, x8, x9, x10, x11, x12, x13, x14⟩ := HCL.out _ hcur))
          all_goals (first | (rename_i _ _ h1 _; cases h1; done) | (go_meet; exact ⟨by rw [HZ.out]; first | done | rfl | (congr 1; simp; omega) | (simp; omega), hcur⟩))
        rw [hvw] at HWM
        cases hvk : (decide (0 ≤ keep) && decide (keep ≤ 65535))
        · have HZ := Lib.hid (HN1.out (fun h => by have := h.2.2.2.2.2.2.2.1; simp at hvk; omega))
          go_wp2_with (first
            | (go_at_call 47; refine (nums_any _ _ _).mono ?_; rintro e w' ⟨rfl, rfl⟩; (try rw [hvb]); (try rw [hvk]); (try rw [hvi]))
            | (go_at_call 48; refine (HSM.out _ hcur).mono ?_; rintro e wz ⟨rfl, hbz⟩; replace hcur := b_tr hcur hbz; clear hbz; clear x0 x1 x2 x3 x4 x5 x6 x7 x8 x9 x10 x11 x12 x13 x14; obtain ⟨x0, x1, x2, x3, x4, x5, x6, x7, x8, x9, x10, x11, x12, x13, x14⟩ := HCL.out _ hcur)
            | (go_at_call 49; refine (HOM.out _ hcur).mono ?_; rintro e wz ⟨rfl, hbz⟩; replace hcur := b_tr hcur hbz; clear hbz; clear x0 x1 x2 x3 x4 x5 x6 x7 x8 x9 x10 x11 x12 x13 x14; obtain ⟨x0, x1, x2, x3, x4, x5, x6, x7, x8, x9, x10, x11, x12, x13, x14⟩ := HCL.out _ hcur)
            | (go_at_call 21; refine (HRI.out _ hcur).mono ?_; rintro e wz ⟨rfl, hbz⟩; replace hcur := b_tr hcur hbz; clear hbz; clear x0 x1 x2 x3 x4 x5 x6 x7 x8 x9 x10 x11 x12 x13 x14; obtain ⟨x0, x1, x2, x3, x4, x5, x6, x7, x8, x9, x10, x11, x12, x13, x14⟩ := HCL.out _ hcur)
            | (go_at_call 22; refine (HBT.out _ hcur).mono ?_; rintro e w' ⟨rfl, rfl⟩)
            | (go_at_call 50; refine (HWM.out _ hcur).mono ?_; rintro e wz ⟨rfl, hbz⟩; replace hcur := b_tr hcur hbz; clear hbz; clear x0 x1 x2 x3 x4 x5 x6 x7 x8 x9 x10 x11 x12 x13 x14; obtain ⟨x0, x1, x2, x3, x4, x5, x6, x7, x8, x9, x10, x11, x12, x13, x14⟩ := HCL.out _ hcur)
            | (go_at_call 51; refine (HNM.out _ hcur).mono ?_; rintro e wz ⟨rfl, hbz⟩; replace hcur := b_tr hcur hbz; clear hbz; clear x0 x1 x2 x3 x4 x5 x6 x7 x8 x9 x10 x11 x12 x13 x14; obtain ⟨x0, x1, x2, x3, x4, x5, x6, x7, x8, x9, x10, x11, x12, x13, x14⟩ := HCL.out _ hcur))
          all_goals (first | (rename_i _ _ h1 _; cases h1; done) | (go_meet; exact ⟨by rw [HZ.out]; first | done | rfl | (congr 1; simp; omega) | (simp; omega), hcur⟩))
        cases hvi : (decide (0 ≤ idle) && decide (idle ≤ 1048576))
        · have HZ := Lib.hid (HN1.out (fun h => by have := h.2.2.2.2.2.2.2.2; simp at hvi; omega))
          go_wp2_with (first
            | (go_at_call 47; refine (nums_any _ _ _).mono ?_; rintro e w' ⟨rfl, rfl⟩; (try rw [hvb]); (try rw [hvk]); (try rw [hvi]))
            | (go_at_call 48; refine (HSM.out _ hcur).mono ?_; rintro e wz ⟨rfl, hbz⟩; replace hcur := b_tr hcur hbz; clear hbz; clear x0 x1 x2 x3 x4 x5 x6 x7 x8 x9 x10 x11 x12 x13 x14; obtain ⟨x0, x1, x2, x3, x4, x5, x6, x7, x8, x9, x10, x11, x12, x13, x14⟩ := HCL.out _ hcur)
            | (go_at_call 49; refine (HOM.out _ hcur).mono ?_; rintro e wz ⟨rfl, hbz⟩; replace hcur := b_tr hcur hbz; clear hbz; clear x0 x1 x2 x3 x4 x5 x6 x7 x8 x9 x10 x11 x12 x13 x14; obtain ⟨x0, x1, x2, x3, x4, x5, x6, x7, x8, x9, x10, x11, x12, x13, x14⟩ := HCL.out _ hcur)
            | (go_at_call 21; refine (HRI.out _ hcur).mono ?_; rintro e wz ⟨rfl, hbz⟩; replace hcur := b_tr hcur hbz; clear hbz; clear x0 x1 x2 x3 x4 x5 x6 x7 x8 x9 x10 x11 x12 x13 x14; obtain ⟨x0, x1, x2, x3, x4, x5, x6, x7, x8, x9, x10, x11, x12, x13, x14⟩ := HCL.out _ hcur)
            | (go_at_call 22; refine (HBT.out _ hcur).mono ?_; rintro e w' ⟨rfl, rfl⟩)
            | (go_at_call 50; refine (HWM.out _ hcur).mono ?_; rintro e wz ⟨rfl, hbz⟩; replace hcur := b_tr hcur hbz; clear hbz; clear x0 x1 x2 x3 x4 x5 x6 x7 x8 x9 x10 x11 x12 x13 x14; obtain ⟨x0, x1, x2, x3, x4, x5, x6, x7, x8, x9, x10, x11, x12, x13, x14⟩ := HCL.out _ hcur)
            | (go_at_call 51; refine (HNM.out _ hcur).mono ?_; rintro e wz ⟨rfl, hbz⟩; replace hcur := b_tr hcur hbz; clear hbz; clear x0 x1 x2 x3 x4 x5 x6 x7 x8 x9 x10 x11 x12 x13 x14; obtain ⟨x0, x1, x2, x3, x4, x5, x6, x7, x8, x9, x10, x11, x12, x13, x14⟩ := HCL.out _ hcur))
          all_goals (first | (rename_i _ _ h1 _; cases h1; done) | (go_meet; exact ⟨by rw [HZ.out]; first | done | rfl | (congr 1; simp; omega) | (simp; omega), hcur⟩))
        have hki : (0 ≤ keep ∧ keep ≤ 65535) ∧ (0 ≤ idle ∧ idle ≤ 1048576) := by simp at hvk hvi; omega
        have HY := Lib.hid (HY1.out ⟨HC1.out.1, HC1.out.2, HCLL.out, hvd, yes_iff.1 hve, ids_parts.2 ⟨by omega, yes_iff.1 hvr, yes_iff.1 hvt⟩, yes_iff.1 hvw, hki.1, hki.2⟩)
        clear hvd hve hvr hvt hvw hki
        have HZ := Lib.hid HY.out
        go_wp2_with (first
          | (go_at_call 47; refine (nums_any _ _ _).mono ?_; rintro e w' ⟨rfl, rfl⟩; (try rw [hvb]); (try rw [hvk]); (try rw [hvi]))
          | (go_at_call 48; refine (HSM.out _ hcur).mono ?_; rintro e wz ⟨rfl, hbz⟩; replace hcur := b_tr hcur hbz; clear hbz; clear x0 x1 x2 x3 x4 x5 x6 x7 x8 x9 x10 x11 x12 x13 x14; obtain ⟨x0, x1, x2, x3, x4, x5, x6, x7, x8, x9, x10, x11, x12, x13, x14⟩ := HCL.out _ hcur)
          | (go_at_call 49; refine (HOM.out _ hcur).mono ?_; rintro e wz ⟨rfl, hbz⟩; replace hcur := b_tr hcur hbz; clear hbz; clear x0 x1 x2 x3 x4 x5 x6 x7 x8 x9 x10 x11 x12 x13 x14; obtain ⟨x0, x1, x2, x3, x4, x5, x6, x7, x8, x9, x10, x11, x12, x13, x14⟩ := HCL.out _ hcur)
          | (go_at_call 21; refine (HRI.out _ hcur).mono ?_; rintro e wz ⟨rfl, hbz⟩; replace hcur := b_tr hcur hbz; clear hbz; clear x0 x1 x2 x3 x4 x5 x6 x7 x8 x9 x10 x11 x12 x13 x14; obtain ⟨x0, x1, x2, x3, x4, x5, x6, x7, x8, x9, x10, x11, x12, x13, x14⟩ := HCL.out _ hcur)
          | (go_at_call 22; refine (HBT.out _ hcur).mono ?_; rintro e w' ⟨rfl, rfl⟩)
          | (go_at_call 50; refine (HWM.out _ hcur).mono ?_; rintro e wz ⟨rfl, hbz⟩; replace hcur := b_tr hcur hbz; clear hbz; clear x0 x1 x2 x3 x4 x5 x6 x7 x8 x9 x10 x11 x12 x13 x14; obtain ⟨x0, x1, x2, x3, x4, x5, x6, x7, x8, x9, x10, x11, x12, x13, x14⟩ := HCL.out _ hcur)
          | (go_at_call 51; refine (HNM.out _ hcur).mono ?_; rintro e wz ⟨rfl, hbz⟩; replace hcur := b_tr hcur hbz; clear hbz; clear x0 x1 x2 x3 x4 x5 x6 x7 x8 x9 x10 x11 x12 x13 x14; obtain ⟨x0, x1, x2, x3, x4, x5, x6, x7, x8, x9, x10, x11, x12, x13, x14⟩ := HCL.out _ hcur))
        all_goals (first | (rename_i _ _ h1 _; cases h1; done) | (go_meet; exact ⟨by rw [HZ.out]; first | done | rfl | (congr 1; simp; omega) | (simp; omega), hcur⟩))
      · by_cases hl0 : ln = 0
        · have hl0' : (ln == 0) = true := beq_iff_eq.2 hl0
          have HZZ := Lib.hid (HN1.out (fun h => h.2.2.1 ⟨rfl, hl0⟩))
          clear hl0
          have HZ := Lib.hid HZZ.out
          go_wp2_with (first
            | (go_at_call 47; refine (nums_any _ _ _).mono ?_; rintro e w' ⟨rfl, rfl⟩; (try rw [hvb]); (try rw [hvk]); (try rw [hvi]))
            | (go_at_call 48; refine (HSM.out _ hcur).mono ?_; rintro e wz ⟨rfl, hbz⟩; replace hcur := b_tr hcur hbz; clear hbz; clear x0 x1 x2 x3 x4 x5 x6 x7 x8 x9 x10 x11 x12 x13 x14; obtain ⟨x0, x1, x2, x3, x4, x5, x6, x7, x8, x9, x10, x11, x12, x13, x14⟩ := HCL.out _ hcur)
            | (go_at_call 49; refine (HOM.out _ hcur).mono ?_; rintro e wz ⟨rfl, hbz⟩; replace hcur := b_tr hcur hbz; clear hbz; clear x0 x1 x2 x3 x4 x5 x6 x7 x8 x9 x10 x11 x12 x13 x14; obtain ⟨x0, x1, x2, x3, x4, x5, x6, x7, x8, x9, x10, x11, x12, x13, x14⟩ := HCL.out _ hcur)
            | (go_at_call 21; refine (HRI.out _ hcur).mono ?_; rintro e wz ⟨rfl, hbz⟩; replace hcur := b_tr hcur hbz; clear hbz; clear x0 x1 x2 x3 x4 x5 x6 x7 x8 x9 x10 x11 x12 x13 x14; obtain ⟨x0, x1, x2, x3, x4, x5, x6, x7, x8, x9, x10, x11, x12, x13, x14⟩ := HCL.out _ hcur)
            | (go_at_call 22; refine (HBT.out _ hcur).mono ?_; rintro e w' ⟨rfl, rfl⟩)
            | (go_at_call 50; refine (HWM.out _ hcur).mono ?_; rintro e wz ⟨rfl, hbz⟩; replace hcur := b_tr hcur hbz; clear hbz; clear x0 x1 x2 x3 x4 x5 x6 x7 x8 x9 x10 x11 x12 x13 x14; obtain ⟨x0, x1, x2, x3, x4, x5, x6, x7, x8, x9, x10, x11, x12, x13, x14⟩ := HCL.out _ hcur)
            | (go_at_call 51; refine (HNM.out _ hcur).mono ?_; rintro e wz ⟨rfl, hbz⟩; replace hcur := b_tr hcur hbz; clear hbz; clear x0 x1 x2 x3 x4 x5 x6 x7 x8 x9 x10 x11 x12 x13 x14; obtain ⟨x0, x1, x2, x3, x4, x5, x6, x7, x8, x9, x10, x11, x12, x13, x14⟩ := HCL.out _ hcur))
          all_goals (first | (rename_i _ _ h1 _; cases h1; done) | (go_meet; exact ⟨by rw [HZ.out]; first | done | rfl | (congr 1; simp; omega) | (simp; omega), hcur⟩))
        · have hl0' : (ln == 0) = false := beq_eq_false_iff_ne.2 hl0
          have HCLL : Hid (¬ (true = true ∧ ln = 0)) := Lib.hid (by simp [hl0])
          clear hl0
          cases hvd : subsB S
          · rw [hvd] at HSM
            have HZ := Lib.hid (HN1.out (fun h => by have := h.2.2.2.1; rw [hvd] at this; cases this))
            go_wp2_with (first
              | (go_at_call 47; refine (nums_any _ _ _).mono ?_; rintro e w' ⟨rfl, rfl⟩; (try rw [hvb]); (try rw [hvk]); (try rw [hvi]))
              | (go_at_call 48; refine (HSM.out _ hcur).mono ?_; rintro e wz ⟨rfl, hbz⟩; replace hcur := b_tr hcur hbz; clear hbz; clear x0 x1 x2 x3 x4 x5 x6 x7 x8 x9 x10 x11 x12 x13 x14; obtain ⟨x0, x1, x2, x3, x4, x5, x6, x7, x8, x9, x10, x11, x12, x13, x14⟩ := HCL.out _ hcur)
              | (go_at_call 49; refine (HOM.out _ hcur).mono ?_; rintro e wz ⟨rfl, hbz⟩; replace hcur := b_tr hcur hbz; clear hbz; clear x0 x1 x2 x3 x4 x5 x6 x7 x8 x9 x10 x11 x12 x13 x14; obtain ⟨x0, x1, x2, x3, x4, x5, x6, x7, x8, x9, x10, x11, x12, x13, x14⟩ := HCL.out _ hcur)
              | (go_at_call 21; refine (HRI.out _ hcur).mono ?_; rintro e wz ⟨rfl, hbz⟩; replace hcur := b_tr hcur hbz; clear hbz; clear x0 x1 x2 x3 x4 x5 x6 x7 x8 x9 x10 x11 x12 x13 x14; obtain ⟨x0, x1, x2, x3, x4, x5, x6, x7, x8, x9, x10, x11, x12, x13, x14⟩ := HCL.out _ hcur)
              | (go_at_call 22; refine (HBT.out _ hcur).mono ?_; rintro e w' ⟨rfl, rfl⟩)
              | (go_at_call 50; refine (HWM.out _ hcur).mono ?_; rintro e wz ⟨rfl, hbz⟩; replace hcur := b_tr hcur hbz; clear hbz; clear x0 x1 x2 x3 x4 x5 x6 x7 x8 x9 x10 x11 x12 x13 x14; obtain ⟨x0, x1, x2, x3, x4, x5, x6, x7, x8, x9, x10, x11, x12, x13, x14⟩ := HCL.out _ hcur)
              | (go_at_call 51; refine (HNM.out _ hcur).mono ?_; rintro e wz ⟨rfl, hbz⟩; replace hcur := b_tr hcur hbz; clear hbz; clear x0 x1 x2 x3 x4 x5 x6 x7 x8 x9 x10 x11 x12 x13 x14; obtain ⟨x0, x1, x2, x3, x4, x5, x6, x7, x8, x9, x10, x11, x12, x13, x14⟩ := HCL.out _ hcur))
            all_goals (first | (rename_i _ _ h1 _; cases h1; done) | (go_meet; exact ⟨by rw [HZ.out]; first | done | rfl | (congr 1; simp; omega) | (simp; omega), hcur⟩))
          rw [hvd] at HSM
          cases hve : yes (okO ⟨last, F, Q⟩)
          · rw [hve] at HOM
            have HZ := Lib.hid (HN1.out (fun h => yes_not.1 hve h.2.2.2.2.1))
            go_wp2_with (first
              | (go_at_call 47; refine (nums_any _ _ _).mono ?_; rintro e w' ⟨rfl, rfl⟩; (try rw [hvb]); (try rw [hvk]); (try rw [hvi]))
              | (go_at_call 48; refine (HSM.out _ hcur).mono ?_; rintro e wz ⟨rfl, hbz⟩; replace hcur := b_tr hcur hbz; clear hbz; clear x0 x1 x2 x3 x4 x5 x6 x7 x8 x9 x10 x11 x12 x13 x14; obtain ⟨x0, x1, x2, x3, x4, x5, x6, x7, x8, x9, x10, x11, x12, x13, x14⟩ := HCL.out _ hcur)
              | (go_at_call 49; refine (HOM.out _ hcur).mono ?_; rintro e wz ⟨rfl, hbz⟩; replace hcur := b_tr hcur hbz; clear hbz; clear x0 x1 x2 x3 x4 x5 x6 x7 x8 x9 x10 x11 x12 x13 x14; obtain ⟨x0, x1, x2, x3, x4, x5, x6, x7, x8, x9, x10, x11, x12, x13, x14⟩ := HCL.out _ hcur)
              | (go_at_call 21; refine (HRI.out _ hcur).mono ?_; rintro e wz ⟨rfl, hbz⟩; replace hcur := b_tr hcur hbz; clear hbz; clear x0 x1 x2 x3 x4 x5 x6 x7 x8 x9 x10 x11 x12 x13 x14; obtain ⟨x0, x1, x2, x3, x4, x5, x6, x7, x8, x9, x10, x11, x12, x13, x14⟩ := HCL.out _ hcur)
              | (go_at_call 22; refine (HBT.out _ hcur).mono ?_; rintro e w' ⟨rfl, rfl⟩)
              | (go_at_call 50; refine (HWM.out _ hcur).mono ?_; rintro e wz ⟨rfl, hbz⟩; replace hcur := b_tr hcur hbz; clear hbz; clear x0 x1 x2 x3 x4 x5 x6 x7 x8 x9 x10 x11 x12 x13 x14; obtain ⟨x0, x1, x2, x3, x4, x5, x6, x7, x8, x9, x10, x11, x12, x13, x14⟩ := HCL.out _ hcur)
              | (go_at_call 51; refine (HNM.out _ hcur).mono ?_; rintro e wz ⟨rfl, hbz⟩; replace hcur := b_tr hcur hbz; clear hbz; clear x0 x1 x2 x3 x4 x5 x6 x7 x8 x9 x10 x11 x12 x13 x14; obtain ⟨x0, x1, x2, x3, x4, x5, x6, x7, x8, x9, x10, x11, x12, x13, x14⟩ := HCL.out _ hcur))
            all_goals (first | (rename_i _ _ h1 _; cases h1; done) | (go_meet; exact ⟨by rw [HZ.out]; first | done | rfl | (congr 1; simp; omega) | (simp; omega), hcur⟩))
          rw [hve] at HOM
          by_cases hi16 : 16 < (I.length : Int)
          · have HZ := Lib.hid (HN1.out (fun h => by have := h.2.2.2.2.2.1.1; omega))
            go_wp2_with (first
              | (go_at_call 47; refine (nums_any _ _ _).mono ?_; rintro e w' ⟨rfl, rfl⟩; (try rw [hvb]); (try rw [hvk]); (try rw [hvi]))
              | (go_at_call 48; refine (HSM.out _ hcur).mono ?_; rintro e wz ⟨rfl, hbz⟩; replace hcur := b_tr hcur hbz; clear hbz; clear x0 x1 x2 x3 x4 x5 x6 x7 x8 x9 x10 x11 x12 x13 x14; obtain ⟨x0, x1, x2, x3, x4, x5, x6, x7, x8, x9, x10, x11, x12, x13, x14⟩ := HCL.out _ hcur)
              | (go_at_call 49; refine (HOM.out _ hcur).mono ?_; rintro e wz ⟨rfl, hbz⟩; replace hcur := b_tr hcur hbz; clear hbz; clear x0 x1 x2 x3 x4 x5 x6 x7 x8 x9 x10 x11 x12 x13 x14; obtain ⟨x0, x1, x2, x3, x4, x5, x6, x7, x8, x9, x10, x11, x12, x13, x14⟩ := HCL.out _ hcur)
              | (go_at_call 21; refine (HRI.out _ hcur).mono ?_; rintro e wz ⟨rfl, hbz⟩; replace hcur := b_tr hcur hbz; clear hbz; clear x0 x1 x2 x3 x4 x5 x6 x7 x8 x9 x10 x11 x12 x13 x14; obtain ⟨x0, x1, x2, x3, x4, x5, x6, x7, x8, x9, x10, x11, x12, x13, x14⟩ := HCL.out _ hcur)
              | (go_at_call 22; refine (HBT.out _ hcur).mono ?_; rintro e w' ⟨rfl, rfl⟩)
              | (go_at_call 50; refine (HWM.out _ hcur).mono ?_; rintro e wz ⟨rfl, hbz⟩; replace hcur := b_tr hcur hbz; clear hbz; clear x0 x1 x2 x3 x4 x5 x6 x7 x8 x9 x10 x11 x12 x13 x14; obtain ⟨x0, x1, x2, x3, x4, x5, x6, x7, x8, x9, x10, x11, x12, x13, x14⟩ := HCL.out _ hcur)
              | (go_at_call 51; refine (HNM.out _ hcur).mono ?_; rintro e wz ⟨rfl, hbz⟩; replace hcur := b_tr hcur hbz; clear hbz; clear x0 x1 x2 x3 x4 x5 x6 x7 x8 x9 x10 x11 x12 x13 x14; obtain ⟨x0, x1, x2, x3, x4, x5, x6, x7, x8, x9, x10, x11, x12, x13, x14⟩ := HCL.out _ hcur))
            all_goals (first | (rename_i _ _ h1 _; cases h1; done) | (go_meet; exact ⟨by rw [HZ.out]; first | done | rfl | (congr 1; simp; omega) | (simp; omega), hcur⟩))
          cases hvr : yes (riseOk I)
          · rw [hvr] at HRI
            have HZ := Lib.hid (HN1.out (fun h => yes_not.1 hvr (ids_parts.1 h.2.2.2.2.2.1).2.1))
            go_wp2_with (first
              | (go_at_call 47; refine (nums_any _ _ _).mono ?_; rintro e w' ⟨rfl, rfl⟩; (try rw [hvb]); (try rw [hvk]); (try rw [hvi]))
              | (go_at_call 48; refine (HSM.out _ hcur).mono ?_; rintro e wz ⟨rfl, hbz⟩; replace hcur := b_tr hcur hbz; clear hbz; clear x0 x1 x2 x3 x4 x5 x6 x7 x8 x9 x10 x11 x12 x13 x14; obtain ⟨x0, x1, x2, x3, x4, x5, x6, x7, x8, x9, x10, x11, x12, x13, x14⟩ := HCL.out _ hcur)
              | (go_at_call 49; refine (HOM.out _ hcur).mono ?_; rintro e wz ⟨rfl, hbz⟩; replace hcur := b_tr hcur hbz; clear hbz; clear x0 x1 x2 x3 x4 x5 x6 x7 x8 x9 x10 x11 x12 x13 x14; obtain ⟨x0, x1, x2, x3, x4, x5, x6, x7, x8, x9, x10, x11, x12, x13, x14⟩ := HCL.out _ hcur)
              | (go_at_call 21; refine (HRI.out _ hcur).mono ?_; rintro e wz ⟨rfl, hbz⟩; replace hcur := b_tr hcur hbz; clear hbz; clear x0 x1 x2 x3 x4 x5 x6 x7 x8 x9 x10 x11 x12 x13 x14; obtain ⟨x0, x1, x2, x3, x4, x5, x6, x7, x8, x9, x10, x11, x12, x13, x14⟩ := HCL.out _ hcur)
              | (go_at_call 22; refine (HBT.out _ hcur).mono ?_; rintro e w' ⟨rfl, rfl⟩)
              | (go_at_call 50; refine (HWM.out _ hcur).mono ?_; rintro e wz ⟨rfl, hbz⟩; replace hcur := b_tr hcur hbz; clear hbz; clear x0 x1 x2 x3 x4 x5 x6 x7 x8 x9 x10 x11 x12 x13 x14; obtain ⟨x0, x1, x2, x3, x4, x5, x6, x7, x8, x9, x10, x11, x12, x13, x14⟩ := HCL.out _ hcur)
              | (go_at_call 51; refine (HNM.out _ hcur).mono ?_; rintro e wz ⟨rfl, hbz⟩; replace hcur := b_tr hcur hbz; clear hbz; clear x0 x1 x2 x3 x4 x5 x6 x7 x8 x9 x10 x11 x12 x13 x14; obtain ⟨x0, x1, x2, x3, x4, x5, x6, x7, x8, x9, x10, x11, x12, x13, x14⟩ := HCL.out _ hcur))
            all_goals (first | (rename_i _ _ h1 _; cases h1; done) | (go_meet; exact ⟨by rw [HZ.out]; first | done | rfl | (congr 1; simp; omega) | (simp; omega), hcur⟩))
          rw [hvr] at HRI
          cases hvt : yes (betw I 1 65535)
          · rw [hvt] at HBT
            have HZ := Lib.hid (HN1.out (fun h => yes_not.1 hvt (ids_parts.1 h.2.2.2.2.2.1).2.2))
            go_wp2_with (first
              | (go_at_call 47; refine (nums_any _ _ _).mono ?_; rintro e w' ⟨rfl, rfl⟩; (try rw [hvb]); (try rw [hvk]); (try rw [hvi]))
              | (go_at_call 48; refine (HSM.out _ hcur).mono ?_; rintro e wz ⟨rfl, hbz⟩; replace hcur := b_tr hcur hbz; clear hbz; clear x0 x1 x2 x3 x4 x5 x6 x7 x8 x9 x10 x11 x12 x13 x14; obtain ⟨x0, x1, x2, x3, x4, x5, x6, x7, x8, x9, x10, x11, x12, x13, x14⟩ := HCL.out _ hcur)
              | (go_at_call 49; refine (HOM.out _ hcur).mono ?_; rintro e wz ⟨rfl, hbz⟩; replace hcur := b_tr hcur hbz; clear hbz; clear x0 x1 x2 x3 x4 x5 x6 x7 x8 x9 x10 x11 x12 x13 x14; obtain ⟨x0, x1, x2, x3, x4, x5, x6, x7, x8, x9, x10, x11, x12, x13, x14⟩ := HCL.out _ hcur)
              | (go_at_call 21; refine (HRI.out _ hcur).mono ?_; rintro e wz ⟨rfl, hbz⟩; replace hcur := b_tr hcur hbz; clear hbz; clear x0 x1 x2 x3 x4 x5 x6 x7 x8 x9 x10 x11 x12 x13 x14; obtain ⟨x0, x1, x2, x3, x4, x5, x6, x7, x8, x9, x10, x11, x12, x13, x14⟩ := HCL.out _ hcur)
              | (go_at_call 22; refine (HBT.out _ hcur).mono ?_; rintro e w' ⟨rfl, rfl⟩)
              | (go_at_call 50; refine (HWM.out _ hcur).mono ?_; rintro e wz ⟨rfl, hbz⟩; replace hcur := b_tr hcur hbz; clear hbz; clear x0 x1 x2 x3 x4 x5 x6 x7 x8 x9 x10 x11 x12 x13 x14; obtain ⟨x0, x1, x2, x3, x4, x5, x6, x7, x8, x9, x10, x11, x12, x13, x14⟩ := HCL.out _ hcur)
              | (go_at_call 51; refine (HNM.out _ hcur).mono ?_; rintro e wz ⟨rfl, hbz⟩; replace hcur := b_tr hcur hbz; clear hbz; clear x0 x1 x2 x3 x4 x5 x6 x7 x8 x9 x10 x11 x12 x13 x14; obtain ⟨x0, x1, x2, x3, x4, x5, x6, x7, x8, x9, x10, x11, x12, x13, x14⟩ := HCL.out _ hcur))
            all_goals (first | (rename_i _ _ h1 _; cases h1; done) | (go_meet; exact ⟨by rw [HZ.out]; first | done | rfl | (congr 1; simp; omega) | (simp; omega), hcur⟩))
          rw [hvt] at HBT
          cases hvw : yes (wlOk ⟨wi, wt, wp, wq, wr⟩)
          · rw [hvw] at HWM
            have HZ := Lib.hid (HN1.out (fun h => yes_not.1 hvw h.2.2.2.2.2.2.1))
            go_wp2_with (first
              | (go_at_call 47; refine (nums_any _ _ _).mono ?_; rintro e w' ⟨rfl, rfl⟩; (try rw [hvb]); (try rw [hvk]); (try rw [hvi]))
              | (go_at_call 48; refine (HSM.out _ hcur).mono ?_; rintro e wz ⟨rfl, hbz⟩; replace hcur := b_tr hcur hbz; clear hbz; clear x0 x1 x2 x3 x4 x5 x6 x7 x8 x9 x10 x11 x12 x13 x14; obtain ⟨x0, x1, x2, x3, x4, x5, x6, x7, x8, x9, x10, x11, x12, x13, x14⟩ := HCL.out _ hcur)
              | (go_at_call 49; refine (HOM.out _ hcur).mono ?_; rintro e wz ⟨rfl, hbz⟩; replace hcur := b_tr hcur hbz; clear hbz; clear x0 x1 x2 x3 x4 x5 x6 x7 x8 x9 x10 x11 x12 x13 x14; obtain ⟨x0, x1, x2, x3, x4, x5, x6, x7, x8, x9, x10, x11, x12, x13, x14⟩ := HCL.out _ hcur)
              | (go_at_call 21; refine (HRI.out _ hcur).mono ?_; rintro e wz ⟨rfl, hbz⟩; replace hcur := b_tr hcur hbz; clear hbz; clear x0 x1 x2 x3 x4 x5 x6 x7 x8 x9 x10 x11 x12 x13 x14; obtain ⟨x0, x1, x2, x3, x4, x5, x6, x7, x8, x9, x10, x11, x12, x13, x14⟩ := HCL.out _ hcur)
              | (go_at_call 22; refine (HBT.out _ hcur).mono ?_; rintro e w' ⟨rfl, rfl⟩)
              | (go_at_call 50; refine (HWM.out _ hcur).mono ?_; rintro e wz ⟨rfl, hbz⟩; replace hcur := b_tr hcur hbz; clear hbz; clear x0 x1 x2 x3 x4 x5 x6 x7 x8 x9 x10 x11 x12 x13 x14; obtain ⟨x0, x1, x2, x3, x4, x5, x6, x7, x8, x9, x10, x11, x12, x13, x14⟩ := HCL.out _ hcur)
              | (go_at_call 51; refine (HNM.out _ hcur).mono ?_; rintro e wz ⟨rfl, hbz⟩; replace hcur := b_tr hcur hbz; clear hbz; clear x0 x1 x2 x3 x4 x5 x6 x7 x8 x9 x10 x11 x12 x13 x14; obtain ⟨x0, x1, x2, x3, x4, x5, x6, x7, x8, x9, x10, x11, x12, x13, x14⟩ := HCL.out _ hcur))
            all_goals (first | (rename_i _ _ h1 _; cases h1; done) | (go_meet; exact ⟨by rw [HZ.out]; first | done | rfl | (congr 1; simp; omega) | (simp; omega), hcur⟩))
          rw [hvw] at HWM
          cases hvk : (decide (0 ≤ keep) && decide (keep ≤ 65535))
          · have HZ := Lib.hid (HN1.out (fun h => by have := h.2.2.2.2.2.2.2.1; simp at hvk; omega))
            go_wp2_with (first
              | (go_at_call 47; refine (nums_any _ _ _).mono ?_; rintro e w' ⟨rfl, rfl⟩; (try rw [hvb]); (try rw [hvk]); (try rw [hvi]))
              | (go_at_call 48; refine (HSM.out _ hcur).mono ?_; rintro e wz ⟨rfl, hbz⟩; replace hcur := b_tr hcur hbz; clear hbz; clear x0 x1 x2 x3 x4 x5 x6 x7 x8 x9 x10 x11 x12 x13 x14; obtain ⟨x0, x1, x2, x3, x4, x5, x6, x7, x8, x9, x10, x11, x12, x13, x14⟩ := HCL.out _ hcur)
              | (go_at_call 49; refine (HOM.out _ hcur).mono ?_; rintro e wz ⟨rfl, hbz⟩; replace hcur := b_tr hcur hbz; clear hbz; clear x0 x1 x2 x3 x4 x5 x6 x7 x8 x9 x10 x11 x12 x13 x14; obtain ⟨x0, x1, x2, x3, x4, x5, x6, x7, x8, x9, x10, x11, x12, x13, x14⟩ := HCL.out _ hcur)
              | (go_at_call 21; refine (HRI.out _ hcur).mono ?_; rintro e wz ⟨rfl, hbz⟩; replace hcur := b_tr hcur hbz; clear hbz; clear x0 x1 x2 x3 x4 x5 x6 x7 x8 x9 x10 x11 x12 x13 x14; obtain ⟨x0, x1, x2, x3, x4, x5, x6, x7, x8, x9, x10, x11, x12, x13, x14⟩ := HCL.out _ hcur)
              | (go_at_call 22; refine (HBT.out _ hcur).mono ?_; rintro e w' ⟨rfl, rfl⟩)
              | (go_at_call 50; refine (HWM.out _ hcur).mono ?_; rintro e wz ⟨rfl, hbz⟩; replace hcur := b_tr hcur hbz; clear hbz; clear x0 x1 x2 x3 x4 x5 x6 x7 x8 x9 x10 x11 x12 x13 x14; obtain ⟨x0, x1, x2, x3, x4, x5, x6, x7, x8, x9, x10, x11, x12, x13, x14⟩ := HCL.out _ hcur)
              | (go_at_call 51; refine (HNM.out _ hcur).mono ?_; rintro e wz ⟨rfl, hbz⟩; replace hcur := b_tr hcur hbz; clear hbz; clear x0 x1 x2 x3 x4 x5 x6 x7 x8 x9 x10 x11 x12 x13 x14; obtain ⟨x0, x1, x2, x3, x4, x5, x6, x7, x8, x9, x10, x11, x12, x13, x14⟩ := HCL.out _ hcur))
            all_goals (first | (rename_i _ _ h1 _; cases h1; done) | (go_meet; exact ⟨by rw [HZ.out]; first | done | rfl | (congr 1; simp; omega) | (simp; omega), hcur⟩))
          cases hvi : (decide (0 ≤ idle) && decide (idle ≤ 1048576))
          · have HZ := Lib.hid (HN1.out (fun h => by have := h.2.2.2.2.2.2.2.2; simp at hvi; omega))
            go_wp2_with (first
              | (go_at_call 47; refine (nums_any _ _ _).mono ?_; rintro e w' ⟨rfl, rfl⟩; (try rw [hvb]); (try rw [hvk]); (try rw [hvi]))
              | (go_at_call 48; refine (HSM.out _ hcur).mono ?_; rintro e wz ⟨rfl, hbz⟩; replace hcur := b_tr hcur hbz; clear hbz; clear x0 x1 x2 x3 x4 x5 x6 x7 x8 x9 x10 x11 x12 x13 x14; obtain ⟨x0, x1, x2, x3, x4, x5, x6, x7, x8, x9, x10, x11, x12, x13, x14⟩ := HCL.out _ hcur)
              | (go_at_call 49; refine (HOM.out _ hcur).mono ?_; rintro e wz ⟨rfl, hbz⟩; replace hcur := b_tr hcur hbz; clear hbz; clear x0 x1 x2 x3 x4 x5 x6 x7 x8 x9 x10 x11 x12 x13 x14; obtain ⟨x0, x1, x2, x3, x4, x5, x6, x7, x8, x9, x10, x11, x12, x13, x14⟩ := HCL.out _ hcur)
              | (go_at_call 21; refine (HRI.out _ hcur).mono ?_; rintro e wz ⟨rfl, hbz⟩; replace hcur := b_tr hcur hbz; clear hbz; clear x0 x1 x2 x3 x4 x5 x6 x7 x8 x9 x10 x11 x12 x13 x14; obtain ⟨x0, x1, x2, x3, x4, x5, x6, x7, x8, x9, x10, x11, x12, x13, x14⟩ := HCL.out _ hcur)
              | (go_at_call 22; refine (HBT.out _ hcur).mono ?_; rintro e w' ⟨rfl, rfl⟩)
              | (go_at_call 50; refine (HWM.out _ hcur).mono ?_; rintro e wz ⟨rfl, hbz⟩; replace hcur := b_tr hcur hbz; clear hbz; clear x0 x1 x2 x3 x4 x5 x6 x7 x8 x9 x10 x11 x12 x13 x14; obtain ⟨x0, x1, x2, x3, x4, x5, x6, x7, x8, x9, x10, x11, x12, x13, x14⟩ := HCL.out _ hcur)
              | (go_at_call 51; refine (HNM.out _ hcur).mono ?_; rintro e wz ⟨rfl, hbz⟩; replace hcur := b_tr hcur hbz; clear hbz; clear x0 x1 x2 x3 x4 x5 x6 x7 x8 x9 x10 x11 x12 x13 x14; obtain ⟨x0, x1, x2, x3, x4, x5, x6, x7, x8, x9, x10, x11, x12, x13, x14⟩ := HCL.out _ hcur))
            all_goals (first | (rename_i _ _ h1 _; cases h1; done) | (go_meet; exact ⟨by rw [HZ.out]; first | done | rfl | (congr 1; simp; omega) | (simp; omega), hcur⟩))
          have hki : (0 ≤ keep ∧ keep ≤ 65535) ∧ (0 ≤ idle ∧ idle ≤ 1048576) := by simp at hvk hvi; omega
          have HY := Lib.hid (HY1.out ⟨HC1.out.1, HC1.out.2, HCLL.out, hvd, yes_iff.1 hve, ids_parts.2 ⟨by omega, yes_iff.1 hvr, yes_iff.1 hvt⟩, yes_iff.1 hvw, hki.1, hki.2⟩)
          clear hvd hve hvr hvt hvw hki
          have HZ := Lib.hid HY.out
          go_wp2_with (first
            | (go_at_call 47; refine (nums_any _ _ _).mono ?_; rintro e w' ⟨rfl, rfl⟩; (try rw [hvb]); (try rw [hvk]); (try rw [hvi]))
            | (go_at_call 48; refine (HSM.out _ hcur).mono ?_; rintro e wz ⟨rfl, hbz⟩; replace hcur := b_tr hcur hbz; clear hbz; clear x0 x1 x2 x3 x4 x5 x6 x7 x8 x9 x10 x11 x12 x13 x14; obtain ⟨x0, x1, x2, x3, x4, x5, x6, x7, x8, x9, x10, x11, x12, x13, x14⟩ := HCL.out _ hcur)
            | (go_at_call 49; refine (HOM.out _ hcur).mono ?_; rintro e wz ⟨rfl, hbz⟩; replace hcur := b_tr hcur hbz; clear hbz; clear x0 x1 x2 x3 x4 x5 x6 x7 x8 x9 x10 x11 x12 x13 x14; obtain ⟨x0, x1, x2, x3, x4, x5, x6, x7, x8, x9, x10, x11, x12, x13, x14⟩ := HCL.out _ hcur)
            | (go_at_call 21; refine (HRI.out _ hcur).mono ?_; rintro e wz ⟨rfl, hbz⟩; replace hcur := b_tr hcur hbz; clear hbz; clear x0 x1 x2 x3 x4 x5 x6 x7 x8 x9 x10 x11 x12 x13 x14; obtain ⟨x0, x1, x2, x3, x4, x5, x6, x7, x8, x9, x10, x11, x12, x13, x14⟩ := HCL.out _ hcur)
            | (go_at_call 22; refine (HBT.out _ hcur).mono ?_; rintro e w' ⟨rfl, rfl⟩)
            | (go_at_call 50; refine (HWM.out _ hcur).mono ?_; rintro e wz ⟨rfl, hbz⟩; replace hcur := b_tr hcur hbz; clear hbz; clear x0 x1 x2 x3 x4 x5 x6 x7 x8 x9 x10 x11 x12 x13 x14; obtain ⟨x0, x1, x2, x3, x4, x5, x6, x7, x8, x9, x10, x11, x12, x13, x14⟩ := HCL.out _ hcur)
            | (go_at_call 51; refine (HNM.out _ hcur).mono ?_; rintro e wz ⟨rfl, hbz⟩; replace hcur := b_tr hcur hbz; clear hbz; clear x0 x1 x2 x3 x4 x5 x6 x7 x8 x9 x10 x11 x12 x13 x14; obtain ⟨x0, x1, x2, x3, x4, x5, x6, x7, x8, x9, x10, x11, x12, x13, x14⟩ := HCL.out _ hcur))
          all_goals (first | (rename_i _ _ h1 _; cases h1; done) | (go_meet; exact ⟨by rw [HZ.out]; first | done | rfl | (congr 1; simp; omega) | (simp; omega), hcur⟩))
  case rest =>
    obtain ⟨rfl, hcut⟩ := hcut
    clear hcur x0 x1 x2 x3 x4 x5 x6 x7 x8 x9 x10 x11 x12 x13 x14 HSM HOM HRI HBT HWM HN1 HY1
    have hcur := hcut
    clear hcut
    obtain ⟨x0, x1, x2, x3, x4, x5, x6, x7, x8, x9, x10, x11, x12, x13, x14⟩ := HCL.out _ hcur
    cases z1
    case true =>
      have HR := Lib.hid (HNO.out (fun h => by
              have h1 := HZ1.out
              rw [yes_true (show R1 by rw [HR1.out]; exact ⟨h.1, h.2.1, h.2.2.1, h.2.2.2.1, h.2.2.2.2.1, h.2.2.2.2.2.1, h.2.2.2.2.2.2.1, h.2.2.2.2.2.2.2.2.1, h.2.2.2.2.2.2.2.2.2.1⟩)] at h1
              cases h1))
      go_wp2_with (first
        | (go_at_call 47; refine (nums_any _ _ _).mono ?_; rintro e w' ⟨rfl, rfl⟩; (try rw [hvb]); (try rw [hvk]); (try rw [hvi]))
        | (go_at_call 48; refine (HSM.out _ hcur).mono ?_; rintro e wz ⟨rfl, hbz⟩; replace hcur := b_tr hcur hbz; clear hbz; clear x0 x1 x2 x3 x4 x5 x6 x7 x8 x9 x10 x11 x12 x13 x14; obtain ⟨x0, x1, x2, x3, x4, x5, x6, x7, x8, x9, x10, x11, x12, x13, x14⟩ := HCL.out _ hcur)
        | (go_at_call 49; refine (HOM.out _ hcur).mono ?_; rintro e wz ⟨rfl, hbz⟩; replace hcur := b_tr hcur hbz; clear hbz; clear x0 x1 x2 x3 x4 x5 x6 x7 x8 x9 x10 x11 x12 x13 x14; obtain ⟨x0, x1, x2, x3, x4, x5, x6, x7, x8, x9, x10, x11, x12, x13, x14⟩ := HCL.out _ hcur)
        | (go_at_call 21; refine (HRI.out _ hcur).mono ?_; rintro e wz ⟨rfl, hbz⟩; replace hcur := b_tr hcur hbz; clear hbz; clear x0 x1 x2 x3 x4 x5 x6 x7 x8 x9 x10 x11 x12 x13 x14; obtain ⟨x0, x1, x2, x3, x4, x5, x6, x7, x8, x9, x10, x11, x12, x13, x14⟩ := HCL.out _ hcur)
        | (go_at_call 22; refine (HBT.out _ hcur).mono ?_; rintro e w' ⟨rfl, rfl⟩)
        | (go_at_call 50; refine (HWM.out _ hcur).mono ?_; rintro e wz ⟨rfl, hbz⟩; replace hcur := b_tr hcur hbz; clear hbz; clear x0 x1 x2 x3 x4 x5 x6 x7 x8 x9 x10 x11 x12 x13 x14; obtain ⟨x0, x1, x2, x3, x4, x5, x6, x7, x8, x9, x10, x11, x12, x13, x14⟩ := HCL.out _ hcur)
        | (go_at_call 51; refine (HNM.out _ hcur).mono ?_; rintro e wz ⟨rfl, hbz⟩; replace hcur := b_tr hcur hbz; clear hbz; clear x0 x1 x2 x3 x4 x5 x6 x7 x8 x9 x10 x11 x12 x13 x14; obtain ⟨x0, x1, x2, x3, x4, x5, x6, x7, x8, x9, x10, x11, x12, x13, x14⟩ := HCL.out _ hcur))
      all_goals (first | (rename_i _ _ h1 _; cases h1; done) | (go_ret; exact ⟨by rw [HR.out]; rfl, b_tr HB0.out hcur⟩))
    case false =>
      have hr1 : R1 := by
        have h1 := HZ1.out
        cases hy : yes R1
        · rw [hy] at h1; cases h1
        · exact yes_iff.1 hy
      rw [HR1.out] at hr1
      have HRR := Lib.hid hr1
      clear hr1
      have HALL : Hid ((wi = true → ln ≠ 0 ∧ nm wt = true) → (0 < ln ∨ keep = 0 ∧ idle = 0) → yes (sesOk ⟨c, cl, ln, S, ⟨last, F, Q⟩, I, ⟨wi, wt, wp, wq, wr⟩, keep, idle⟩) = true) := Lib.hid (fun h1 h2 => HYES.out ⟨HRR.out.1, HRR.out.2.1, HRR.out.2.2.1, HRR.out.2.2.2.1, HRR.out.2.2.2.2.1, HRR.out.2.2.2.2.2.1, HRR.out.2.2.2.2.2.2.1, h1, HRR.out.2.2.2.2.2.2.2.1, HRR.out.2.2.2.2.2.2.2.2, h2⟩)
      have HNOT : Hid (¬ (0 < ln ∨ keep = 0 ∧ idle = 0) → yes (sesOk ⟨c, cl, ln, S, ⟨last, F, Q⟩, I, ⟨wi, wt, wp, wq, wr⟩, keep, idle⟩) = false) := Lib.hid (fun h => HNO.out (fun h2 => h h2.2.2.2.2.2.2.2.2.2.2))
      have HNOW : Hid (¬ (wi = true → ln ≠ 0 ∧ nm wt = true) → yes (sesOk ⟨c, cl, ln, S, ⟨last, F, Q⟩, I, ⟨wi, wt, wp, wq, wr⟩, keep, idle⟩) = false) := Lib.hid (fun h => HNO.out (fun h2 => h h2.2.2.2.2.2.2.2.1))
      have hl0 : 0 ≤ ln := HRR.out.2.1.1
      cases wi
      · by_cases h5 : ln = 0
        · have h5' : (ln != 0) = false := by rw [h5]; rfl
          have HL5 := Lib.hid h5
          clear h5 hl0
          by_cases h6 : keep = 0
          · have h6' : (keep == 0) = true := beq_iff_eq.2 h6
            by_cases h7 : idle = 0
            · have h7' : (idle == 0) = true := beq_iff_eq.2 h7
              have HX := Lib.hid (HALL.out (fun h => by cases h) (.inr ⟨h6, h7⟩))
              clear h6 h7
              have HR := Lib.hid HX.out
              go_wp2_with (first
                | (go_at_call 47; refine (nums_any _ _ _).mono ?_; rintro e w' ⟨rfl, rfl⟩; (try rw [hvb]); (try rw [hvk]); (try rw [hvi]))
                | (go_at_call 48; refine (HSM.out _ hcur).mono ?_; rintro e wz ⟨rfl, hbz⟩; replace hcur := b_tr hcur hbz; clear hbz; clear x0 x1 x2 x3 x4 x5 x6 x7 x8 x9 x10 x11 x12 x13 x14; obtain ⟨x0, x1, x2, x3, x4, x5, x6, x7, x8, x9, x10, x11, x12, x13, x14⟩ := HCL.out _ hcur)
                | (go_at_call 49; refine (HOM.out _ hcur).mono ?_; rintro e wz ⟨rfl, hbz⟩; replace hcur := b_tr hcur hbz; clear hbz; clear x0 x1 x2 x3 x4 x5 x6 x7 x8 x9 x10 x11 x12 x13 x14; obtain ⟨x0, x1, x2, x3, x4, x5, x6, x7, x8, x9, x10, x11, x12, x13, x14⟩ := HCL.out _ hcur)
                | (go_at_call 21; refine (HRI.out _ hcur).mono ?_; rintro e wz ⟨rfl, hbz⟩; replace hcur := b_tr hcur hbz; clear hbz; clear x0 x1 x2 x3 x4 x5 x6 x7 x8 x9 x10 x11 x12 x13 x14; obtain ⟨x0, x1, x2, x3, x4, x5, x6, x7, x8, x9, x10, x11, x12, x13, x14⟩ := HCL.out _ hcur)
                | (go_at_call 22; refine (HBT.out _ hcur).mono ?_; rintro e w' ⟨rfl, rfl⟩)
                | (go_at_call 50; refine (HWM.out _ hcur).mono ?_; rintro e wz ⟨rfl, hbz⟩; replace hcur := b_tr hcur hbz; clear hbz; clear x0 x1 x2 x3 x4 x5 x6 x7 x8 x9 x10 x11 x12 x13 x14; obtain ⟨x0, x1, x2, x3, x4, x5, x6, x7, x8, x9, x10, x11, x12, x13, x14⟩ := HCL.out _ hcur)
                | (go_at_call 51; refine (HNM.out _ hcur).mono ?_; rintro e wz ⟨rfl, hbz⟩; replace hcur := b_tr hcur hbz; clear hbz; clear x0 x1 x2 x3 x4 x5 x6 x7 x8 x9 x10 x11 x12 x13 x14; obtain ⟨x0, x1, x2, x3, x4, x5, x6, x7, x8, x9, x10, x11, x12, x13, x14⟩ := HCL.out _ hcur))
              all_goals (first | (rename_i _ _ h1 _; cases h1; done) | (go_ret; exact ⟨by rw [HR.out]; rfl, b_tr HB0.out hcur⟩))
            · have h7' : (idle == 0) = false := beq_eq_false_iff_ne.2 h7
              have HX := Lib.hid (HNOT.out (fun h => h.elim (fun h => by have := HL5.out; omega) (fun h => h7 h.2)))
              clear h6 h7
              have HR := Lib.hid HX.out
              go_wp2_with (first
                | (go_at_call 47; refine (nums_any _ _ _).mono ?_; rintro e w' ⟨rfl, rfl⟩; (try rw [hvb]); (try rw [hvk]); (try rw [hvi]))
                | (go_at_call 48; refine (HSM.out _ hcur).mono ?_; rintro e wz ⟨rfl, hbz⟩; replace hcur := b_tr hcur hbz; clear hbz; clear x0 x1 x2 x3 x4 x5 x6 x7 x8 x9 x10 x11 x12 x13 x14; obtain ⟨x0, x1, x2, x3, x4, x5, x6, x7, x8, x9, x10, x11, x12, x13, x14⟩ := HCL.out _ hcur)
                | (go_at_call 49; refine (HOM.out _ hcur).mono ?_; rintro e wz ⟨rfl, hbz⟩; replace hcur := b_tr hcur hbz; clear hbz; clear x0 x1 x2 x3 x4 x5 x6 x7 x8 x9 x10 x11 x12 x13 x14; obtain ⟨x0, x1, x2, x3, x4, x5, x6, x7, x8, x9, x10, x11, x12, x13, x14⟩ := HCL.out _ hcur)
                | (go_at_call 21; refine (HRI.out _ hcur).mono ?_; rintro e wz ⟨rfl, hbz⟩; replace hcur := b_tr hcur hbz; clear hbz; clear x0 x1 x2 x3 x4 x5 x6 x7 x8 x9 x10 x11 x12 x13 x14; obtain ⟨x0, x1, x2, x3, x4, x5, x6, x7, x8, x9, x10, x11, x12, x13, x14⟩ := HCL.out _ hcur)
                | (go_at_call 22; refine (HBT.out _ hcur).mono ?_; rintro e w' ⟨rfl, rfl⟩)
                | (go_at_call 50; refine (HWM.out _ hcur).mono ?_; rintro e wz ⟨rfl, hbz⟩; replace hcur := b_tr hcur hbz; clear hbz; clear x0 x1 x2 x3 x4 x5 x6 x7 x8 x9 x10 x11 x12 x13 x14; obtain ⟨x0, x1, x2, x3, x4, x5, x6, x7, x8, x9, x10, x11, x12, x13, x14⟩ := HCL.out _ hcur)
                | (go_at_call 51; refine (HNM.out _ hcur).mono ?_; rintro e wz ⟨rfl, hbz⟩; replace hcur := b_tr hcur hbz; clear hbz; clear x0 x1 x2 x3 x4 x5 x6 x7 x8 x9 x10 x11 x12 x13 x14; obtain ⟨x0, x1, x2, x3, x4, x5, x6, x7, x8, x9, x10, x11, x12, x13, x14⟩ := HCL.out _ hcur))
              all_goals (first | (rename_i _ _ h1 _; cases h1; done) | (go_ret; exact ⟨by rw [HR.out]; rfl, b_tr HB0.out hcur⟩))
          · have h6' : (keep == 0) = false := beq_eq_false_iff_ne.2 h6
            have HX := Lib.hid (HNOT.out (fun h => h.elim (fun h => by have := HL5.out; omega) (fun h => h6 h.1)))
            clear h6
            have HR := Lib.hid HX.out
            go_wp2_with (first
              | (go_at_call 47; refine (nums_any _ _ _).mono ?_; rintro e w' ⟨rfl, rfl⟩; (try rw [hvb]); (try rw [hvk]); (try rw [hvi]))
              | (go_at_call 48; refine (HSM.out _ hcur).mono ?_; rintro e wz ⟨rfl, hbz⟩; replace hcur := b_tr hcur hbz; clear hbz; clear x0 x1 x2 x3 x4 x5 x6 x7 x8 x9 x10 x11 x12 x13 x14; obtain ⟨x0, x1, x2, x3, x4, x5, x6, x7, x8, x9, x10, x11, x12, x13, x14⟩ := HCL.out _ hcur)
              | (go_at_call 49; refine (HOM.out _ hcur).mono ?_; rintro e wz ⟨rfl, hbz⟩; replace hcur := b_tr hcur hbz; clear hbz; clear x0 x1 x2 x3 x4 x5 x6 x7 x8 x9 x10 x11 x12 x13 x14; obtain ⟨x0, x1, x2, x3, x4, x5, x6, x7, x8, x9, x10, x11, x12, x13, x14⟩ := HCL.out _ hcur)
              | (go_at_call 21; refine (HRI.out _ hcur).mono ?_; rintro e wz ⟨rfl, hbz⟩; replace hcur := b_tr hcur hbz; clear hbz; clear x0 x1 x2 x3 x4 x5 x6 x7 x8 x9 x10 x11 x12 x13 x14; obtain ⟨x0, x1, x2, x3, x4, x5, x6, x7, x8, x9, x10, x11, x12, x13, x14⟩ := HCL.out _ hcur)
              | (go_at_call 22; refine (HBT.out _ hcur).mono ?_; rintro e w' ⟨rfl, rfl⟩)
              | (go_at_call 50; refine (HWM.out _ hcur).mono ?_; rintro e wz ⟨rfl, hbz⟩; replace hcur := b_tr hcur hbz; clear hbz; clear x0 x1 x2 x3 x4 x5 x6 x7 x8 x9 x10 x11 x12 x13 x14; obtain ⟨x0, x1, x2, x3, x4, x5, x6, x7, x8, x9, x10, x11, x12, x13, x14⟩ := HCL.out _ hcur)
              | (go_at_call 51; refine (HNM.out _ hcur).mono ?_; rintro e wz ⟨rfl, hbz⟩; replace hcur := b_tr hcur hbz; clear hbz; clear x0 x1 x2 x3 x4 x5 x6 x7 x8 x9 x10 x11 x12 x13 x14; obtain ⟨x0, x1, x2, x3, x4, x5, x6, x7, x8, x9, x10, x11, x12, x13, x14⟩ := HCL.out _ hcur))
            all_goals (first | (rename_i _ _ h1 _; cases h1; done) | (go_ret; exact ⟨by rw [HR.out]; rfl, b_tr HB0.out hcur⟩))
        · have h5' : (ln != 0) = true := bne_iff_ne.2 h5
          have HX := Lib.hid (HALL.out (fun h => by cases h) (.inl (by omega)))
          clear h5 hl0
          have HR := Lib.hid HX.out
          go_wp2_with (first
            | (go_at_call 47; refine (nums_any _ _ _).mono ?_; rintro e w' ⟨rfl, rfl⟩; (try rw [hvb]); (try rw [hvk]); (try rw [hvi]))
            | (go_at_call 48; refine (HSM.out _ hcur).mono ?_; rintro e wz ⟨rfl, hbz⟩; replace hcur := b_tr hcur hbz; clear hbz; clear x0 x1 x2 x3 x4 x5 x6 x7 x8 x9 x10 x11 x12 x13 x14; obtain ⟨x0, x1, x2, x3, x4, x5, x6, x7, x8, x9, x10, x11, x12, x13, x14⟩ := HCL.out _ hcur)
            | (go_at_call 49; refine (HOM.out _ hcur).mono ?_; rintro e wz ⟨rfl, hbz⟩; replace hcur := b_tr hcur hbz; clear hbz; clear x0 x1 x2 x3 x4 x5 x6 x7 x8 x9 x10 x11 x12 x13 x14; obtain ⟨x0, x1, x2, x3, x4, x5, x6, x7, x8, x9, x10, x11, x12, x13, x14⟩ := HCL.out _ hcur)
            | (go_at_call 21; refine (HRI.out _ hcur).mono ?_; rintro e wz ⟨rfl, hbz⟩; replace hcur := b_tr hcur hbz; clear hbz; clear x0 x1 x2 x3 x4 x5 x6 x7 x8 x9 x10 x11 x12 x13 x14; obtain ⟨x0, x1, x2, x3, x4, x5, x6, x7, x8, x9, x10, x11, x12, x13, x14⟩ := HCL.out _ hcur)
            | (go_at_call 22; refine (HBT.out _ hcur).mono ?_; rintro e w' ⟨rfl, rfl⟩)
            | (go_at_call 50; refine (HWM.out _ hcur).mono ?_; rintro e wz ⟨rfl, hbz⟩; replace hcur := b_tr hcur hbz; clear hbz; clear x0 x1 x2 x3 x4 x5 x6 x7 x8 x9 x10 x11 x12 x13 x14; obtain ⟨x0, x1, x2, x3, x4, x5, x6, x7, x8, x9, x10, x11, x12, x13, x14⟩ := HCL.out _ hcur)
            | (go_at_call 51; refine (HNM.out _ hcur).mono ?_; rintro e wz ⟨rfl, hbz⟩; replace hcur := b_tr hcur hbz; clear hbz; clear x0 x1 x2 x3 x4 x5 x6 x7 x8 x9 x10 x11 x12 x13 x14; obtain ⟨x0, x1, x2, x3, x4, x5, x6, x7, x8, x9, x10, x11, x12, x13, x14⟩ := HCL.out _ hcur))
          all_goals (first | (rename_i _ _ h1 _; cases h1; done) | (go_ret; exact ⟨by rw [HR.out]; rfl, b_tr HB0.out hcur⟩))
      · cases hnm : nm wt
        · rw [hnm] at HNM
          have HX := Lib.hid (HNOW.out (fun h => by have := (h rfl).2; rw [hnm] at this; cases this))
          clear hnm hl0
          have HR := Lib.hid HX.out
          go_wp2_with (first
            | (go_at_call 47; refine (nums_any _ _ _).mono ?_; rintro e w' ⟨rfl, rfl⟩; (try rw [hvb]); (try rw [hvk]); (try rw [hvi]))
            | (go_at_call 48; refine (HSM.out _ hcur).mono ?_; rintro e wz ⟨rfl, hbz⟩; replace hcur := b_tr hcur hbz; clear hbz; clear x0 x1 x2 x3 x4 x5 x6 x7 x8 x9 x10 x11 x12 x13 x14; obtain ⟨x0, x1, x2, x3, x4, x5, x6, x7, x8, x9, x10, x11, x12, x13, x14⟩ := HCL.out _ hcur)
            | (go_at_call 49; refine (HOM.out _ hcur).mono ?_; rintro e wz ⟨rfl, hbz⟩; replace hcur := b_tr hcur hbz; clear hbz; clear x0 x1 x2 x3 x4 x5 x6 x7 x8 x9 x10 x11 x12 x13 x14; obtain ⟨x0, x1, x2, x3, x4, x5, x6, x7, x8, x9, x10, x11, x12, x13, x14⟩ := HCL.out _ hcur)
            | (go_at_call 21; refine (HRI.out _ hcur).mono ?_; rintro e wz ⟨rfl, hbz⟩; replace hcur := b_tr hcur hbz; clear hbz; clear x0 x1 x2 x3 x4 x5 x6 x7 x8 x9 x10 x11 x12 x13 x14; obtain ⟨x0, x1, x2, x3, x4, x5, x6, x7, x8, x9, x10, x11, x12, x13, x14⟩ := HCL.out _ hcur)
            | (go_at_call 22; refine (HBT.out _ hcur).mono ?_; rintro e w' ⟨rfl, rfl⟩)
            | (go_at_call 50; refine (HWM.out _ hcur).mono ?_; rintro e wz ⟨rfl, hbz⟩; replace hcur := b_tr hcur hbz; clear hbz; clear x0 x1 x2 x3 x4 x5 x6 x7 x8 x9 x10 x11 x12 x13 x14; obtain ⟨x0, x1, x2, x3, x4, x5, x6, x7, x8, x9, x10, x11, x12, x13, x14⟩ := HCL.out _ hcur)
            | (go_at_call 51; refine (HNM.out _ hcur).mono ?_; rintro e wz ⟨rfl, hbz⟩; replace hcur := b_tr hcur hbz; clear hbz; clear x0 x1 x2 x3 x4 x5 x6 x7 x8 x9 x10 x11 x12 x13 x14; obtain ⟨x0, x1, x2, x3, x4, x5, x6, x7, x8, x9, x10, x11, x12, x13, x14⟩ := HCL.out _ hcur))
          all_goals (first | (rename_i _ _ h1 _; cases h1; done) | (go_ret; exact ⟨by rw [HR.out]; rfl, b_tr HB0.out hcur⟩))
        · rw [hnm] at HNM
          by_cases h5 : ln = 0
          · have h5' : (ln != 0) = false := by rw [h5]; rfl
            have HX := Lib.hid (HNOW.out (fun h => (h rfl).1 h5))
            clear h5 hnm hl0
            have HR := Lib.hid HX.out
            go_wp2_with (first
              | (go_at_call 47; refine (nums_any _ _ _).mono ?_; rintro e w' ⟨rfl, rfl⟩; (try rw [hvb]); (try rw [hvk]); (try rw [hvi]))
              | (go_at_call 48; refine (HSM.out _ hcur).mono ?_; rintro e wz ⟨rfl, hbz⟩; replace hcur := b_tr hcur hbz; clear hbz; clear x0 x1 x2 x3 x4 x5 x6 x7 x8 x9 x10 x11 x12 x13 x14; obtain ⟨x0, x1, x2, x3, x4, x5, x6, x7, x8, x9, x10, x11, x12, x13, x14⟩ := HCL.out _ hcur)
              | (go_at_call 49; refine (HOM.out _ hcur).mono ?_; rintro e wz ⟨rfl, hbz⟩; replace hcur := b_tr hcur hbz; clear hbz; clear x0 x1 x2 x3 x4 x5 x6 x7 x8 x9 x10 x11 x12 x13 x14; obtain ⟨x0, x1, x2, x3, x4, x5, x6, x7, x8, x9, x10, x11, x12, x13, x14⟩ := HCL.out _ hcur)
              | (go_at_call 21; refine (HRI.out _ hcur).mono ?_; rintro e wz ⟨rfl, hbz⟩; replace hcur := b_tr hcur hbz; clear hbz; clear x0 x1 x2 x3 x4 x5 x6 x7 x8 x9 x10 x11 x12 x13 x14; obtain ⟨x0, x1, x2, x3, x4, x5, x6, x7, x8, x9, x10, x11, x12, x13, x14⟩ := HCL.out _ hcur)
              | (go_at_call 22; refine (HBT.out _ hcur).mono ?_; rintro e w' ⟨rfl, rfl⟩)
              | (go_at_call 50; refine (HWM.out _ hcur).mono ?_; rintro e wz ⟨rfl, hbz⟩; replace hcur := b_tr hcur hbz; clear hbz; clear x0 x1 x2 x3 x4 x5 x6 x7 x8 x9 x10 x11 x12 x13 x14; obtain ⟨x0, x1, x2, x3, x4, x5, x6, x7, x8, x9, x10, x11, x12, x13, x14⟩ := HCL.out _ hcur)
              | (go_at_call 51; refine (HNM.out _ hcur).mono ?_; rintro e wz ⟨rfl, hbz⟩; replace hcur := b_tr hcur hbz; clear hbz; clear x0 x1 x2 x3 x4 x5 x6 x7 x8 x9 x10 x11 x12 x13 x14; obtain ⟨x0, x1, x2, x3, x4, x5, x6, x7, x8, x9, x10, x11, x12, x13, x14⟩ := HCL.out _ hcur))
            all_goals (first | (rename_i _ _ h1 _; cases h1; done) | (go_ret; exact ⟨by rw [HR.out]; rfl, b_tr HB0.out hcur⟩))
          · have h5' : (ln != 0) = true := bne_iff_ne.2 h5
            have HX := Lib.hid (HALL.out (fun _ => ⟨h5, hnm⟩) (.inl (by omega)))
            clear h5 hnm hl0
            have HR := Lib.hid HX.out
            go_wp2_with (first
              | (go_at_call 47; refine (nums_any _ _ _).mono ?_; rintro e w' ⟨rfl, rfl⟩; (try rw [hvb]); (try rw [hvk]); (try rw [hvi]))
              | (go_at_call 48; refine (HSM.out _ hcur).mono ?_; rintro e wz ⟨rfl, hbz⟩; replace hcur := b_tr hcur hbz; clear hbz; clear x0 x1 x2 x3 x4 x5 x6 x7 x8 x9 x10 x11 x12 x13 x14; obtain ⟨x0, x1, x2, x3, x4, x5, x6, x7, x8, x9, x10, x11, x12, x13, x14⟩ := HCL.out _ hcur)
              | (go_at_call 49; refine (HOM.out _ hcur).mono ?_; rintro e wz ⟨rfl, hbz⟩; replace hcur := b_tr hcur hbz; clear hbz; clear x0 x1 x2 x3 x4 x5 x6 x7 x8 x9 x10 x11 x12 x13 x14; obtain ⟨x0, x1, x2, x3, x4, x5, x6, x7, x8, x9, x10, x11, x12, x13, x14⟩ := HCL.out _ hcur)
              | (go_at_call 21; refine (HRI.out _ hcur).mono ?_; rintro e wz ⟨rfl, hbz⟩; replace hcur := b_tr hcur hbz; clear hbz; clear x0 x1 x2 x3 x4 x5 x6 x7 x8 x9 x10 x11 x12 x13 x14; obtain ⟨x0, x1, x2, x3, x4, x5, x6, x7, x8, x9, x10, x11, x12, x13, x14⟩ := HCL.out _ hcur)
              | (go_at_call 22; refine (HBT.out _ hcur).mono ?_; rintro e w' ⟨rfl, rfl⟩)
              | (go_at_call 50; refine (HWM.out _ hcur).mono ?_; rintro e wz ⟨rfl, hbz⟩; replace hcur := b_tr hcur hbz; clear hbz; clear x0 x1 x2 x3 x4 x5 x6 x7 x8 x9 x10 x11 x12 x13 x14; obtain ⟨x0, x1, x2, x3, x4, x5, x6, x7, x8, x9, x10, x11, x12, x13, x14⟩ := HCL.out _ hcur)
              | (go_at_call 51; refine (HNM.out _ hcur).mono ?_; rintro e wz ⟨rfl, hbz⟩; replace hcur := b_tr hcur hbz; clear hbz; clear x0 x1 x2 x3 x4 x5 x6 x7 x8 x9 x10 x11 x12 x13 x14; obtain ⟨x0, x1, x2, x3, x4, x5, x6, x7, x8, x9, x10, x11, x12, x13, x14⟩ := HCL.out _ hcur))
            all_goals (first | (rename_i _ _ h1 _; cases h1; done) | (go_ret; exact ⟨by rw [HR.out]; rfl, b_tr HB0.out hcur⟩))
end Go.Proofs.YtknnaeejkmlnbaaGreatDoor
