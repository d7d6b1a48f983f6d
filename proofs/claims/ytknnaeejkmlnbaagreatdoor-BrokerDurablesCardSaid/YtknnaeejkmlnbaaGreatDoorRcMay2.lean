/- A session may be: of any. -/

import Derived.Test.YtknnaeejkmlnbaaGreatDoorRcMay1
import Derived.Test.YtknnaeejkmlnbaaGreatDoorObMayA
import Derived.Test.YtknnaeejkmlnbaaGreatDoorSbMay
import Derived.Test.YtknnaeejkmlnbaaGreatDoorGc
namespace Go.Proofs.YtknnaeejkmlnbaaGreatDoor
open Go.RowKit Go.Shelf Go.Proofs
/-- A session may be. -/
def sesOk (s : Se) : Prop := (1 ≤ s.c.size ∧ s.c.size ≤ 46) ∧ (0 ≤ s.ln ∧ s.ln ≤ 1099511627776) ∧ ¬ (s.cl = true ∧ s.ln = 0) ∧ subsB s.S = true ∧ okO s.o ∧ idsOk s.I ∧ wlOk s.wl ∧ (s.wl.is = true → s.ln ≠ 0 ∧ nm s.wl.t = true) ∧ (0 ≤ s.keep ∧ s.keep ≤ 65535) ∧ (0 ≤ s.idle ∧ s.idle ≤ 1048576) ∧ (0 < s.ln ∨ s.keep = 0 ∧ s.idle = 0)
/-- Nothing is too long to be looked at. -/
structure ShS (y : Se) : Prop where
  c : y.c.size ≤ 100000
  s : ∀ x ∈ y.S, x.f.size ≤ 100000
  o : ShO y.o
  i : y.I.length ≤ 1000000
  w : y.wl.t.size ≤ 100000 ∧ y.wl.p.size ≤ 100000
/-- The cells of a session that is whole. -/
theorem ses_whole {w : World} {g : Nat} {r : Rs} (h : Whole w g 61 (seC r)) : w.cell? ⟨g, 0, none⟩ = some (.string r.s.c) ∧ w.cell? ⟨g, 1, none⟩ = some (.bool r.s.cl) ∧ w.cell? ⟨g, 2, none⟩ = some (.int .i64 r.s.ln) ∧ w.cell? ⟨g, 3, none⟩ = some (.slice r.sa r.s.S.length r.sc) ∧ w.cell? ⟨g, 4, none⟩ = some (.int .i64 r.s.o.last) ∧
    w.cell? ⟨g, 5, none⟩ = some (.slice r.fa r.s.o.F.length r.fc) ∧ w.cell? ⟨g, 6, none⟩ = some (.slice r.qa r.s.o.Q.length r.qc) ∧ w.cell? ⟨g, 7, none⟩ = some (.slice r.ia r.s.I.length r.ic) ∧ w.cell? ⟨g, 8, none⟩ = some (.bool r.s.wl.is) ∧ w.cell? ⟨g, 9, none⟩ = some (.string r.s.wl.t) ∧
    w.cell? ⟨g, 10, none⟩ = some (.string r.s.wl.p) ∧ w.cell? ⟨g, 11, none⟩ = some (.int .i64 r.s.wl.q) ∧ w.cell? ⟨g, 12, none⟩ = some (.bool r.s.wl.r) ∧ w.cell? ⟨g, 13, none⟩ = some (.int .i64 r.s.keep) ∧ w.cell? ⟨g, 14, none⟩ = some (.int .i64 r.s.idle) := by
  have h2 : w.rangeAt g 0 (eS.c r) := fun j v hv => by rw [Nat.zero_add, h.cell]; exact hv
  have := ses_cells h2
  simp only [Nat.zero_add] at this
  exact this
set_option maxRecDepth 20000 in
set_option maxHeartbeats 8000000 in
theorem session_any (w : World) (r : Rs) (h : SRd w w.heap.size r) (hs : ShS r.s) (hE : Env w) :
    Calls Tryz.prog 42 #[seV r] w fun e w' => e = .returned (.bool (yes (sesOk r.s))) ∧ Below w.heap.size w w' := by
  obtain ⟨B, hB⟩ : ∃ B, B = w.heap.size := ⟨_, rfl⟩
  obtain ⟨wa, hwa⟩ : ∃ wa, wa = w.alloc (.cells (seC r).toArray 61) := ⟨_, rfl⟩
  have hb0 : Below w.heap.size w wa := by rw [hwa]; exact (Below.refl _ _).alloc (Nat.le_refl _) _
  have hW : Whole wa B 61 (seC r) := by rw [hwa, hB]; exact Whole.new w 61 _
  have hE0 := hE.below hb0
  have HCL := Lib.hid (fun wx (hx : Below wa.heap.size wa wx) => ses_whole (hW.belowH hx))
  have HRD : ∀ wx, Below wa.heap.size wa wx → SRd wx wx.heap.size r := fun wx hx => (((h.below hb0).more hb0.size).below hx).more hx.size
  have HSM := Lib.hid (fun wx (hx : Below wa.heap.size wa wx) => pMay_any wx _ r.s.S (HRD wx hx).s (fun i x hi => hs.s x (List.mem_of_getElem? hi)) (hE0.below hx))
  have HOM := Lib.hid (fun wx (hx : Below wa.heap.size wa wx) => omay_any wx (.agg #[.int .i64 r.s.o.last, .slice r.fa r.s.o.F.length r.fc, .slice r.qa r.s.o.Q.length r.qc]) r.s.o ⟨_, _, rfl, (HRD wx hx).f, (HRD wx hx).q⟩ hs.o)
  have HIM := Lib.hid (fun wx (hx : Below wa.heap.size wa wx) => ids_any wx _ r.s.I (HRD wx hx).i hs.i)
  have HWM := Lib.hid (fun wx (hx : Below wa.heap.size wa wx) => MayWill_any wx r.s.wl (by have := hs.w.1; omega) (by have := hs.w.2; omega) (hE0.below hx))
  have HNM := Lib.hid (fun wx (hx : Below wa.heap.size wa wx) => IsName_any wx r.s.wl.t (by have := hs.w.1; omega) (hE0.below hx))
  have HNO : Hid (¬ sesOk r.s → yes (sesOk r.s) = false) := Lib.hid yes_false
  have HYES : Hid (sesOk r.s → yes (sesOk r.s) = true) := Lib.hid yes_true
  have HB0 := Lib.hid hb0
  have HBE := Lib.hid hB
  have HWA : Hid (w.alloc (.cells (seC r).toArray 61) = wa) := Lib.hid hwa.symm
  have hcs := hs.c
  clear h hs hE hb0 hW hE0 HRD hB hwa
  obtain ⟨⟨c, cl, ln, S, ⟨last, F, Q⟩, I, ⟨wi, wt, wp, wq, wr⟩, keep, idle⟩, sa, sc, fa, fc, qa, qc, ia, ic⟩ := r
  unfold seV wlV at *
  simp only [seC] at *
  obtain ⟨x0, x1, x2, x3, x4, x5, x6, x7, x8, x9, x10, x11, x12, x13, x14⟩ := HCL.out _ (Below.refl _ _)
  have hcur := Below.refl wa.heap.size wa
  go_enter Tryz.func42, Tryz.ntmps42
  go_upto_region 1 with fail
  rw [HWA.out, ← HBE.out]
  obtain ⟨R1, hR1⟩ : ∃ R1 : Prop, R1 = ((1 ≤ c.size ∧ c.size ≤ 46) ∧ (0 ≤ ln ∧ ln ≤ 1099511627776) ∧ ¬ (cl = true ∧ ln = 0) ∧ subsB S = true ∧ okO ⟨last, F, Q⟩ ∧ idsOk I) := ⟨_, rfl⟩
  obtain ⟨z1, hz1⟩ : ∃ z1 : Bool, z1 = !yes R1 := ⟨_, rfl⟩
  have HN1 : Hid (¬ ((1 ≤ c.size ∧ c.size ≤ 46) ∧ (0 ≤ ln ∧ ln ≤ 1099511627776) ∧ ¬ (cl = true ∧ ln = 0) ∧ subsB S = true ∧ okO ⟨last, F, Q⟩ ∧ idsOk I) → z1 = true) := Lib.hid (fun h => by rw [hz1, yes_false (by rw [hR1]; exact h)]; rfl)
  have HY1 : Hid (((1 ≤ c.size ∧ c.size ≤ 46) ∧ (0 ≤ ln ∧ ln ≤ 1099511627776) ∧ ¬ (cl = true ∧ ln = 0) ∧ subsB S = true ∧ okO ⟨last, F, Q⟩ ∧ idsOk I) → z1 = false) := Lib.hid (fun h => by rw [hz1, yes_true (by rw [hR1]; exact h)]; rfl)
  have HZ1 := Lib.hid hz1
  have HR1 := Lib.hid hR1
  clear hz1 hR1
  go_cut [40] (fun s wx => s = .bool z1 ∧ Below wa.heap.size wa wx)
  case first =>
    cases hva : (decide (1 ≤ (c.size : Int)) && decide ((c.size : Int) ≤ 46))
    · have HZ := Lib.hid (HN1.out (fun h => by have := h.1; simp at hva; omega))
      go_wp2_with (first
        | (go_at_call 41; refine (bwithin_any _ _ _ _).mono ?_; rintro e w' ⟨rfl, rfl⟩; (try rw [hva]); (try rw [hvb]); (try rw [hvk]); (try rw [hvi]))
        | (go_at_call 63; refine (HSM.out _ hcur).mono ?_; rintro e wz ⟨rfl, hbz⟩; replace hcur := b_tr hcur hbz; clear hbz; clear x0 x1 x2 x3 x4 x5 x6 x7 x8 x9 x10 x11 x12 x13 x14; obtain ⟨x0, x1, x2, x3, x4, x5, x6, x7, x8, x9, x10, x11, x12, x13, x14⟩ := HCL.out _ hcur)
        | (go_at_call 64; refine (HOM.out _ hcur).mono ?_; rintro e wz ⟨rfl, hbz⟩; replace hcur := b_tr hcur hbz; clear hbz; clear x0 x1 x2 x3 x4 x5 x6 x7 x8 x9 x10 x11 x12 x13 x14; obtain ⟨x0, x1, x2, x3, x4, x5, x6, x7, x8, x9, x10, x11, x12, x13, x14⟩ := HCL.out _ hcur)
        | (go_at_call 65; refine (HIM.out _ hcur).mono ?_; rintro e w' ⟨rfl, rfl⟩)
        | (go_at_call 66; refine (HWM.out _ hcur).mono ?_; rintro e wz ⟨rfl, hbz⟩; replace hcur := b_tr hcur hbz; clear hbz; clear x0 x1 x2 x3 x4 x5 x6 x7 x8 x9 x10 x11 x12 x13 x14; obtain ⟨x0, x1, x2, x3, x4, x5, x6, x7, x8, x9, x10, x11, x12, x13, x14⟩ := HCL.out _ hcur)
        | (go_at_call 67; refine (HNM.out _ hcur).mono ?_; rintro e wz ⟨rfl, hbz⟩; replace hcur := b_tr hcur hbz; clear hbz; clear x0 x1 x2 x3 x4 x5 x6 x7 x8 x9 x10 x11 x12 x13 x14; obtain ⟨x0, x1, x2, x3, x4, x5, x6, x7, x8, x9, x10, x11, x12, x13, x14⟩ := HCL.out _ hcur))
      go_meet
      exact ⟨by rw [HZ.out], hcur⟩
    cases hvb : (decide (0 ≤ ln) && decide (ln ≤ 1099511627776))
    · have HZ := Lib.hid (HN1.out (fun h => by have := h.2.1; simp at hvb; omega))
      go_wp2_with (first
        | (go_at_call 41; refine (bwithin_any _ _ _ _).mono ?_; rintro e w' ⟨rfl, rfl⟩; (try rw [hva]); (try rw [hvb]); (try rw [hvk]); (try rw [hvi]))
        | (go_at_call 63; refine (HSM.out _ hcur).mono ?_; rintro e wz ⟨rfl, hbz⟩; replace hcur := b_tr hcur hbz; clear hbz; clear x0 x1 x2 x3 x4 x5 x6 x7 x8 x9 x10 x11 x12 x13 x14; obtain ⟨x0, x1, x2, x3, x4, x5, x6, x7, x8, x9, x10, x11, x12, x13, x14⟩ := HCL.out _ hcur)
        | (go_at_call 64; refine (HOM.out _ hcur).mono ?_; rintro e wz ⟨rfl, hbz⟩; replace hcur := b_tr hcur hbz; clear hbz; clear x0 x1 x2 x3 x4 x5 x6 x7 x8 x9 x10 x11 x12 x13 x14; obtain ⟨x0, x1, x2, x3, x4, x5, x6, x7, x8, x9, x10, x11, x12, x13, x14⟩ := HCL.out _ hcur)
        | (go_at_call 65; refine (HIM.out _ hcur).mono ?_; rintro e w' ⟨rfl, rfl⟩)
        | (go_at_call 66; refine (HWM.out _ hcur).mono ?_; rintro e wz ⟨rfl, hbz⟩; replace hcur := b_tr hcur hbz; clear hbz; clear x0 x1 x2 x3 x4 x5 x6 x7 x8 x9 x10 x11 x12 x13 x14; obtain ⟨x0, x1, x2, x3, x4, x5, x6, x7, x8, x9, x10, x11, x12, x13, x14⟩ := HCL.out _ hcur)
        | (go_at_call 67; refine (HNM.out _ hcur).mono ?_; rintro e wz ⟨rfl, hbz⟩; replace hcur := b_tr hcur hbz; clear hbz; clear x0 x1 x2 x3 x4 x5 x6 x7 x8 x9 x10 x11 x12 x13 x14; obtain ⟨x0, x1, x2, x3, x4, x5, x6, x7, x8, x9, x10, x11, x12, x13, x14⟩ := HCL.out _ hcur))
      go_meet
      exact ⟨by rw [HZ.out], hcur⟩
    have hc1 : (1 ≤ c.size ∧ c.size ≤ 46) ∧ (0 ≤ ln ∧ ln ≤ 1099511627776) := by simp at hva hvb; omega
    have HC1 := Lib.hid hc1
    clear hc1 hcs
    cases cl
    · have HCLL : Hid (¬ (false = true ∧ ln = 0)) := Lib.hid (by simp)
      cases hvd : subsB S
      · rw [hvd] at HSM
        have HZ := Lib.hid (HN1.out (fun h => by have := h.2.2.2.1; rw [hvd] at this; cases this))
        go_wp2_with (first
          | (go_at_call 41; refine (bwithin_any _ _ _ _).mono ?_; rintro e w' ⟨rfl, rfl⟩; (try rw [hva]); (try rw [hvb]); (try rw [hvk]); (try rw [hvi]))
          | (go_at_call 63; refine (HSM.out _ hcur).mono ?_; rintro e wz ⟨rfl, hbz⟩; replace hcur := b_tr hcur hbz; clear hbz; clear x0 x1 x2 x3 x4 x5 x6 x7 x8 x9 x10 x11 x12 x13 x14; obtain ⟨x0, x1, x2, x3, x4, x5, x6, x7, x8, x9, x10, x11, x12, x13, x14⟩ := HCL.out _ hcur)
          | (go_at_call 64; refine (HOM.out _ hcur).mono ?_; rintro e wz ⟨rfl, hbz⟩; replace hcur := b_tr hcur hbz; clear hbz; clear x0 x1 x2 x3 x4 x5 x6 x7 x8 x9 x10 x11 x12 x13 x14; obtain ⟨x0, x1, x2, x3, x4, x5, x6, x7, x8, x9, x10, x11, x12, x13, x14⟩ := HCL.out _ hcur)
          | (go_at_call 65; refine (HIM.out _ hcur).mono ?_; rintro e w' ⟨rfl, rfl⟩)
          | (go_at_call 66; refine (HWM.out _ hcur).mono ?_; rintro e wz ⟨rfl, hbz⟩; replace hcur := b_tr hcur hbz; clear hbz; clear x0 x1 x2 x3 x4 x5 x6 x7 x8 x9 x10 x11 x12 x13 x14; obtain ⟨x0, x1, x2, x3, x4, x5, x6, x7, x8, x9, x10, x11, x12, x13, x14⟩ := HCL.out _ hcur)
          | (go_at_call 67; refine (HNM.out _ hcur).mono ?_; rintro e wz ⟨rfl, hbz⟩; replace hcur := b_tr hcur hbz; clear hbz; clear x0 x1 x2 x3 x4 x5 x6 x7 x8 x9 x10 x11 x12 x13 x14; obtain ⟨x0, x1, x2, x3, x4, x5, x6, x7, x8, x9, x10, x11, x12, x13, x14⟩ := HCL.out _ hcur))
        go_meet
        exact ⟨by rw [HZ.out], hcur⟩
      rw [hvd] at HSM
      cases hve : yes (okO ⟨last, F, Q⟩)
      · rw [hve] at HOM
        have HZ := Lib.hid (HN1.out (fun h => yes_not.1 hve h.2.2.2.2.1))
        go_wp2_with (first
          | (go_at_call 41; refine (bwithin_any _ _ _ _).mono ?_; rintro e w' ⟨rfl, rfl⟩; (try rw [hva]); (try rw [hvb]); (try rw [hvk]); (try rw [hvi]))
          | (go_at_call 63; refine (HSM.out _ hcur).mono ?_; rintro e wz ⟨rfl, hbz⟩; replace hcur := b_tr hcur hbz; clear hbz; clear x0 x1 x2 x3 x4 x5 x6 x7 x8 x9 x10 x11 x12 x13 x14; obtain ⟨x0, x1, x2, x3, x4, x5, x6, x7, x8, x9, x10, x11, x12, x13, x14⟩ := HCL.out _ hcur)
          | (go_at_call 64; refine (HOM.out _ hcur).mono ?_; rintro e wz ⟨rfl, hbz⟩; replace hcur := b_tr hcur hbz; clear hbz; clear x0 x1 x2 x3 x4 x5 x6 x7 x8 x9 x10 x11 x12 x13 x14; obtain ⟨x0, x1, x2, x3, x4, x5, x6, x7, x8, x9, x10, x11, x12, x13, x14⟩ := HCL.out _ hcur)
          | (go_at_call 65; refine (HIM.out _ hcur).mono ?_; rintro e w' ⟨rfl, rfl⟩)
          | (go_at_call 66; refine (HWM.out _ hcur).mono ?_; rintro e wz ⟨rfl, hbz⟩; replace hcur := b_tr hcur hbz; clear hbz; clear x0 x1 x2 x3 x4 x5 x6 x7 x8 x9 x10 x11 x12 x13 x14; obtain ⟨x0, x1, x2, x3, x4, x5, x6, x7, x8, x9, x10, x11, x12, x13, x14⟩ := HCL.out _ hcur)
          | (go_at_call 67; refine (HNM.out _ hcur).mono ?_; rintro e wz ⟨rfl, hbz⟩; replace hcur := b_tr hcur hbz; clear hbz; clear x0 x1 x2 x3 x4 x5 x6 x7 x8 x9 x10 x11 x12 x13 x14; obtain ⟨x0, x1, x2, x3, x4, x5, x6, x7, x8, x9, x10, x11, x12, x13, x14⟩ := HCL.out _ hcur))
        go_meet
        exact ⟨by rw [HZ.out], hcur⟩
      rw [hve] at HOM
      cases hvf : yes (idsOk I)
      · rw [hvf] at HIM
        have HZ := Lib.hid (HN1.out (fun h => yes_not.1 hvf h.2.2.2.2.2))
        go_wp2_with (first
          | (go_at_call 41; refine (bwithin_any _ _ _ _).mono ?_; rintro e w' ⟨rfl, rfl⟩; (try rw [hva]); (try rw [hvb]); (try rw [hvk]); (try rw [hvi]))
          | (go_at_call 63; refine (HSM.out _ hcur).mono ?_; rintro e wz ⟨rfl, hbz⟩; replace hcur := b_tr hcur hbz; clear hbz; clear x0 x1 x2 x3 x4 x5 x6 x7 x8 x9 x10 x11 x12 x13 x14; obtain ⟨x0, x1, x2, x3, x4, x5, x6, x7, x8, x9, x10, x11, x12, x13, x14⟩ := HCL.out _ hcur)
          | (go_at_call 64; refine (HOM.out _ hcur).mono ?_; rintro e wz ⟨rfl, hbz⟩; replace hcur := b_tr hcur hbz; clear hbz; clear x0 x1 x2 x3 x4 x5 x6 x7 x8 x9 x10 x11 x12 x13 x14; obtain ⟨x0, x1, x2, x3, x4, x5, x6, x7, x8, x9, x10, x11, x12, x13, x14⟩ := HCL.out _ hcur)
          | (go_at_call 65; refine (HIM.out _ hcur).mono ?_; rintro e w' ⟨rfl, rfl⟩)
          | (go_at_call 66; refine (HWM.out _ hcur).mono ?_; rintro e wz ⟨rfl, hbz⟩; replace hcur := b_tr hcur hbz; clear hbz; clear x0 x1 x2 x3 x4 x5 x6 x7 x8 x9 x10 x11 x12 x13 x14; obtain ⟨x0, x1, x2, x3, x4, x5, x6, x7, x8, x9, x10, x11, x12, x13, x14⟩ := HCL.out _ hcur)
          | (go_at_call 67; refine (HNM.out _ hcur).mono ?_; rintro e wz ⟨rfl, hbz⟩; replace hcur := b_tr hcur hbz; clear hbz; clear x0 x1 x2 x3 x4 x5 x6 x7 x8 x9 x10 x11 x12 x13 x14; obtain ⟨x0, x1, x2, x3, x4, x5, x6, x7, x8, x9, x10, x11, x12, x13, x14⟩ := HCL.out _ hcur))
        go_meet
        exact ⟨by rw [HZ.out], hcur⟩
      rw [hvf] at HIM
      have HY := Lib.hid (HY1.out ⟨HC1.out.1, HC1.out.2, HCLL.out, hvd, yes_iff.1 hve, yes_iff.1 hvf⟩)
      clear hvd hve hvf
      have HZ := Lib.hid HY.out
      go_wp2_with (first
        | (go_at_call 41; refine (bwithin_any _ _ _ _).mono ?_; rintro e w' ⟨rfl, rfl⟩; (try rw [hva]); (try rw [hvb]); (try rw [hvk]); (try rw [hvi]))
        | (go_at_call 63; refine (HSM.out _ hcur).mono ?_; rintro e wz ⟨rfl, hbz⟩; replace hcur := b_tr hcur hbz; clear hbz; clear x0 x1 x2 x3 x4 x5 x6 x7 x8 x9 x10 x11 x12 x13 x14; obtain ⟨x0, x1, x2, x3, x4, x5, x6, x7, x8, x9, x10, x11, x12, x13, x14⟩ := HCL.out _ hcur)
        | (go_at_call 64; refine (HOM.out _ hcur).mono ?_; rintro e wz ⟨rfl, hbz⟩; replace hcur := b_tr hcur hbz; clear hbz; clear x0 x1 x2 x3 x4 x5 x6 x7 x8 x9 x10 x11 x12 x13 x14; obtain ⟨x0, x1, x2, x3, x4, x5, x6, x7, x8, x9, x10, x11, x12, x13, x14⟩ := HCL.out _ hcur)
        | (go_at_call 65; refine (HIM.out _ hcur).mono ?_; rintro e w' ⟨rfl, rfl⟩)
        | (go_at_call 66; refine (HWM.out _ hcur).mono ?_; rintro e wz ⟨rfl, hbz⟩; replace hcur := b_tr hcur hbz; clear hbz; clear x0 x1 x2 x3 x4 x5 x6 x7 x8 x9 x10 x11 x12 x13 x14; obtain ⟨x0, x1, x2, x3, x4, x5, x6, x7, x8, x9, x10, x11, x12, x13, x14⟩ := HCL.out _ hcur)
        | (go_at_call 67; refine (HNM.out _ hcur).mono ?_; rintro e wz ⟨rfl, hbz⟩; replace hcur := b_tr hcur hbz; clear hbz; clear x0 x1 x2 x3 x4 x5 x6 x7 x8 x9 x10 x11 x12 x13 x14; obtain ⟨x0, x1, x2, x3, x4, x5, x6, x7, x8, x9, x10, x11, x12, x13, x14⟩ := HCL.out _ hcur))
      go_meet
      exact ⟨by rw [HZ.out], hcur⟩
    · by_cases hl0 : ln = 0
      · have hl0' : (ln == 0) = true := beq_iff_eq.2 hl0
        have HZZ := Lib.hid (HN1.out (fun h => h.2.2.1 ⟨rfl, hl0⟩))
        clear hl0
        have HZ := Lib.hid HZZ.out
        go_wp2_with (first
          | (go_at_call 41; refine (bwithin_any _ _ _ _).mono ?_; rintro e w' ⟨rfl, rfl⟩; (try rw [hva]); (try rw [hvb]); (try rw [hvk]); (try rw [hvi]))
          | (go_at_call 63; refine (HSM.out _ hcur).mono ?_; rintro e wz ⟨rfl, hbz⟩; replace hcur := b_tr hcur hbz; clear hbz; clear x0 x1 x2 x3 x4 x5 x6 x7 x8 x9 x10 x11 x12 x13 x14; obtain ⟨x0, x1, x2, x3, x4, x5, x6, x7, x8, x9, x10, x11, x12, x13, x14⟩ := HCL.out _ hcur)
          | (go_at_call 64; refine (HOM.out _ hcur).mono ?_; rintro e wz ⟨rfl, hbz⟩; replace hcur := b_tr hcur hbz; clear hbz; clear x0 x1 x2 x3 x4 x5 x6 x7 x8 x9 x10 x11 x12 x13 x14; obtain ⟨x0, x1, x2, x3, x4, x5, x6, x7, x8, x9, x10, x11, x12, x13, x14⟩ := HCL.out _ hcur)
          | (go_at_call 65; refine (HIM.out _ hcur).mono ?_; rintro e w' ⟨rfl, rfl⟩)
          | (go_at_call 66; refine (HWM.out _ hcur).mono ?_; rintro e wz ⟨rfl, hbz⟩; replace hcur := b_tr hcur hbz; clear hbz; clear x0 x1 x2 x3 x4 x5 x6 x7 x8 x9 x10 x11 x12 x13 x14; obtain ⟨x0, x1, x2, x3, x4, x5, x6, x7, x8, x9, x10, x11, x12, x13, x14⟩ := HCL.out _ hcur)
          | (go_at_call 67; refine (HNM.out _ hcur).mono ?_; rintro e wz ⟨rfl, hbz⟩; replace hcur := b_tr hcur hbz; clear hbz; clear x0 x1 x2 x3 x4 x5 x6 x7 x8 x9 x10 x11 x12 x13 x14; obtain ⟨x0, x1, x2, x3, x4, x5, x6, x7, x8, x9, x10, x11, x12, x13, x14⟩ := HCL.out _ hcur))
        go_meet
        exact ⟨by rw [HZ.out], hcur⟩
      · have hl0' : (ln == 0) = false := beq_eq_false_iff_ne.2 hl0
        have HCLL : Hid (¬ (true = true ∧ ln = 0)) := Lib.hid (by simp [hl0])
        clear hl0
        cases hvd : subsB S
        · rw [hvd] at HSM
          have HZ := Lib.hid (HN1.out (fun h => by have := h.2.2.2.1; rw [hvd] at this; cases this))
          go_wp2_with (first
            | (go_at_call 41; refine (bwithin_any _ _ _ _).mono ?_; rintro e w' ⟨rfl, rfl⟩; (try rw [hva]); (try rw [hvb]); (try rw [hvk]); (try rw [hvi]))
            | (go_at_call 63; refine (HSM.out _ hcur).mono ?_; rintro e wz ⟨rfl, hbz⟩; replace hcur := b_tr hcur hbz; clear hbz; clear x0 x1 x2 x3 x4 x5 x6 x7 x8 x9 x10 x11 x12 x13 x14; obtain ⟨x0, x1, x2, x3, x4, x5, x6, x7, x8, x9, x10, x11, x12, x13, x14⟩ := HCL.out _ hcur)
            | (go_at_call 64; refine (HOM.out _ hcur).mono ?_; rintro e wz ⟨rfl, hbz⟩; replace hcur := b_tr hcur hbz; clear hbz; clear x0 x1 x2 x3 x4 x5 x6 x7 x8 x9 x10 x11 x12 x13 x14; obtain ⟨x0, x1, x2, x3, x4, x5, x6, x7, x8, x9, x10, x11, x12, x13, x14⟩ := HCL.out _ hcur)
            | (go_at_call 65; refine (HIM.out _ hcur).mono ?_; rintro e w' ⟨rfl, rfl⟩)
            | (go_at_call 66; refine (HWM.out _ hcur).mono ?_; rintro e wz ⟨rfl, hbz⟩; replace hcur := b_tr hcur hbz; clear hbz; clear x0 x1 x2 x3 x4 x5 x6 x7 x8 x9 x10 x11 x12 x13 x14; obtain ⟨x0, x1, x2, x3, x4, x5, x6, x7, x8, x9, x10, x11, x12, x13, x14⟩ := HCL.out _ hcur)
            | (go_at_call 67; refine (HNM.out _ hcur).mono ?_; rintro e wz ⟨rfl, hbz⟩; replace hcur := b_tr hcur hbz; clear hbz; clear x0 x1 x2 x3 x4 x5 x6 x7 x8 x9 x10 x11 x12 x13 x14; obtain ⟨x0, x1, x2, x3, x4, x5, x6, x7, x8, x9, x10, x11, x12, x13, x14⟩ := HCL.out _ hcur))
          go_meet
          exact ⟨by rw [HZ.out], hcur⟩
        rw [hvd] at HSM
        cases hve : yes (okO ⟨last, F, Q⟩)
        · rw [hve] at HOM
          have HZ := Lib.hid (HN1.out (fun h => yes_not.1 hve h.2.2.2.2.1))
          go_wp2_with (first
            | (go_at_call 41; refine (bwithin_any _ _ _ _).mono ?_; rintro e w' ⟨rfl, rfl⟩; (try rw [hva]); (try rw [hvb]); (try rw [hvk]); (try rw [hvi]))
            | (go_at_call 63; refine (HSM.out _ hcur).mono ?_; rintro e wz ⟨rfl, hbz⟩; replace hcur := b_tr hcur hbz; clear hbz; clear x0 x1 x2 x3 x4 x5 x6 x7 x8 x9 x10 x11 x12 x13 x14; obtain ⟨x0, x1, x2, x3, x4, x5, x6, x7, x8, x9, x10, x11, x12, x13, x14⟩ := HCL.out _ hcur)
            | (go_at_call 64; refine (HOM.out _ hcur).mono ?_; rintro e wz ⟨rfl, hbz⟩; replace hcur := b_tr hcur hbz; clear hbz; clear x0 x1 x2 x3 x4 x5 x6 x7 x8 x9 x10 x11 x12 x13 x14; obtain ⟨x0, x1, x2, x3, x4, x5, x6, x7, x8, x9, x10, x11, x12, x13, x14⟩ := HCL.out _ hcur)
            | (go_at_call 65; refine (HIM.out _ hcur).mono ?_; rintro e w' ⟨rfl, rfl⟩)
            | (go_at_call 66; refine (HWM.out _ hcur).mono ?_; rintro e wz ⟨rfl, hbz⟩; replace hcur := b_tr hcur hbz; clear hbz; clear x0 x1 x2 x3 x4 x5 x6 x7 x8 x9 x10 x11 x12 x13 x14; obtain ⟨x0, x1, x2, x3, x4, x5, x6, x7, x8, x9, x10, x11, x12, x13, x14⟩ := HCL.out _ hcur)
            | (go_at_call 67; refine (HNM.out _ hcur).mono ?_; rintro e wz ⟨rfl, hbz⟩; replace hcur := b_tr hcur hbz; clear hbz; clear x0 x1 x2 x3 x4 x5 x6 x7 x8 x9 x10 x11 x12 x13 x14; obtain ⟨x0, x1, x2, x3, x4, x5, x6, x7, x8, x9, x10, x11, x12, x13, x14⟩ := HCL.out _ hcur))
          go_meet
          exact ⟨by rw [HZ.out], hcur⟩
        rw [hve] at HOM
        cases hvf : yes (idsOk I)
        · rw [hvf] at HIM
          have HZ := Lib.hid (HN1.out (fun h => yes_not.1 hvf h.2.2.2.2.2))
          go_wp2_with (first
            | (go_at_call 41; refine (bwithin_any _ _ _ _).mono ?_; rintro e w' ⟨rfl, rfl⟩; (try rw [hva]); (try rw [hvb]); (try rw [hvk]); (try rw [hvi]))
            | (go_at_call 63; refine (HSM.out _ hcur).mono ?_; rintro e wz ⟨rfl, hbz⟩; replace hcur := b_tr hcur hbz; clear hbz; clear x0 x1 x2 x3 x4 x5 x6 x7 x8 x9 x10 x11 x12 x13 x14; obtain ⟨x0, x1, x2, x3, x4, x5, x6, x7, x8, x9, x10, x11, x12, x13, x14⟩ := HCL.out _ hcur)
            | (go_at_call 64; refine (HOM.out _ hcur).mono ?_; rintro e wz ⟨rfl, hbz⟩; replace hcur := b_tr hcur hbz; clear hbz; clear x0 x1 x2 x3 x4 x5 x6 x7 x8 x9 x10 x11 x12 x13 x14; obtain ⟨x0, x1, x2, x3, x4, x5, x6, x7, x8, x9, x10, x11, x12, x13, x14⟩ := HCL.out _ hcur)
            | (go_at_call 65; refine (HIM.out _ hcur).mono ?_; rintro e w' ⟨rfl, rfl⟩)
            | (go_at_call 66; refine (HWM.out _ hcur).mono ?_; rintro e wz ⟨rfl, hbz⟩; replace hcur := b_tr hcur hbz; clear hbz; clear x0 x1 x2 x3 x4 x5 x6 x7 x8 x9 x10 x11 x12 x13 x14; obtain ⟨x0, x1, x2, x3, x4, x5, x6, x7, x8, x9, x10, x11, x12, x13, x14⟩ := HCL.out _ hcur)
            | (go_at_call 67; refine (HNM.out _ hcur).mono ?_; rintro e wz ⟨rfl, hbz⟩; replace hcur := b_tr hcur hbz; clear hbz; clear x0 x1 x2 x3 x4 x5 x6 x7 x8 x9 x10 x11 x12 x13 x14; obtain ⟨x0, x1, x2, x3, x4, x5, x6, x7, x8, x9, x10, x11, x12, x13, x14⟩ := HCL.out _ hcur))
          go_meet
          exact ⟨by rw [HZ.out], hcur⟩
        rw [hvf] at HIM
        have HY := Lib.hid (HY1.out ⟨HC1.out.1, HC1.out.2, HCLL.out, hvd, yes_iff.1 hve, yes_iff.1 hvf⟩)
        clear hvd hve hvf
        have HZ := Lib.hid HY.out
        go_wp2_with (first
          | (go_at_call 41; refine (bwithin_any _ _ _ _).mono ?_; rintro e w' ⟨rfl, rfl⟩; (try rw [hva]); (try rw [hvb]); (try rw [hvk]); (try rw [hvi]))
          | (go_at_call 63; refine (HSM.out _ hcur).mono ?_; rintro e wz ⟨rfl, hbz⟩; replace hcur := b_tr hcur hbz; clear hbz; clear x0 x1 x2 x3 x4 x5 x6 x7 x8 x9 x10 x11 x12 x13 x14; obtain ⟨x0, x1, x2, x3, x4, x5, x6, x7, x8, x9, x10, x11, x12, x13, x14⟩ := HCL.out _ hcur)
          | (go_at_call 64; refine (HOM.out _ hcur).mono ?_; rintro e wz ⟨rfl, hbz⟩; replace hcur := b_tr hcur hbz; clear hbz; clear x0 x1 x2 x3 x4 x5 x6 x7 x8 x9 x10 x11 x12 x13 x14; obtain ⟨x0, x1, x2, x3, x4, x5, x6, x7, x8, x9, x10, x11, x12, x13, x14⟩ := HCL.out _ hcur)
          | (go_at_call 65; refine (HIM.out _ hcur).mono ?_; rintro e w' ⟨rfl, rfl⟩)
          | (go_at_call 66; refine (HWM.out _ hcur).mono ?_; rintro e wz ⟨rfl, hbz⟩; replace hcur := b_tr hcur hbz; clear hbz; clear x0 x1 x2 x3 x4 x5 x6 x7 x8 x9 x10 x11 x12 x13 x14; obtain ⟨x0, x1, x2, x3, x4, x5, x6, x7, x8, x9, x10, x11, x12, x13, x14⟩ := HCL.out _ hcur)
          | (go_at_call 67; refine (HNM.out _ hcur).mono ?_; rintro e wz ⟨rfl, hbz⟩; replace hcur := b_tr hcur hbz; clear hbz; clear x0 x1 x2 x3 x4 x5 x6 x7 x8 x9 x10 x11 x12 x13 x14; obtain ⟨x0, x1, x2, x3, x4, x5, x6, x7, x8, x9, x10, x11, x12, x13, x14⟩ := HCL.out _ hcur))
        go_meet
        exact ⟨by rw [HZ.out], hcur⟩
  case rest =>
    obtain ⟨rfl, hcur2⟩ := hcut
    cases z1
    · have hr1 : R1 := yes_iff.1 (by have := HZ1.out; cases h : yes R1 <;> simp [h] at this ⊢)
      rw [HR1.out] at hr1
      have HRR := Lib.hid hr1
      clear HN1 HY1 HZ1 hr1 hcs
      clear x0 x1 x2 x3 x4 x5 x6 x7 x8 x9 x10 x11 x12 x13 x14
      replace hcur := hcur2
      clear hcur2
      obtain ⟨x0, x1, x2, x3, x4, x5, x6, x7, x8, x9, x10, x11, x12, x13, x14⟩ := HCL.out _ hcur
      obtain ⟨R3, hR3⟩ : ∃ R3 : Prop, R3 = (wlOk ⟨wi, wt, wp, wq, wr⟩ ∧ (wi = true → ln ≠ 0 ∧ nm wt = true) ∧ (0 ≤ keep ∧ keep ≤ 65535) ∧ (0 ≤ idle ∧ idle ≤ 1048576)) := ⟨_, rfl⟩
      obtain ⟨z3, hz3⟩ : ∃ z3 : Bool, z3 = !yes R3 := ⟨_, rfl⟩
      have HN1 : Hid (¬ (wlOk ⟨wi, wt, wp, wq, wr⟩ ∧ (wi = true → ln ≠ 0 ∧ nm wt = true) ∧ (0 ≤ keep ∧ keep ≤ 65535) ∧ (0 ≤ idle ∧ idle ≤ 1048576)) → z3 = true) := Lib.hid (fun h => by rw [hz3, yes_false (by rw [hR3]; exact h)]; rfl)
      have HY1 : Hid ((wlOk ⟨wi, wt, wp, wq, wr⟩ ∧ (wi = true → ln ≠ 0 ∧ nm wt = true) ∧ (0 ≤ keep ∧ keep ≤ 65535) ∧ (0 ≤ idle ∧ idle ≤ 1048576)) → z3 = false) := Lib.hid (fun h => by rw [hz3, yes_true (by rw [hR3]; exact h)]; rfl)
      have HZ3 := Lib.hid hz3
      have HR3 := Lib.hid hR3
      clear hz3 hR3
      go_upto_region 3 with fail
      go_cut [73] (fun s wx => s = .bool z3 ∧ Below wa.heap.size wa wx)
      case first =>
        cases hvw : yes (wlOk ⟨wi, wt, wp, wq, wr⟩)
        · rw [hvw] at HWM
          have HZ := Lib.hid (HN1.out (fun h => yes_not.1 hvw h.1))
          go_wp2_with (first
            | (go_at_call 41; refine (bwithin_any _ _ _ _).mono ?_; rintro e w' ⟨rfl, rfl⟩; (try rw [hva]); (try rw [hvb]); (try rw [hvk]); (try rw [hvi]))
            | (go_at_call 63; refine (HSM.out _ hcur).mono ?_; rintro e wz ⟨rfl, hbz⟩; replace hcur := b_tr hcur hbz; clear hbz; clear x0 x1 x2 x3 x4 x5 x6 x7 x8 x9 x10 x11 x12 x13 x14; obtain ⟨x0, x1, x2, x3, x4, x5, x6, x7, x8, x9, x10, x11, x12, x13, x14⟩ := HCL.out _ hcur)
            | (go_at_call 64; refine (HOM.out _ hcur).mono ?_; rintro e wz ⟨rfl, hbz⟩; replace hcur := b_tr hcur hbz; clear hbz; clear x0 x1 x2 x3 x4 x5 x6 x7 x8 x9 x10 x11 x12 x13 x14; obtain ⟨x0, x1, x2, x3, x4, x5, x6, x7, x8, x9, x10, x11, x12, x13, x14⟩ := HCL.out _ hcur)
            | (go_at_call 65; refine (HIM.out _ hcur).mono ?_; rintro e w' ⟨rfl, rfl⟩)
            | (go_at_call 66; refine (HWM.out _ hcur).mono ?_; rintro e wz ⟨rfl, hbz⟩; replace hcur := b_tr hcur hbz; clear hbz; clear x0 x1 x2 x3 x4 x5 x6 x7 x8 x9 x10 x11 x12 x13 x14; obtain ⟨x0, x1, x2, x3, x4, x5, x6, x7, x8, x9, x10, x11, x12, x13, x14⟩ := HCL.out _ hcur)
            | (go_at_call 67; refine (HNM.out _ hcur).mono ?_; rintro e wz ⟨rfl, hbz⟩; replace hcur := b_tr hcur hbz; clear hbz; clear x0 x1 x2 x3 x4 x5 x6 x7 x8 x9 x10 x11 x12 x13 x14; obtain ⟨x0, x1, x2, x3, x4, x5, x6, x7, x8, x9, x10, x11, x12, x13, x14⟩ := HCL.out _ hcur))
          go_meet
          exact ⟨by rw [HZ.out], hcur⟩
        rw [hvw] at HWM
        have HVW := Lib.hid (yes_iff.1 hvw)
        clear hvw
        cases wi
        · have HII : Hid (false = true → ln ≠ 0 ∧ nm wt = true) := Lib.hid (fun h => by cases h)
          cases hvk : (decide (0 ≤ keep) && decide (keep ≤ 65535))
          · have HZ := Lib.hid (HN1.out (fun h => by have := h.2.2.1; simp at hvk; omega))
            go_wp2_with (first
              | (go_at_call 41; refine (bwithin_any _ _ _ _).mono ?_; rintro e w' ⟨rfl, rfl⟩; (try rw [hva]); (try rw [hvb]); (try rw [hvk]); (try rw [hvi]))
              | (go_at_call 63; refine (HSM.out _ hcur).mono ?_; rintro e wz ⟨rfl, hbz⟩; replace hcur := b_tr hcur hbz; clear hbz; clear x0 x1 x2 x3 x4 x5 x6 x7 x8 x9 x10 x11 x12 x13 x14; obtain ⟨x0, x1, x2, x3, x4, x5, x6, x7, x8, x9, x10, x11, x12, x13, x14⟩ := HCL.out _ hcur)
              | (go_at_call 64; refine (HOM.out _ hcur).mono ?_; rintro e wz ⟨rfl, hbz⟩; replace hcur := b_tr hcur hbz; clear hbz; clear x0 x1 x2 x3 x4 x5 x6 x7 x8 x9 x10 x11 x12 x13 x14; obtain ⟨x0, x1, x2, x3, x4, x5, x6, x7, x8, x9, x10, x11, x12, x13, x14⟩ := HCL.out _ hcur)
              | (go_at_call 65; refine (HIM.out _ hcur).mono ?_; rintro e w' ⟨rfl, rfl⟩)
              | (go_at_call 66; refine (HWM.out _ hcur).mono ?_; rintro e wz ⟨rfl, hbz⟩; replace hcur := b_tr hcur hbz; clear hbz; clear x0 x1 x2 x3 x4 x5 x6 x7 x8 x9 x10 x11 x12 x13 x14; obtain ⟨x0, x1, x2, x3, x4, x5, x6, x7, x8, x9, x10, x11, x12, x13, x14⟩ := HCL.out _ hcur)
              | (go_at_call 67; refine (HNM.out _ hcur).mono ?_; rintro e wz ⟨rfl, hbz⟩; replace hcur := b_tr hcur hbz; clear hbz; clear x0 x1 x2 x3 x4 x5 x6 x7 x8 x9 x10 x11 x12 x13 x14; obtain ⟨x0, x1, x2, x3, x4, x5, x6, x7, x8, x9, x10, x11, x12, x13, x14⟩ := HCL.out _ hcur))
            go_meet
            exact ⟨by rw [HZ.out], hcur⟩
          cases hvi : (decide (0 ≤ idle) && decide (idle ≤ 1048576))
          · have HZ := Lib.hid (HN1.out (fun h => by have := h.2.2.2; simp at hvi; omega))
            go_wp2_with (first
              | (go_at_call 41; refine (bwithin_any _ _ _ _).mono ?_; rintro e w' ⟨rfl, rfl⟩; (try rw [hva]); (try rw [hvb]); (try rw [hvk]); (try rw [hvi]))
              | (go_at_call 63; refine (HSM.out _ hcur).mono ?_; rintro e wz ⟨rfl, hbz⟩; replace hcur := b_tr hcur hbz; clear hbz; clear x0 x1 x2 x3 x4 x5 x6 x7 x8 x9 x10 x11 x12 x13 x14; obtain ⟨x0, x1, x2, x3, x4, x5, x6, x7, x8, x9, x10, x11, x12, x13, x14⟩ := HCL.out _ hcur)
              | (go_at_call 64; refine (HOM.out _ hcur).mono ?_; rintro e wz ⟨rfl, hbz⟩; replace hcur := b_tr hcur hbz; clear hbz; clear x0 x1 x2 x3 x4 x5 x6 x7 x8 x9 x10 x11 x12 x13 x14; obtain ⟨x0, x1, x2, x3, x4, x5, x6, x7, x8, x9, x10, x11, x12, x13, x14⟩ := HCL.out _ hcur)
              | (go_at_call 65; refine (HIM.out _ hcur).mono ?_; rintro e w' ⟨rfl, rfl⟩)
              | (go_at_call 66; refine (HWM.out _ hcur).mono ?_; rintro e wz ⟨rfl, hbz⟩; replace hcur := b_tr hcur hbz; clear hbz; clear x0 x1 x2 x3 x4 x5 x6 x7 x8 x9 x10 x11 x12 x13 x14; obtain ⟨x0, x1, x2, x3, x4, x5, x6, x7, x8, x9, x10, x11, x12, x13, x14⟩ := HCL.out _ hcur)
              | (go_at_call 67; refine (HNM.out _ hcur).mono ?_; rintro e wz ⟨rfl, hbz⟩; replace hcur := b_tr hcur hbz; clear hbz; clear x0 x1 x2 x3 x4 x5 x6 x7 x8 x9 x10 x11 x12 x13 x14; obtain ⟨x0, x1, x2, x3, x4, x5, x6, x7, x8, x9, x10, x11, x12, x13, x14⟩ := HCL.out _ hcur))
            go_meet
            exact ⟨by rw [HZ.out], hcur⟩
          have hki : (0 ≤ keep ∧ keep ≤ 65535) ∧ (0 ≤ idle ∧ idle ≤ 1048576) := by simp at hvk hvi; omega
          have HY := Lib.hid (HY1.out ⟨HVW.out, HII.out, hki.1, hki.2⟩)
          clear hki
          have HZ := Lib.hid HY.out
          go_wp2_with (first
            | (go_at_call 41; refine (bwithin_any _ _ _ _).mono ?_; rintro e w' ⟨rfl, rfl⟩; (try rw [hva]); (try rw [hvb]); (try rw [hvk]); (try rw [hvi]))
            | (go_at_call 63; refine (HSM.out _ hcur).mono ?_; rintro e wz ⟨rfl, hbz⟩; replace hcur := b_tr hcur hbz; clear hbz; clear x0 x1 x2 x3 x4 x5 x6 x7 x8 x9 x10 x11 x12 x13 x14; obtain ⟨x0, x1, x2, x3, x4, x5, x6, x7, x8, x9, x10, x11, x12, x13, x14⟩ := HCL.out _ hcur)
            | (go_at_call 64; refine (HOM.out _ hcur).mono ?_; rintro e wz ⟨rfl, hbz⟩; replace hcur := b_tr hcur hbz; clear hbz; clear x0 x1 x2 x3 x4 x5 x6 x7 x8 x9 x10 x11 x12 x13 x14; obtain ⟨x0, x1, x2, x3, x4, x5, x6, x7, x8, x9, x10, x11, x12, x13, x14⟩ := HCL.out _ hcur)
            | (go_at_call 65; refine (HIM.out _ hcur).mono ?_; rintro e w' ⟨rfl, rfl⟩)
            | (go_at_call 66; refine (HWM.out _ hcur).mono ?_; rintro e wz ⟨rfl, hbz⟩; replace hcur := b_tr hcur hbz; clear hbz; clear x0 x1 x2 x3 x4 x5 x6 x7 x8 x9 x10 x11 x12 x13 x14; obtain ⟨x0, x1, x2, x3, x4, x5, x6, x7, x8, x9, x10, x11, x12, x13, x14⟩ := HCL.out _ hcur)
            | (go_at_call 67; refine (HNM.out _ hcur).mono ?_; rintro e wz ⟨rfl, hbz⟩; replace hcur := b_tr hcur hbz; clear hbz; clear x0 x1 x2 x3 x4 x5 x6 x7 x8 x9 x10 x11 x12 x13 x14; obtain ⟨x0, x1, x2, x3, x4, x5, x6, x7, x8, x9, x10, x11, x12, x13, x14⟩ := HCL.out _ hcur))
          go_meet
          exact ⟨by rw [HZ.out], hcur⟩
        · by_cases hl0 : ln = 0
          · have hl0' : (ln == 0) = true := beq_iff_eq.2 hl0
            have HZZ := Lib.hid (HN1.out (fun h => (h.2.1 rfl).1 hl0))
            clear hl0
            have HZ := Lib.hid HZZ.out
            go_wp2_with (first
              | (go_at_call 41; refine (bwithin_any _ _ _ _).mono ?_; rintro e w' ⟨rfl, rfl⟩; (try rw [hva]); (try rw [hvb]); (try rw [hvk]); (try rw [hvi]))
              | (go_at_call 63; refine (HSM.out _ hcur).mono ?_; rintro e wz ⟨rfl, hbz⟩; replace hcur := b_tr hcur hbz; clear hbz; clear x0 x1 x2 x3 x4 x5 x6 x7 x8 x9 x10 x11 x12 x13 x14; obtain ⟨x0, x1, x2, x3, x4, x5, x6, x7, x8, x9, x10, x11, x12, x13, x14⟩ := HCL.out _ hcur)
              | (go_at_call 64; refine (HOM.out _ hcur).mono ?_; rintro e wz ⟨rfl, hbz⟩; replace hcur := b_tr hcur hbz; clear hbz; clear x0 x1 x2 x3 x4 x5 x6 x7 x8 x9 x10 x11 x12 x13 x14; obtain ⟨x0, x1, x2, x3, x4, x5, x6, x7, x8, x9, x10, x11, x12, x13, x14⟩ := HCL.out _ hcur)
              | (go_at_call 65; refine (HIM.out _ hcur).mono ?_; rintro e w' ⟨rfl, rfl⟩)
              | (go_at_call 66; refine (HWM.out _ hcur).mono ?_; rintro e wz ⟨rfl, hbz⟩; replace hcur := b_tr hcur hbz; clear hbz; clear x0 x1 x2 x3 x4 x5 x6 x7 x8 x9 x10 x11 x12 x13 x14; obtain ⟨x0, x1, x2, x3, x4, x5, x6, x7, x8, x9, x10, x11, x12, x13, x14⟩ := HCL.out _ hcur)
              | (go_at_call 67; refine (HNM.out _ hcur).mono ?_; rintro e wz ⟨rfl, hbz⟩; replace hcur := b_tr hcur hbz; clear hbz; clear x0 x1 x2 x3 x4 x5 x6 x7 x8 x9 x10 x11 x12 x13 x14; obtain ⟨x0, x1, x2, x3, x4, x5, x6, x7, x8, x9, x10, x11, x12, x13, x14⟩ := HCL.out _ hcur))
            go_meet
            exact ⟨by rw [HZ.out], hcur⟩
          · have hl0' : (ln == 0) = false := beq_eq_false_iff_ne.2 hl0
            cases hvn : nm wt
            · rw [hvn] at HNM
              have HZZ := Lib.hid (HN1.out (fun h => by have := (h.2.1 rfl).2; rw [hvn] at this; cases this))
              clear hl0 hvn
              have HZ := Lib.hid HZZ.out
              go_wp2_with (first
                | (go_at_call 41; refine (bwithin_any _ _ _ _).mono ?_; rintro e w' ⟨rfl, rfl⟩; (try rw [hva]); (try rw [hvb]); (try rw [hvk]); (try rw [hvi]))
                | (go_at_call 63; refine (HSM.out _ hcur).mono ?_; rintro e wz ⟨rfl, hbz⟩; replace hcur := b_tr hcur hbz; clear hbz; clear x0 x1 x2 x3 x4 x5 x6 x7 x8 x9 x10 x11 x12 x13 x14; obtain ⟨x0, x1, x2, x3, x4, x5, x6, x7, x8, x9, x10, x11, x12, x13, x14⟩ := HCL.out _ hcur)
                | (go_at_call 64; refine (HOM.out _ hcur).mono ?_; rintro e wz ⟨rfl, hbz⟩; replace hcur := b_tr hcur hbz; clear hbz; clear x0 x1 x2 x3 x4 x5 x6 x7 x8 x9 x10 x11 x12 x13 x14; obtain ⟨x0, x1, x2, x3, x4, x5, x6, x7, x8, x9, x10, x11, x12, x13, x14⟩ := HCL.out _ hcur)
                | (go_at_call 65; refine (HIM.out _ hcur).mono ?_; rintro e w' ⟨rfl, rfl⟩)
                | (go_at_call 66; refine (HWM.out _ hcur).mono ?_; rintro e wz ⟨rfl, hbz⟩; replace hcur := b_tr hcur hbz; clear hbz; clear x0 x1 x2 x3 x4 x5 x6 x7 x8 x9 x10 x11 x12 x13 x14; obtain ⟨x0, x1, x2, x3, x4, x5, x6, x7, x8, x9, x10, x11, x12, x13, x14⟩ := HCL.out _ hcur)
                | (go_at_call 67; refine (HNM.out _ hcur).mono ?_; rintro e wz ⟨rfl, hbz⟩; replace hcur := b_tr hcur hbz; clear hbz; clear x0 x1 x2 x3 x4 x5 x6 x7 x8 x9 x10 x11 x12 x13 x14; obtain ⟨x0, x1, x2, x3, x4, x5, x6, x7, x8, x9, x10, x11, x12, x13, x14⟩ := HCL.out _ hcur))
              go_meet
              exact ⟨by rw [HZ.out], hcur⟩
            · rw [hvn] at HNM
              have HII : Hid (true = true → ln ≠ 0 ∧ nm wt = true) := Lib.hid (fun _ => ⟨hl0, hvn⟩)
              clear hl0 hvn
              cases hvk : (decide (0 ≤ keep) && decide (keep ≤ 65535))
              · have HZ := Lib.hid (HN1.out (fun h => by have := h.2.2.1; simp at hvk; omega))
                go_wp2_with (first
                  | (go_at_call 41; refine (bwithin_any _ _ _ _).mono ?_; rintro e w' ⟨rfl, rfl⟩; (try rw [hva]); (try rw [hvb]); (try rw [hvk]); (try rw [hvi]))
                  | (go_at_call 63; refine (HSM.out _ hcur).mono ?_; rintro e wz ⟨rfl, hbz⟩; replace hcur := b_tr hcur hbz; clear hbz; clear x0 x1 x2 x3 x4 x5 x6 x7 x8 x9 x10 x11 x12 x13 x14; obtain ⟨x0, x1, x2, x3, x4, x5, x6, x7, x8, x9, x10, x11, x12, x13, x14⟩ := HCL.out _ hcur)
                  | (go_at_call 64; refine (HOM.out _ hcur).mono ?_; rintro e wz ⟨rfl, hbz⟩; replace hcur := b_tr hcur hbz; clear hbz; clear x0 x1 x2 x3 x4 x5 x6 x7 x8 x9 x10 x11 x12 x13 x14; obtain ⟨x0, x1, x2, x3, x4, x5, x6, x7, x8, x9, x10, x11, x12, x13, x14⟩ := HCL.out _ hcur)
                  | (go_at_call 65; refine (HIM.out _ hcur).mono ?_; rintro e w' ⟨rfl, rfl⟩)
                  | (go_at_call 66; refine (HWM.out _ hcur).mono ?_; rintro e wz ⟨rfl, hbz⟩; replace hcur := b_tr hcur hbz; clear hbz; clear x0 x1 x2 x3 x4 x5 x6 x7 x8 x9 x10 x11 x12 x13 x14; obtain ⟨x0, x1, x2, x3, x4, x5, x6, x7, x8, x9, x10, x11, x12, x13, x14⟩ := HCL.out _ hcur)
                  | (go_at_call 67; refine (HNM.out _ hcur).mono ?_; rintro e wz ⟨rfl, hbz⟩; replace hcur := b_tr hcur hbz; clear hbz; clear x0 x1 x2 x3 x4 x5 x6 x7 x8 x9 x10 x11 x12 x13 x14; obtain ⟨x0, x1, x2, x3, x4, x5, x6, x7, x8, x9, x10, x11, x12, x13, x14⟩ := HCL.out _ hcur))
                go_meet
                exact ⟨by rw [HZ.out], hcur⟩
              cases hvi : (decide (0 ≤ idle) && decide (idle ≤ 1048576))
              · have HZ := Lib.hid (HN1.out (fun h => by have := h.2.2.2; simp at hvi; omega))
                go_wp2_with (first
                  | (go_at_call 41; refine (bwithin_any _ _ _ _).mono ?_; rintro e w' ⟨rfl, rfl⟩; (try rw [hva]); (try rw [hvb]); (try rw [hvk]); (try rw [hvi]))
                  | (go_at_call 63; refine (HSM.out _ hcur).mono ?_; rintro e wz ⟨rfl, hbz⟩; replace hcur := b_tr hcur hbz; clear hbz; clear x0 x1 x2 x3 x4 x5 x6 x7 x8 x9 x10 x11 x12 x13 x14; obtain ⟨x0, x1, x2, x3, x4, x5, x6, x7, x8, x9, x10, x11, x12, x13, x14⟩ := HCL.out _ hcur)
                  | (go_at_call 64; refine (HOM.out _ hcur).mono ?_; rintro e wz ⟨rfl, hbz⟩; replace hcur := b_tr hcur hbz; clear hbz; clear x0 x1 x2 x3 x4 x5 x6 x7 x8 x9 x10 x11 x12 x13 x14; obtain ⟨x0, x1, x2, x3, x4, x5, x6, x7, x8, x9, x10, x11, x12, x13, x14⟩ := HCL.out _ hcur)
                  | (go_at_call 65; refine (HIM.out _ hcur).mono ?_; rintro e w' ⟨rfl, rfl⟩)
                  | (go_at_call 66; refine (HWM.out _ hcur).mono ?_; rintro e wz ⟨rfl, hbz⟩; replace hcur := b_tr hcur hbz; clear hbz; clear x0 x1 x2 x3 x4 x5 x6 x7 x8 x9 x10 x11 x12 x13 x14; obtain ⟨x0, x1, x2, x3, x4, x5, x6, x7, x8, x9, x10, x11, x12, x13, x14⟩ := HCL.out _ hcur)
                  | (go_at_call 67; refine (HNM.out _ hcur).mono ?_; rintro e wz ⟨rfl, hbz⟩; replace hcur := b_tr hcur hbz; clear hbz; clear x0 x1 x2 x3 x4 x5 x6 x7 x8 x9 x10 x11 x12 x13 x14; obtain ⟨x0, x1, x2, x3, x4, x5, x6, x7, x8, x9, x10, x11, x12, x13, x14⟩ := HCL.out _ hcur))
                go_meet
                exact ⟨by rw [HZ.out], hcur⟩
              have hki : (0 ≤ keep ∧ keep ≤ 65535) ∧ (0 ≤ idle ∧ idle ≤ 1048576) := by simp at hvk hvi; omega
              have HY := Lib.hid (HY1.out ⟨HVW.out, HII.out, hki.1, hki.2⟩)
              clear hki
              have HZ := Lib.hid HY.out
              go_wp2_with (first
                | (go_at_call 41; refine (bwithin_any _ _ _ _).mono ?_; rintro e w' ⟨rfl, rfl⟩; (try rw [hva]); (try rw [hvb]); (try rw [hvk]); (try rw [hvi]))
                | (go_at_call 63; refine (HSM.out _ hcur).mono ?_; rintro e wz ⟨rfl, hbz⟩; replace hcur := b_tr hcur hbz; clear hbz; clear x0 x1 x2 x3 x4 x5 x6 x7 x8 x9 x10 x11 x12 x13 x14; obtain ⟨x0, x1, x2, x3, x4, x5, x6, x7, x8, x9, x10, x11, x12, x13, x14⟩ := HCL.out _ hcur)
                | (go_at_call 64; refine (HOM.out _ hcur).mono ?_; rintro e wz ⟨rfl, hbz⟩; replace hcur := b_tr hcur hbz; clear hbz; clear x0 x1 x2 x3 x4 x5 x6 x7 x8 x9 x10 x11 x12 x13 x14; obtain ⟨x0, x1, x2, x3, x4, x5, x6, x7, x8, x9, x10, x11, x12, x13, x14⟩ := HCL.out _ hcur)
                | (go_at_call 65; refine (HIM.out _ hcur).mono ?_; rintro e w' ⟨rfl, rfl⟩)
                | (go_at_call 66; refine (HWM.out _ hcur).mono ?_; rintro e wz ⟨rfl, hbz⟩; replace hcur := b_tr hcur hbz; clear hbz; clear x0 x1 x2 x3 x4 x5 x6 x7 x8 x9 x10 x11 x12 x13 x14; obtain ⟨x0, x1, x2, x3, x4, x5, x6, x7, x8, x9, x10, x11, x12, x13, x14⟩ := HCL.out _ hcur)
                | (go_at_call 67; refine (HNM.out _ hcur).mono ?_; rintro e wz ⟨rfl, hbz⟩; replace hcur := b_tr hcur hbz; clear hbz; clear x0 x1 x2 x3 x4 x5 x6 x7 x8 x9 x10 x11 x12 x13 x14; obtain ⟨x0, x1, x2, x3, x4, x5, x6, x7, x8, x9, x10, x11, x12, x13, x14⟩ := HCL.out _ hcur))
              go_meet
              exact ⟨by rw [HZ.out], hcur⟩
      case rest =>
        obtain ⟨rfl, hcur2⟩ := hcut
        clear x0 x1 x2 x3 x4 x5 x6 x7 x8 x9 x10 x11 x12 x13 x14
        cases z3
        · have hr3 : R3 := yes_iff.1 (by have := HZ3.out; cases h : yes R3 <;> simp [h] at this ⊢)
          rw [HR3.out] at hr3
          have HRQ := Lib.hid hr3
          clear HN1 HY1 HZ3 hr3 hcur
          obtain ⟨x0, x1, x2, x3, x4, x5, x6, x7, x8, x9, x10, x11, x12, x13, x14⟩ := HCL.out _ hcur2
          have HALL : Hid ((0 < ln ∨ keep = 0 ∧ idle = 0) → yes (sesOk ⟨c, cl, ln, S, ⟨last, F, Q⟩, I, ⟨wi, wt, wp, wq, wr⟩, keep, idle⟩) = true) := Lib.hid (fun h => HYES.out ⟨HRR.out.1, HRR.out.2.1, HRR.out.2.2.1, HRR.out.2.2.2.1, HRR.out.2.2.2.2.1, HRR.out.2.2.2.2.2, HRQ.out.1, HRQ.out.2.1, HRQ.out.2.2.1, HRQ.out.2.2.2, h⟩)
          have HNOT : Hid (¬ (0 < ln ∨ keep = 0 ∧ idle = 0) → yes (sesOk ⟨c, cl, ln, S, ⟨last, F, Q⟩, I, ⟨wi, wt, wp, wq, wr⟩, keep, idle⟩) = false) := Lib.hid (fun h => HNO.out (fun h2 => h h2.2.2.2.2.2.2.2.2.2.2))
          by_cases h5 : 0 < ln
          · have HR := Lib.hid (HALL.out (.inl h5))
            go_wp2
            go_ret
            exact ⟨by rw [HR.out]; rfl, b_tr HB0.out hcur2⟩
          · by_cases h6 : keep = 0
            · have h6' : (keep == 0) = true := beq_iff_eq.2 h6
              by_cases h7 : idle = 0
              · have h7' : (idle == 0) = true := beq_iff_eq.2 h7
                have HR := Lib.hid (HALL.out (.inr ⟨h6, h7⟩))
                clear h6 h7
                go_wp2
                go_ret
                exact ⟨by rw [HR.out]; rfl, b_tr HB0.out hcur2⟩
              · have h7' : (idle == 0) = false := beq_eq_false_iff_ne.2 h7
                have HR := Lib.hid (HNOT.out (fun h => h.elim h5 (fun h => h7 h.2)))
                clear h6 h7
                go_wp2
                go_ret
                exact ⟨by rw [HR.out]; rfl, b_tr HB0.out hcur2⟩
            · have h6' : (keep == 0) = false := beq_eq_false_iff_ne.2 h6
              have HR := Lib.hid (HNOT.out (fun h => h.elim h5 (fun h => h6 h.1)))
              clear h6
              go_wp2
              go_ret
              exact ⟨by rw [HR.out]; rfl, b_tr HB0.out hcur2⟩
        · have HR := Lib.hid (HNO.out (fun h => by
            have h1 := HZ3.out
            rw [yes_true (show R3 by rw [HR3.out]; exact ⟨h.2.2.2.2.2.2.1, h.2.2.2.2.2.2.2.1, h.2.2.2.2.2.2.2.2.1, h.2.2.2.2.2.2.2.2.2.1⟩)] at h1
            cases h1))
          go_wp2
          go_ret
          exact ⟨by rw [HR.out]; rfl, b_tr HB0.out hcur2⟩
    · have HR := Lib.hid (HNO.out (fun h => by
        have h1 := HZ1.out
        rw [yes_true (show R1 by rw [HR1.out]; exact ⟨h.1, h.2.1, h.2.2.1, h.2.2.2.1, h.2.2.2.2.1, h.2.2.2.2.2.1⟩)] at h1
        cases h1))
      clear x0 x1 x2 x3 x4 x5 x6 x7 x8 x9 x10 x11 x12 x13 x14
      go_wp2
      go_ret
      exact ⟨by rw [HR.out]; rfl, b_tr HB0.out hcur2⟩
end Go.Proofs.YtknnaeejkmlnbaaGreatDoor
