/- The page's own: a session that lasts may be. -/


import Derived.Test.YtlehkaibbkblkaaGreatDoorGc
import Derived.Test.YtlehkaibbkblkaaGreatDoorRcMay2
import Derived.Test.YtlehkaibbkblkaaGreatDoorSbRef
import Derived.Test.YtlehkaibbkblkaaGreatDoorGd
import Derived.Test.YtlehkaibbkblkaaGreatDoorRcBy2
namespace Go.Proofs.YtlehkaibbkblkaaGreatDoor
open Go.RowKit Go.Shelf Go.Proofs
set_option maxRecDepth 20000 in
set_option maxHeartbeats 8000000 in
theorem rses_ok (w : World) (r : Rs) (h : SRd w w.heap.size r) (hs : sesOk r.s) (h0 : r.s.ln = 0 ∧ r.s.cl = false) (hE : Env w) :
    Calls Tryz.prog 38 #[seV r] w fun e w' => e = .returned (.bool true) ∧ Below w.heap.size w w' := by
  obtain ⟨B, hB⟩ : ∃ B, B = w.heap.size := ⟨_, rfl⟩
  obtain ⟨wa, hwa⟩ : ∃ wa, wa = w.alloc (.cells (seC r).toArray 52) := ⟨_, rfl⟩
  have hb0 : Below w.heap.size w wa := by rw [hwa]; exact (Below.refl _ _).alloc (Nat.le_refl _) _
  have hW : Whole wa B 52 (seC r) := by rw [hwa, hB]; exact Whole.new w 52 _
  have hE0 := hE.below hb0
  obtain ⟨⟨hc1, hc2⟩, _, _, hsub, hok, hid, hwl, hwn, _, _, hlk⟩ := hs
  obtain ⟨hl0, hcl⟩ := h0
  have hwi : r.s.wl.is = false := by
    cases hi : r.s.wl.is
    · rfl
    · exact absurd hl0 (hwn hi).1
  have hwl0 := hwl.1 hwi
  have hki : r.s.keep = 0 ∧ r.s.idle = 0 := by
    rcases hlk with h | h
    · omega
    · exact h
  have HCL := Lib.hid (fun wx (hx : Below wa.heap.size wa wx) => ses_whole (hW.belowH hx))
  have HRD : ∀ wx, Below wa.heap.size wa wx → SRd wx wx.heap.size r := fun wx hx => (((h.below hb0).more hb0.size).below hx).more hx.size
  have hSM := fun wx (hx : Below wa.heap.size wa wx) => rSubs_any wx _ r.s.S (HRD wx hx).s (fun i x hi => by have := (subs_f hsub).2 x (List.mem_of_getElem? hi); omega) (hE0.below hx)
  have HOM := Lib.hid (fun wx (hx : Below wa.heap.size wa wx) => rO_ok wx (.agg #[.int .i64 r.s.o.last, .slice r.fa r.s.o.F.length r.fc, .slice r.qa r.s.o.Q.length r.qc]) r.s.o ⟨_, _, rfl, (HRD wx hx).f, (HRD wx hx).q⟩ hok)
  have hRI := fun wx (hx : Below wa.heap.size wa wx) => Rising_any wx _ r.s.I _ (HRD wx hx).i (by have := hid.1; omega)
  have hBE := fun wx (hx : Below wa.heap.size wa wx) => Between_any wx _ r.s.I 1 65535 _ (HRD wx hx).i
  have hWM := fun wx (hx : Below wa.heap.size wa wx) => rWill_any wx r.s.wl (by rw [hwl0]; decide) (by rw [hwl0]; decide) (hE0.below hx)
  rw [hsub] at hSM
  rw [yes_true (show riseOk r.s.I from fun k x hx => (hid.2 k x hx).2.2)] at hRI
  rw [yes_true (show betw r.s.I 1 65535 from fun x hx => by
    obtain ⟨k, hk⟩ := List.getElem?_of_mem hx
    exact ⟨(hid.2 k x hk).1, (hid.2 k x hk).2.1⟩)] at hBE
  rw [yes_true hwl] at hWM
  have HSM := Lib.hid hSM
  have HRI := Lib.hid hRI
  have HBE2 := Lib.hid hBE
  have HWM := Lib.hid hWM
  have HB0 := Lib.hid hb0
  have HBE := Lib.hid hB
  have HWA : Hid (w.alloc (.cells (seC r).toArray 52) = wa) := Lib.hid hwa.symm
  have hil : r.s.I.length ≤ 16 := hid.1
  clear h hE hb0 hW hE0 HRD hB hwa hsub hok hid hwl hwn hlk hSM hRI hBE hWM
  obtain ⟨⟨c, cl, ln, S, ⟨last, F, Q⟩, I, ⟨wi, wt, wp, wq, wr⟩, keep, idle⟩, sa, sc, fa, fc, qa, qc, ia, ic⟩ := r
  simp only at hl0 hcl hwi hwl0 hki hc1 hc2 hil
  obtain ⟨hk0, hi0⟩ := hki
  subst hl0 hcl hwi hk0 hi0
  clear hwl0
  unfold seV wlV at *
  simp only [seC] at *
  obtain ⟨x0, x1, x2, x3, x4, x5, x6, x7, x8, x9, x10, x11, x12, x13, x14⟩ := HCL.out _ (Below.refl _ _)
  have hcur := Below.refl wa.heap.size wa
  have hc1' : ¬ ((c.size : Int) < 1) := by omega
  have hc2' : ¬ (46 < (c.size : Int)) := by omega
  have hil' : ¬ (16 < (I.length : Int)) := by omega
  go_enter Tryz.func38, Tryz.ntmps38
  go_upto_region 1 with fail
  rw [HWA.out, ← HBE.out]
  go_wp2_with first
    | (go_at_call 53; refine (nums_any _ _ _).mono ?_; rintro e w' ⟨rfl, rfl⟩)
    | (go_at_call 54; refine (HSM.out _ hcur).mono ?_; rintro e wz ⟨rfl, hbz⟩; replace hcur := b_tr hcur hbz; clear hbz; clear x0 x1 x2 x3 x4 x5 x6 x7 x8 x9 x10 x11 x12 x13 x14; obtain ⟨x0, x1, x2, x3, x4, x5, x6, x7, x8, x9, x10, x11, x12, x13, x14⟩ := HCL.out _ hcur)
    | (go_at_call 55; refine (HOM.out _ hcur).mono ?_; rintro e wz ⟨rfl, hbz⟩; replace hcur := b_tr hcur hbz; clear hbz; clear x0 x1 x2 x3 x4 x5 x6 x7 x8 x9 x10 x11 x12 x13 x14; obtain ⟨x0, x1, x2, x3, x4, x5, x6, x7, x8, x9, x10, x11, x12, x13, x14⟩ := HCL.out _ hcur)
    | (go_at_call 35; refine (HRI.out _ hcur).mono ?_; rintro e wz ⟨rfl, hbz⟩; replace hcur := b_tr hcur hbz; clear hbz; clear x0 x1 x2 x3 x4 x5 x6 x7 x8 x9 x10 x11 x12 x13 x14; obtain ⟨x0, x1, x2, x3, x4, x5, x6, x7, x8, x9, x10, x11, x12, x13, x14⟩ := HCL.out _ hcur)
    | (go_at_call 36; refine (HBE2.out _ hcur).mono ?_; rintro e w' ⟨rfl, rfl⟩)
    | (go_at_call 56; refine (HWM.out _ hcur).mono ?_; rintro e wz ⟨rfl, hbz⟩; replace hcur := b_tr hcur hbz; clear hbz; clear x0 x1 x2 x3 x4 x5 x6 x7 x8 x9 x10 x11 x12 x13 x14; obtain ⟨x0, x1, x2, x3, x4, x5, x6, x7, x8, x9, x10, x11, x12, x13, x14⟩ := HCL.out _ hcur)
  go_ret
  exact ⟨rfl, b_tr HB0.out hcur⟩
end Go.Proofs.YtlehkaibbkblkaaGreatDoor
