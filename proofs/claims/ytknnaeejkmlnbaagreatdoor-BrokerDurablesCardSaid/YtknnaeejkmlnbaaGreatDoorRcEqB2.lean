/- Sessions, brokers held against each other. -/


import Derived.Test.YtknnaeejkmlnbaaGreatDoorRcEqB
namespace Go.Proofs.YtknnaeejkmlnbaaGreatDoor
open Go.RowKit
set_option maxRecDepth 20000 in
set_option maxHeartbeats 4000000 in
theorem eqSs_any (w : World) (v1 v2 : Value) (A B : List Rs) (h1 : Rd w w.heap.size 15 v1 A.length (eS.cells A)) (h2 : Rd w w.heap.size 15 v2 B.length (eS.cells B)) (hA : ∀ r ∈ A, SRd w w.heap.size r) (hB : ∀ r ∈ B, SRd w w.heap.size r) :
    Calls Tryz.prog 29 #[v1, v2] w fun e w' => e = .returned (.bool (yes (A.map (·.s) = B.map (·.s)))) ∧ Below w.heap.size w w' := by
  obtain ⟨ao, cap, rfl, hc, hm⟩ := h1.form
  obtain ⟨bo, cap2, rfl, hc2, hm2⟩ := h2.form
  have hm' : cap ≤ 9223372036854775807 := by unfold maxLen at hm; omega
  have hm2' : cap2 ≤ 9223372036854775807 := by unfold maxLen at hm2; omega
  have H1 := Lib.hid h1
  have H2 := Lib.hid h2
  have HA := Lib.hid hA
  have HB := Lib.hid hB
  clear h1 h2 hm hm2 hA hB
  by_cases hl : A.length = B.length
  · have hl1 : ((A.length : Int) != (B.length : Int)) = false := by simp [hl]
    have hl2 : (A.length != B.length) = false := by simp [hl]
    have HLL := Lib.hid hl
    clear hl
    go_enter Tryz.func29, Tryz.ntmps29
    go_wp2
    go_loopw [5] (fun i wr => ∃ k : Nat, k ≤ A.length ∧ i = .int .i64 k ∧ Hid ((A.map (·.s)).take k = (B.map (·.s)).take k) ∧ Below w.heap.size w wr) (fun i _ => A.length - (intOf i).toNat)
    case atStart => exact ⟨0, by omega, rfl, Lib.hid rfl, Below.refl _ _⟩
    case round =>
      obtain ⟨k, hk, rfl, HK, hb⟩ := hrel
      by_cases hlt : k < A.length
      · obtain ⟨x, hx⟩ : ∃ x, A[k]? = some x := ⟨_, List.getElem?_eq_getElem hlt⟩
        obtain ⟨y, hy⟩ : ∃ y, B[k]? = some y := ⟨_, List.getElem?_eq_getElem (by have := HLL.out; omega)⟩
        obtain ⟨b, o, rfl, _, hcs⟩ := Enc.rd_cell (E := eS) (H1.out.below hb) rfl hx
        obtain ⟨b2, o2, rfl, _, hcs2⟩ := Enc.rd_cell (E := eS) (H2.out.below hb) rfl hy
        obtain ⟨x0, x1, x2, x3, x4, x5, x6, x7, x8, x9, x10, x11, x12, x13, x14⟩ := ses_cells (show World.rangeAt _ b (o + k * 15) (eS.c x) from hcs)
        obtain ⟨y0, y1, y2, y3, y4, y5, y6, y7, y8, y9, y10, y11, y12, y13, y14⟩ := ses_cells (show World.rangeAt _ b2 (o2 + k * 15) (eS.c y) from hcs2)
        have hkb : (k : Int) < (B.length : Int) := by have := HLL.out; omega
        have hkb' : k < B.length := by have := HLL.out; omega
        have hxs : (A.map (·.s))[k]? = some x.s := by rw [List.getElem?_map, hx]; rfl
        have hys : (B.map (·.s))[k]? = some y.s := by rw [List.getElem?_map, hy]; rfl
        have HEQ := Lib.hid (fun wx (hw : Below w.heap.size w wx) => eqS_any wx x y (((HA.out x (List.mem_of_getElem? hx)).below hw).more hw.size) (((HB.out y (List.mem_of_getElem? hy)).below hw).more hw.size))
        have HBAD : Hid (x.s ≠ y.s → yes (A.map (·.s) = B.map (·.s)) = false) := Lib.hid (fun hn => yes_false (fun e => hn (by rw [e, hys] at hxs; injection hxs with hxs; exact hxs.symm)))
        have HGOOD : Hid (x.s = y.s → (A.map (·.s)).take (k + 1) = (B.map (·.s)).take (k + 1)) := Lib.hid (fun e => by rw [List.take_add_one, List.take_add_one, HK.out, hxs, hys, e])
        clear hx hy hxs hys
        cases hz : yes (x.s = y.s)
        · have HR := Lib.hid (HBAD.out (yes_not.1 hz))
          rw [hz] at HEQ
          clear hz
          go_wp2
          refine wp_region_held_drew (S := fun wx => wx.cell? ⟨b, o + k * 15, none⟩ = some (.string x.s.c) ∧ wx.cell? ⟨b, o + k * 15 + 1, none⟩ = some (.bool x.s.cl) ∧ wx.cell? ⟨b, o + k * 15 + 2, none⟩ = some (.int .i64 x.s.ln) ∧ wx.cell? ⟨b, o + k * 15 + 3, none⟩ = some (.slice x.sa x.s.S.length x.sc) ∧ wx.cell? ⟨b, o + k * 15 + 4, none⟩ = some (.int .i64 x.s.o.last) ∧ wx.cell? ⟨b, o + k * 15 + 5, none⟩ = some (.slice x.fa x.s.o.F.length x.fc) ∧ wx.cell? ⟨b, o + k * 15 + 6, none⟩ = some (.slice x.qa x.s.o.Q.length x.qc) ∧ wx.cell? ⟨b, o + k * 15 + 7, none⟩ = some (.slice x.ia x.s.I.length x.ic) ∧ wx.cell? ⟨b, o + k * 15 + 8, none⟩ = some (.bool x.s.wl.is) ∧ wx.cell? ⟨b, o + k * 15 + 9, none⟩ = some (.string x.s.wl.t) ∧ wx.cell? ⟨b, o + k * 15 + 10, none⟩ = some (.string x.s.wl.p) ∧ wx.cell? ⟨b, o + k * 15 + 11, none⟩ = some (.int .i64 x.s.wl.q) ∧ wx.cell? ⟨b, o + k * 15 + 12, none⟩ = some (.bool x.s.wl.r) ∧ wx.cell? ⟨b, o + k * 15 + 13, none⟩ = some (.int .i64 x.s.keep) ∧ wx.cell? ⟨b, o + k * 15 + 14, none⟩ = some (.int .i64 x.s.idle) ∧ wx.cell? ⟨b2, o2 + k * 15, none⟩ = some (.string y.s.c) ∧ wx.cell? ⟨b2, o2 + k * 15 + 1, none⟩ = some (.bool y.s.cl) ∧ wx.cell? ⟨b2, o2 + k * 15 + 2, none⟩ = some (.int .i64 y.s.ln) ∧ wx.cell? ⟨b2, o2 + k * 15 + 3, none⟩ = some (.slice y.sa y.s.S.length y.sc) ∧ wx.cell? ⟨b2, o2 + k * 15 + 4, none⟩ = some (.int .i64 y.s.o.last) ∧ wx.cell? ⟨b2, o2 + k * 15 + 5, none⟩ = some (.slice y.fa y.s.o.F.length y.fc) ∧ wx.cell? ⟨b2, o2 + k * 15 + 6, none⟩ = some (.slice y.qa y.s.o.Q.length y.qc) ∧ wx.cell? ⟨b2, o2 + k * 15 + 7, none⟩ = some (.slice y.ia y.s.I.length y.ic) ∧ wx.cell? ⟨b2, o2 + k * 15 + 8, none⟩ = some (.bool y.s.wl.is) ∧ wx.cell? ⟨b2, o2 + k * 15 + 9, none⟩ = some (.string y.s.wl.t) ∧ wx.cell? ⟨b2, o2 + k * 15 + 10, none⟩ = some (.string y.s.wl.p) ∧ wx.cell? ⟨b2, o2 + k * 15 + 11, none⟩ = some (.int .i64 y.s.wl.q) ∧ wx.cell? ⟨b2, o2 + k * 15 + 12, none⟩ = some (.bool y.s.wl.r) ∧ wx.cell? ⟨b2, o2 + k * 15 + 13, none⟩ = some (.int .i64 y.s.keep) ∧ wx.cell? ⟨b2, o2 + k * 15 + 14, none⟩ = some (.int .i64 y.s.idle) ∧ Below w.heap.size w wx) (by kernel_rfl) ⟨x0, x1, x2, x3, x4, x5, x6, x7, x8, x9, x10, x11, x12, x13, x14, y0, y1, y2, y3, y4, y5, y6, y7, y8, y9, y10, y11, y12, y13, y14, hb.drew⟩ (fun hHeld => ?_)
          refine tk 0 (by assumption) ?_
          (try simp only [aPt])
          refine tk 1 (by assumption) ?_
          (try simp only [aPt])
          refine tk 2 (by assumption) ?_
          (try simp only [aPt])
          refine tk 3 (by assumption) ?_
          (try simp only [aPt])
          refine tk 4 (by assumption) ?_
          (try simp only [aPt])
          refine tk 5 (by assumption) ?_
          (try simp only [aPt])
          refine tk 6 (by assumption) ?_
          (try simp only [aPt])
          refine tk 7 (by assumption) ?_
          (try simp only [aPt])
          refine wpAnyH_ready (rs := [8]) (by kernel_rfl) (by simp) ?_
          refine call_h 8 ⟨?_, ?_, fun K hK => ?_⟩
          rotate_left 1
          · (simp only [List.getElem?_toArray, List.getElem?_cons_succ, List.getElem?_cons_zero]; exact rfl)
          go_simp
          (go_at_call 59; refine (HEQ.out _ hb.drew).mono ?_; rintro e wz ⟨rfl, hbz⟩)
          go_wp2_with fail
          have hbz2 := b_tr hb.drew hbz
          obtain ⟨x0, x1, x2, x3, x4, x5, x6, x7, x8, x9, x10, x11, x12, x13, x14⟩ := ses_cells (show World.rangeAt wz b (o + k * 15) (eS.c x) from fun j v hv => b_cell hbz (hcs j v hv))
          obtain ⟨y0, y1, y2, y3, y4, y5, y6, y7, y8, y9, y10, y11, y12, y13, y14⟩ := ses_cells (show World.rangeAt wz b2 (o2 + k * 15) (eS.c y) from fun j v hv => b_cell hbz (hcs2 j v hv))
          refine hK.out _ _ ⟨x0, x1, x2, x3, x4, x5, x6, x7, x8, x9, x10, x11, x12, x13, x14, y0, y1, y2, y3, y4, y5, y6, y7, y8, y9, y10, y11, y12, y13, y14, hbz2⟩ (fun hHeld => ?_)
          clear hK K
          (try simp only [aPt])
          refine tk 9 (by assumption) ?_
          (try simp only [aPt])
          refine wpAnyH_done (by kernel_rfl) ?_ _
          clear hHeld x0 x1 x2 x3 x4 x5 x6 x7 x8 x9 x10 x11 x12 x13 x14 y0 y1 y2 y3 y4 y5 y6 y7 y8 y9 y10 y11 y12 y13 y14
          go_wp2
          go_ret
          exact ⟨by rw [HR.out]; rfl, hbz2⟩
        · have HG := Lib.hid (HGOOD.out (yes_iff.1 hz))
          rw [hz] at HEQ
          clear hz
          go_wp2
          refine wp_region_held_drew (S := fun wx => wx.cell? ⟨b, o + k * 15, none⟩ = some (.string x.s.c) ∧ wx.cell? ⟨b, o + k * 15 + 1, none⟩ = some (.bool x.s.cl) ∧ wx.cell? ⟨b, o + k * 15 + 2, none⟩ = some (.int .i64 x.s.ln) ∧ wx.cell? ⟨b, o + k * 15 + 3, none⟩ = some (.slice x.sa x.s.S.length x.sc) ∧ wx.cell? ⟨b, o + k * 15 + 4, none⟩ = some (.int .i64 x.s.o.last) ∧ wx.cell? ⟨b, o + k * 15 + 5, none⟩ = some (.slice x.fa x.s.o.F.length x.fc) ∧ wx.cell? ⟨b, o + k * 15 + 6, none⟩ = some (.slice x.qa x.s.o.Q.length x.qc) ∧ wx.cell? ⟨b, o + k * 15 + 7, none⟩ = some (.slice x.ia x.s.I.length x.ic) ∧ wx.cell? ⟨b, o + k * 15 + 8, none⟩ = some (.bool x.s.wl.is) ∧ wx.cell? ⟨b, o + k * 15 + 9, none⟩ = some (.string x.s.wl.t) ∧ wx.cell? ⟨b, o + k * 15 + 10, none⟩ = some (.string x.s.wl.p) ∧ wx.cell? ⟨b, o + k * 15 + 11, none⟩ = some (.int .i64 x.s.wl.q) ∧ wx.cell? ⟨b, o + k * 15 + 12, none⟩ = some (.bool x.s.wl.r) ∧ wx.cell? ⟨b, o + k * 15 + 13, none⟩ = some (.int .i64 x.s.keep) ∧ wx.cell? ⟨b, o + k * 15 + 14, none⟩ = some (.int .i64 x.s.idle) ∧ wx.cell? ⟨b2, o2 + k * 15, none⟩ = some (.string y.s.c) ∧ wx.cell? ⟨b2, o2 + k * 15 + 1, none⟩ = some (.bool y.s.cl) ∧ wx.cell? ⟨b2, o2 + k * 15 + 2, none⟩ = some (.int .i64 y.s.ln) ∧ wx.cell? ⟨b2, o2 + k * 15 + 3, none⟩ = some (.slice y.sa y.s.S.length y.sc) ∧ wx.cell? ⟨b2, o2 + k * 15 + 4, none⟩ = some (.int .i64 y.s.o.last) ∧ wx.cell? ⟨b2, o2 + k * 15 + 5, none⟩ = some (.slice y.fa y.s.o.F.length y.fc) ∧ wx.cell? ⟨b2, o2 + k * 15 + 6, none⟩ = some (.slice y.qa y.s.o.Q.length y.qc) ∧ wx.cell? ⟨b2, o2 + k * 15 + 7, none⟩ = some (.slice y.ia y.s.I.length y.ic) ∧ wx.cell? ⟨b2, o2 + k * 15 + 8, none⟩ = some (.bool y.s.wl.is) ∧ wx.cell? ⟨b2, o2 + k * 15 + 9, none⟩ = some (.string y.s.wl.t) ∧ wx.cell? ⟨b2, o2 + k * 15 + 10, none⟩ = some (.string y.s.wl.p) ∧ wx.cell? ⟨b2, o2 + k * 15 + 11, none⟩ = some (.int .i64 y.s.wl.q) ∧ wx.cell? ⟨b2, o2 + k * 15 + 12, none⟩ = some (.bool y.s.wl.r) ∧ wx.cell? ⟨b2, o2 + k * 15 + 13, none⟩ = some (.int .i64 y.s.keep) ∧ wx.cell? ⟨b2, o2 + k * 15 + 14, none⟩ = some (.int .i64 y.s.idle) ∧ Below w.heap.size w wx) (by kernel_rfl) ⟨x0, x1, x2, x3, x4, x5, x6, x7, x8, x9, x10, x11, x12, x13, x14, y0, y1, y2, y3, y4, y5, y6, y7, y8, y9, y10, y11, y12, y13, y14, hb.drew⟩ (fun hHeld => ?_)
          refine tk 0 (by assumption) ?_
          (try simp only [aPt])
          refine tk 1 (by assumption) ?_
          (try simp only [aPt])
          refine tk 2 (by assumption) ?_
          (try simp only [aPt])
          refine tk 3 (by assumption) ?_
          (try simp only [aPt])
          refine tk 4 (by assumption) ?_
          (try simp only [aPt])
          refine tk 5 (by assumption) ?_
          (try simp only [aPt])
          refine tk 6 (by assumption) ?_
          (try simp only [aPt])
          refine tk 7 (by assumption) ?_
          (try simp only [aPt])
          refine wpAnyH_ready (rs := [8]) (by kernel_rfl) (by simp) ?_
          refine call_h 8 ⟨?_, ?_, fun K hK => ?_⟩
          rotate_left 1
          · (simp only [List.getElem?_toArray, List.getElem?_cons_succ, List.getElem?_cons_zero]; exact rfl)
          go_simp
          (go_at_call 59; refine (HEQ.out _ hb.drew).mono ?_; rintro e wz ⟨rfl, hbz⟩)
          go_wp2_with fail
          have hbz2 := b_tr hb.drew hbz
          obtain ⟨x0, x1, x2, x3, x4, x5, x6, x7, x8, x9, x10, x11, x12, x13, x14⟩ := ses_cells (show World.rangeAt wz b (o + k * 15) (eS.c x) from fun j v hv => b_cell hbz (hcs j v hv))
          obtain ⟨y0, y1, y2, y3, y4, y5, y6, y7, y8, y9, y10, y11, y12, y13, y14⟩ := ses_cells (show World.rangeAt wz b2 (o2 + k * 15) (eS.c y) from fun j v hv => b_cell hbz (hcs2 j v hv))
          refine hK.out _ _ ⟨x0, x1, x2, x3, x4, x5, x6, x7, x8, x9, x10, x11, x12, x13, x14, y0, y1, y2, y3, y4, y5, y6, y7, y8, y9, y10, y11, y12, y13, y14, hbz2⟩ (fun hHeld => ?_)
          clear hK K
          (try simp only [aPt])
          refine tk 9 (by assumption) ?_
          (try simp only [aPt])
          refine wpAnyH_done (by kernel_rfl) ?_ _
          clear hHeld x0 x1 x2 x3 x4 x5 x6 x7 x8 x9 x10 x11 x12 x13 x14 y0 y1 y2 y3 y4 y5 y6 y7 y8 y9 y10 y11 y12 y13 y14
          go_wp2
          go_roundw
          case rel => exact ⟨k + 1, by omega, by go_num, HG, hbz2⟩
          case measure => simp [intOf]; omega
      · have HE : Hid (yes (A.map (·.s) = B.map (·.s)) = true) := Lib.hid (yes_true (by
          have h := HK.out
          rw [List.take_of_length_le (by simp; omega), List.take_of_length_le (by simp; have := HLL.out; omega)] at h
          exact h))
        go_wp2
        go_ret
        exact ⟨by rw [HE.out]; rfl, hb⟩
  · have hl1 : ((A.length : Int) != (B.length : Int)) = true := bne_iff_ne.2 (by omega)
    have hl2 : (A.length != B.length) = true := bne_iff_ne.2 hl
    have HE : Hid (yes (A.map (·.s) = B.map (·.s)) = false) := Lib.hid (yes_false (fun e => hl (by have := congrArg List.length e; simpa using this)))
    clear hl
    go_enter Tryz.func29, Tryz.ntmps29
    go_wp2
    go_ret
    exact ⟨by rw [HE.out]; rfl, Below.refl _ _⟩
set_option maxRecDepth 20000 in
set_option maxHeartbeats 4000000 in
theorem eqB_any (w : World) (lv sv kv lv2 sv2 kv2 : Value) (R R2 : List Rs) (a b : Br) (h1 : BRd w w.heap.size lv sv kv R a) (h2 : BRd w w.heap.size lv2 sv2 kv2 R2 b) :
    Calls Tryz.prog 10 #[.agg #[lv, sv, kv], .agg #[lv2, sv2, kv2]] w fun e w' => e = .returned (.bool (yes (a = b))) ∧ Below w.heap.size w w' := by
  obtain ⟨wa, hwa⟩ : ∃ wa, (w.alloc (.cells #[lv, sv, kv] 26)).alloc (.cells #[lv2, sv2, kv2] 26) = wa := ⟨_, rfl⟩
  have hb0 : Below w.heap.size w wa := by rw [← hwa]; go_grown
  have hA : Whole wa w.heap.size 26 [lv, sv, kv] := by rw [← hwa]; exact (Whole.new w 26 _).alloc _
  have hB : Whole wa (w.heap.size + 1) 26 [lv2, sv2, kv2] := by
    rw [← hwa]
    have := Whole.new (w.alloc (.cells #[lv, sv, kv] 26)) 26 [lv2, sv2, kv2]
    simpa using this
  obtain ⟨la, lc, rfl, _, _⟩ := h1.l.form
  obtain ⟨sa, sc, rfl, _, _⟩ := h1.s.form
  obtain ⟨ka, kc, rfl, _, _⟩ := h1.k.form
  obtain ⟨la2, lc2, rfl, _, _⟩ := h2.l.form
  obtain ⟨sa2, sc2, rfl, _, _⟩ := h2.s.form
  obtain ⟨ka2, kc2, rfl, _, _⟩ := h2.k.form
  have hg1 := fun wx (hx : Below wa.heap.size wa wx) => ((h1.below hb0).below (hx.mono hb0.size)).more (Nat.le_trans hb0.size hx.size)
  have hg2 := fun wx (hx : Below wa.heap.size wa wx) => ((h2.below hb0).below (hx.mono hb0.size)).more (Nat.le_trans hb0.size hx.size)
  have HLI := Lib.hid (fun wx (hx : Below wa.heap.size wa wx) => eqI wx _ _ a.L b.L _ _ (hg1 wx hx).l (hg2 wx hx).l)
  have HSS := Lib.hid (fun wx (hx : Below wa.heap.size wa wx) => eqSs_any wx _ _ R R2 (hg1 wx hx).s (hg2 wx hx).s (hg1 wx hx).r (hg2 wx hx).r)
  have HKK := Lib.hid (fun wx (hx : Below wa.heap.size wa wx) => eqM wx _ _ a.K b.K _ _ (hg1 wx hx).k (hg2 wx hx).k)
  have HCA := Lib.hid (fun wx (hx : Below wa.heap.size wa wx) => (hA.belowH hx).three)
  have HCB := Lib.hid (fun wx (hx : Below wa.heap.size wa wx) => (hB.belowH hx).three)
  have HWA := Lib.hid hwa
  have HB0 := Lib.hid hb0
  have hcur := Below.refl wa.heap.size wa
  obtain ⟨x0, x1, x2, _, _, _⟩ := HCA.out _ hcur
  obtain ⟨y0, y1, y2, _, _, _⟩ := HCB.out _ hcur
  have HE : Hid (yes (a = b) = (yes (a.L = b.L) && (yes (R.map (·.s) = R2.map (·.s)) && yes (a.K = b.K)))) := Lib.hid (by
    rw [h1.e, h2.e]
    obtain ⟨a1, a2, a3⟩ := a
    obtain ⟨b1, b2, b3⟩ := b
    simp only
    by_cases e1 : a1 = b1
    · by_cases e2 : a2 = b2
      · by_cases e3 : a3 = b3
        · rw [yes_true e1, yes_true e2, yes_true e3]; exact yes_true (by rw [e1, e2, e3])
        · rw [yes_false e3, yes_false (fun e => e3 (by injection e))]; simp
      · rw [yes_false e2, yes_false (fun e => e2 (by injection e))]; simp
    · rw [yes_false e1, yes_false (fun e => e1 (by injection e))]; simp)
  clear hwa hb0 hA hB h1 h2 hg1 hg2
  obtain ⟨q1, hq1⟩ : ∃ q, yes (a.L = b.L) = q := ⟨_, rfl⟩
  obtain ⟨q2, hq2⟩ : ∃ q, yes (R.map (·.s) = R2.map (·.s)) = q := ⟨_, rfl⟩
  obtain ⟨q3, hq3⟩ : ∃ q, yes (a.K = b.K) = q := ⟨_, rfl⟩
  rw [hq1] at HLI HE
  rw [hq2] at HSS HE
  rw [hq3] at HKK HE
  rw [HE.out]
  clear hq1 hq2 hq3 HE
  cases q1
  · go_enter Tryz.func10, Tryz.ntmps10
    go_upto_region 1 with fail
    rw [HWA.out]
    go_wp2_with (go_at_call 28; refine (HLI.out _ hcur).mono ?_; rintro e wz ⟨rfl, hbz⟩; replace hcur := b_tr hcur hbz; clear hbz x0 x1 x2 y0 y1 y2; obtain ⟨x0, x1, x2, _, _, _⟩ := HCA.out _ hcur; obtain ⟨y0, y1, y2, _, _, _⟩ := HCB.out _ hcur)
    go_ret
    exact ⟨rfl, b_tr HB0.out hcur⟩
  · cases q2
    · go_enter Tryz.func10, Tryz.ntmps10
      go_upto_region 1 with fail
      rw [HWA.out]
      go_wp2_with first | (go_at_call 28; refine (HLI.out _ hcur).mono ?_; rintro e wz ⟨rfl, hbz⟩; replace hcur := b_tr hcur hbz; clear hbz x0 x1 x2 y0 y1 y2; obtain ⟨x0, x1, x2, _, _, _⟩ := HCA.out _ hcur; obtain ⟨y0, y1, y2, _, _, _⟩ := HCB.out _ hcur) | (go_at_call 29; refine (HSS.out _ hcur).mono ?_; rintro e wz ⟨rfl, hbz⟩; replace hcur := b_tr hcur hbz; clear hbz x0 x1 x2 y0 y1 y2; obtain ⟨x0, x1, x2, _, _, _⟩ := HCA.out _ hcur; obtain ⟨y0, y1, y2, _, _, _⟩ := HCB.out _ hcur)
      go_ret
      exact ⟨rfl, b_tr HB0.out hcur⟩
    · go_enter Tryz.func10, Tryz.ntmps10
      go_upto_region 1 with fail
      rw [HWA.out]
      go_wp2_with first | (go_at_call 28; refine (HLI.out _ hcur).mono ?_; rintro e wz ⟨rfl, hbz⟩; replace hcur := b_tr hcur hbz; clear hbz x0 x1 x2 y0 y1 y2; obtain ⟨x0, x1, x2, _, _, _⟩ := HCA.out _ hcur; obtain ⟨y0, y1, y2, _, _, _⟩ := HCB.out _ hcur) | (go_at_call 29; refine (HSS.out _ hcur).mono ?_; rintro e wz ⟨rfl, hbz⟩; replace hcur := b_tr hcur hbz; clear hbz x0 x1 x2 y0 y1 y2; obtain ⟨x0, x1, x2, _, _, _⟩ := HCA.out _ hcur; obtain ⟨y0, y1, y2, _, _, _⟩ := HCB.out _ hcur) | (go_at_call 30; refine (HKK.out _ hcur).mono ?_; rintro e wz ⟨rfl, hbz⟩; replace hcur := b_tr hcur hbz; clear hbz x0 x1 x2 y0 y1 y2; obtain ⟨x0, x1, x2, _, _, _⟩ := HCA.out _ hcur; obtain ⟨y0, y1, y2, _, _, _⟩ := HCB.out _ hcur)
      go_ret
      exact ⟨by simp, b_tr HB0.out hcur⟩
end Go.Proofs.YtknnaeejkmlnbaaGreatDoor
