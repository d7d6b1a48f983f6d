/- The page's own: a broker that lasts may be. -/


import Derived.Test.YtlehkaibbkblkaaGreatDoorRaSes
namespace Go.Proofs.YtlehkaibbkblkaaGreatDoor
open Go.RowKit Go.Shelf Go.Proofs
set_option maxRecDepth 20000 in
set_option maxHeartbeats 8000000 in
theorem rbMay_ok (w : World) (lv sv kv : Value) (R : List Rs) (b : Br) (h : BRd w w.heap.size lv sv kv R b) (hk : rmOk b) (hE : Env w) :
    Calls Tryz.prog 22 #[.agg #[lv, sv, kv]] w fun e w' => e = .returned (.bool true) ∧ Below w.heap.size w w' := by
  obtain ⟨L, S, K⟩ := b
  obtain ⟨hRe, hRl, hRs, hRr, hRk⟩ := h
  obtain ⟨⟨hk1, hk2, _, hk4, _⟩, hk6, hk7⟩ := hk
  simp only at hRe hRl hRk hk1 hk2 hk4 hk6 hk7
  subst hRe hk6
  obtain ⟨la, lc, rfl, _, hlm⟩ := hRl.form
  obtain ⟨sa, sc, rfl, _, hsm⟩ := hRs.form
  obtain ⟨ka, kc, rfl, _, _⟩ := hRk.form
  have hsc : sc ≤ 9223372036854775807 := by unfold maxLen at hsm; omega
  have hrl : R.length ≤ 8 := by simpa using hk1
  obtain ⟨wa, hwa⟩ : ∃ wa, w.alloc (.cells #[.slice la 0 lc, .slice sa R.length sc, .slice ka K.length kc] 29) = wa := ⟨_, rfl⟩
  have hb0 : Below w.heap.size w wa := by rw [← hwa]; exact (Below.refl _ _).alloc (Nat.le_refl _) _
  have hW : Whole wa w.heap.size 29 [.slice la 0 lc, .slice sa R.length sc, .slice ka K.length kc] := by rw [← hwa]; exact Whole.new w 29 _
  have HCL := Lib.hid (fun wx (hx : Below wa.heap.size wa wx) => (hW.belowH hx).three)
  have hRI := fun wx (hx : Below wa.heap.size wa wx) => Rising_any wx (.slice la 0 lc) [] _ ((hRl.below hb0).below (hx.mono hb0.size)) (by simp)
  have hBE := fun wx (hx : Below wa.heap.size wa wx) => Between_any wx (.slice la 0 lc) [] 1 1099511627776 _ ((hRl.below hb0).below (hx.mono hb0.size))
  have hKP := fun wx (hx : Below wa.heap.size wa wx) => Kq.rKept_any wx _ (K.map k1) (by rw [k1_cells, List.length_map]; exact ((hRk.below hb0).below (hx.mono hb0.size)).more (Nat.le_trans hb0.size hx.size)) (fun i x hi => by
    obtain ⟨m, hm, rfl⟩ := List.mem_map.1 (List.mem_of_getElem? hi)
    have := (kept_f hk2).2 m hm
    simp only [k1]
    omega) ((hE.below hb0).below hx)
  rw [yes_true (show riseOk [] from fun k x hx => by simp at hx)] at hRI
  rw [yes_true (show betw [] 1 1099511627776 from fun x hx => by simp at hx)] at hBE
  rw [hk2] at hKP
  have HRI := Lib.hid hRI
  have HBE := Lib.hid hBE
  have HKP := Lib.hid hKP
  have HRS := Lib.hid (fun wx (hx : Below wa.heap.size wa wx) => (hRs.below hb0).below (hx.mono hb0.size))
  have HRR := Lib.hid (fun x (hm : x ∈ R) wx (hx : Below wa.heap.size wa wx) => (((hRr x hm).below hb0).below (hx.mono hb0.size)).more (Nat.le_trans hb0.size hx.size))
  have HEE := Lib.hid (fun wx (hx : Below wa.heap.size wa wx) => (hE.below hb0).below hx)
  have HK4 := Lib.hid hk4
  have HK7 := Lib.hid hk7
  have HWA := Lib.hid hwa
  have HB0 := Lib.hid hb0
  have hr1 : ¬ (8 < (R.length : Int)) := by omega
  obtain ⟨c0, c1, c2, _, _, _⟩ := hW.three
  clear hRl hRs hRr hRk hk2 hk4 hk7 hE hwa hb0 hW hRI hBE hKP hlm hsm hk1
  have hcur := Below.refl wa.heap.size wa
  go_enter Tryz.func22, Tryz.ntmps22
  go_upto_region 1 with fail
  simp only [List.length_nil] at *
  rw [HWA.out]
  go_wp2_with first
    | (go_at_call 35; refine (HRI.out _ hcur).mono ?_; rintro e wz ⟨rfl, hbz⟩; replace hcur := b_tr hcur hbz; clear hbz c0 c1 c2; obtain ⟨c0, c1, c2, _, _, _⟩ := HCL.out _ hcur)
    | (go_at_call 36; refine (HBE.out _ hcur).mono ?_; rintro e w' ⟨rfl, rfl⟩)
    | (go_at_call 37; refine (HKP.out _ hcur).mono ?_; rintro e wz ⟨rfl, hbz⟩; replace hcur := b_tr hcur hbz; clear hbz c0 c1 c2; obtain ⟨c0, c1, c2, _, _, _⟩ := HCL.out _ hcur)
  go_loopw [3, 4] (fun n i wr => ∃ k : Nat, k ≤ R.length ∧ n = .int .i64 0 ∧ i = .int .i64 k ∧ Below wa.heap.size wa wr) (fun _ i _ => R.length - (intOf i).toNat)
  case atStart => exact ⟨0, by omega, rfl, rfl, hcur⟩
  case round =>
    clear hcur c0 c1 c2
    obtain ⟨k, hkl, rfl, rfl, hb⟩ := hrel
    obtain ⟨c0, c1, c2, _, _, _⟩ := HCL.out _ hb
    by_cases hlt : k < R.length
    · have hlt' : (k : Int) < (R.length : Int) := by omega
      obtain ⟨x, hx⟩ : ∃ x, R[k]? = some x := ⟨_, List.getElem?_eq_getElem hlt⟩
      obtain ⟨b, o, rfl, _, hcs⟩ := Enc.rd_cell (E := eS) (HRS.out _ hb) rfl hx
      have hxs : (R.map (·.s))[k]? = some x.s := by rw [List.getElem?_map, hx]; rfl
      obtain ⟨hso, hord, _⟩ := HK4.out k x.s hxs
      have h07 := HK7.out x.s (List.mem_of_getElem? hxs)
      have HLN0 := Lib.hid h07.1
      obtain ⟨x0, x1, x2, x3, x4, x5, x6, x7, x8, x9, x10, x11, x12, x13, x14⟩ := ses_cells (show World.rangeAt _ b (o + k * 15) (eS.c x) from hcs)
      obtain ⟨wT, hwT⟩ : ∃ wT, wr.alloc (.cells (seC x).toArray 52) = wT := ⟨_, rfl⟩
      have hbT : Below wr.heap.size wr wT := by rw [← hwT]; exact (Below.refl _ _).alloc (Nat.le_refl _) _
      have hWT : Whole wT wr.heap.size 52 (seC x) := by rw [← hwT]; exact Whole.new wr 52 _
      obtain ⟨T, hT⟩ : ∃ T, wr.heap.size = T := ⟨_, rfl⟩
      rw [hT] at hWT
      have HT := Lib.hid hT
      clear hT
      have HSE := Lib.hid (fun wx (hx2 : Below wT.heap.size wT wx) => rses_ok wx x (HRR.out x (List.mem_of_getElem? hx) wx (b_tr (b_tr hb hbT) hx2)) hso h07 (HEE.out wx (b_tr (b_tr hb hbT) hx2)))
      have HWT := Lib.hid hwT
      simp only [seC] at HWT
      have hcw := b_cell hbT c1
      have HX := Lib.hid hx
      have HO := Lib.hid hord
      have HWH := Lib.hid (fun wx (hx2 : Below wT.heap.size wT wx) => ses_whole (hWT.belowH hx2))
      by_cases hk1 : k = 0
      · have hi0 : decide ((0 : Int) < (k : Int)) = false := decide_eq_false (by omega)
        have hi0' : ¬ (0 < k) := by omega
        have hi0'' : decide (0 < k) = false := decide_eq_false hi0'
        clear hx hord hso h07 hcs hwT hxs hk1
        go_upto_region 8 with fail
        rw [HWT.out, HT.out]
        clear x0 x1 x2 x3 x4 x5 x6 x7 x8 x9 x10 x11 x12 x13 x14 c0 c1 c2
        obtain ⟨x0, x1, x2, x3, x4, x5, x6, x7, x8, x9, x10, x11, x12, x13, x14⟩ := HWH.out _ (Below.refl _ _)
        refine wp_region_held_drew (S := fun wx => wx.cell? ⟨w.heap.size, 1, none⟩ = some (.slice (some ⟨b, o, none⟩) R.length sc) ∧ wx.cell? ⟨T, 0, none⟩ = some (.string x.s.c) ∧ wx.cell? ⟨T, 1, none⟩ = some (.bool x.s.cl) ∧ wx.cell? ⟨T, 2, none⟩ = some (.int .i64 x.s.ln) ∧ wx.cell? ⟨T, 3, none⟩ = some (.slice x.sa x.s.S.length x.sc) ∧ wx.cell? ⟨T, 4, none⟩ = some (.int .i64 x.s.o.last) ∧ wx.cell? ⟨T, 5, none⟩ = some (.slice x.fa x.s.o.F.length x.fc) ∧ wx.cell? ⟨T, 6, none⟩ = some (.slice x.qa x.s.o.Q.length x.qc) ∧ wx.cell? ⟨T, 7, none⟩ = some (.slice x.ia x.s.I.length x.ic) ∧ wx.cell? ⟨T, 8, none⟩ = some (.bool x.s.wl.is) ∧ wx.cell? ⟨T, 9, none⟩ = some (.string x.s.wl.t) ∧ wx.cell? ⟨T, 10, none⟩ = some (.string x.s.wl.p) ∧ wx.cell? ⟨T, 11, none⟩ = some (.int .i64 x.s.wl.q) ∧ wx.cell? ⟨T, 12, none⟩ = some (.bool x.s.wl.r) ∧ wx.cell? ⟨T, 13, none⟩ = some (.int .i64 x.s.keep) ∧ wx.cell? ⟨T, 14, none⟩ = some (.int .i64 x.s.idle)) (by kernel_rfl) ⟨hcw, x0, x1, x2, x3, x4, x5, x6, x7, x8, x9, x10, x11, x12, x13, x14⟩ (fun hHeld => ?_)
        refine tk 0 (by assumption) ?_
        (try simp only [Act.put, List.setIfInBounds_toArray, List.set_cons_zero, List.set_cons_succ])
        refine wpAnyH_ready (rs := [1]) (by kernel_rfl) (by simp) ?_
        refine call_h 1 ⟨?_, ?_, fun K hK => ?_⟩
        rotate_left 1
        · (simp only [List.getElem?_toArray, List.getElem?_cons_succ, List.getElem?_cons_zero]; exact rfl)
        go_simp
        (go_at_call 38; refine (HSE.out _ (Below.refl wT.heap.size wT).drew).mono ?_; rintro e wz ⟨rfl, hbz⟩)
        go_wp2_with fail
        refine hK.out _ _ ⟨b_cell hbz hcw, HWH.out _ (b_tr (Below.refl wT.heap.size wT).drew hbz)⟩ (fun hHeld => ?_)
        clear hK K
        (try simp only [Act.put, List.setIfInBounds_toArray, List.set_cons_zero, List.set_cons_succ])
        refine tk 2 (by assumption) ?_
        (try simp only [Act.put, List.setIfInBounds_toArray, List.set_cons_zero, List.set_cons_succ])
        refine tk 3 (by assumption) ?_
        (try simp only [Act.put, List.setIfInBounds_toArray, List.set_cons_zero, List.set_cons_succ])
        refine tk 4 (by assumption) ?_
        (try simp only [Act.put, List.setIfInBounds_toArray, List.set_cons_zero, List.set_cons_succ])
        refine tk 5 (by assumption) ?_
        (try simp only [Act.put, List.setIfInBounds_toArray, List.set_cons_zero, List.set_cons_succ])
        refine tk 6 (by assumption) ?_
        (try simp only [Act.put, List.setIfInBounds_toArray, List.set_cons_zero, List.set_cons_succ])
        refine tk 7 (by assumption) ?_
        (try simp only [Act.put, List.setIfInBounds_toArray, List.set_cons_zero, List.set_cons_succ])
        refine tk 8 (by assumption) ?_
        (try simp only [Act.put, List.setIfInBounds_toArray, List.set_cons_zero, List.set_cons_succ])
        refine tk 9 (by assumption) ?_
        (try simp only [Act.put, List.setIfInBounds_toArray, List.set_cons_zero, List.set_cons_succ])
        refine tk 10 (by assumption) ?_
        (try simp only [Act.put, List.setIfInBounds_toArray, List.set_cons_zero, List.set_cons_succ])
        refine tk 11 (by assumption) ?_
        (try simp only [Act.put, List.setIfInBounds_toArray, List.set_cons_zero, List.set_cons_succ])
        refine tk 12 (by assumption) ?_
        (try simp only [Act.put, List.setIfInBounds_toArray, List.set_cons_zero, List.set_cons_succ])
        refine tk 13 (by assumption) ?_
        (try simp only [Act.put, List.setIfInBounds_toArray, List.set_cons_zero, List.set_cons_succ])
        refine tk 14 (by assumption) ?_
        (try simp only [Act.put, List.setIfInBounds_toArray, List.set_cons_zero, List.set_cons_succ])
        refine tk 15 (by assumption) ?_
        (try simp only [Act.put, List.setIfInBounds_toArray, List.set_cons_zero, List.set_cons_succ])
        refine tk 16 (by assumption) ?_
        (try simp only [Act.put, List.setIfInBounds_toArray, List.set_cons_zero, List.set_cons_succ])
        refine tk 17 (by assumption) ?_
        (try simp only [Act.put, List.setIfInBounds_toArray, List.set_cons_zero, List.set_cons_succ])
        refine tk 18 (by assumption) ?_
        (try simp only [Act.put, List.setIfInBounds_toArray, List.set_cons_zero, List.set_cons_succ])
        refine wpAnyH_done (by kernel_rfl) ?_ _
        clear hHeld
        have hbc := b_tr (hb.trans (hbT.mono hb.size)) (b_tr (Below.refl wT.heap.size wT).drew hbz)
        have d2 := b_cell (b_tr (Below.refl wT.heap.size wT).drew hbz) x2
        rw [HLN0.out] at d2
        clear x0 x1 x2 x3 x4 x5 x6 x7 x8 x9 x10 x11 x12 x13 x14
        go_wp2
        go_roundw
        case rel => exact ⟨k + 1, by omega, rfl, by go_num, hbc⟩
        case measure => simp [intOf]; omega
      · obtain ⟨j, hj⟩ : ∃ j, k = j + 1 := ⟨k - 1, by omega⟩
        obtain ⟨y, hy⟩ : ∃ y, R[j]? = some y := ⟨_, List.getElem?_eq_getElem (by omega)⟩
        obtain ⟨b', o', he, _, hcs2⟩ := Enc.rd_cell (E := eS) (HRS.out _ (b_tr hb hbT)) rfl hy
        injection he with he
        injection he with he1 he2
        subst he1 he2
        have y0 : wT.cell? ⟨b, o + j * 15, none⟩ = some (.string y.s.c) := hcs2 0 _ rfl
        have hls : Op.bytesLess y.s.c.toList x.s.c.toList = true := HO.out j y.s hj.symm (by rw [List.getElem?_map, hy]; rfl)
        have hi0 : decide ((0 : Int) < (k : Int)) = true := decide_eq_true (by omega)
        have hi0' : 0 < k := by omega
        have hi0'' : decide (0 < k) = true := decide_eq_true hi0'
        have hj0 : (0 : Int) ≤ (j : Int) := by omega
        have hjl : (j : Int) < (R.length : Int) := by omega
        have hw1 : IntKind.i64.wrap ((k : Int) - 1) = (j : Int) := by
          have : (k : Int) - 1 = j := by omega
          rw [this]; exact IntWalk.i64_in _ ⟨by omega, by omega⟩
        clear hx hord hso h07 hcs hwT hxs hcs2 hy hj
        go_upto_region 8 with fail
        rw [HWT.out, HT.out]
        clear x0 x1 x2 x3 x4 x5 x6 x7 x8 x9 x10 x11 x12 x13 x14 c0 c1 c2
        obtain ⟨x0, x1, x2, x3, x4, x5, x6, x7, x8, x9, x10, x11, x12, x13, x14⟩ := HWH.out _ (Below.refl _ _)
        refine wp_region_held_drew (S := fun wx => wx.cell? ⟨b, o + j * 15, none⟩ = some (.string y.s.c) ∧ wx.cell? ⟨w.heap.size, 1, none⟩ = some (.slice (some ⟨b, o, none⟩) R.length sc) ∧ wx.cell? ⟨T, 0, none⟩ = some (.string x.s.c) ∧ wx.cell? ⟨T, 1, none⟩ = some (.bool x.s.cl) ∧ wx.cell? ⟨T, 2, none⟩ = some (.int .i64 x.s.ln) ∧ wx.cell? ⟨T, 3, none⟩ = some (.slice x.sa x.s.S.length x.sc) ∧ wx.cell? ⟨T, 4, none⟩ = some (.int .i64 x.s.o.last) ∧ wx.cell? ⟨T, 5, none⟩ = some (.slice x.fa x.s.o.F.length x.fc) ∧ wx.cell? ⟨T, 6, none⟩ = some (.slice x.qa x.s.o.Q.length x.qc) ∧ wx.cell? ⟨T, 7, none⟩ = some (.slice x.ia x.s.I.length x.ic) ∧ wx.cell? ⟨T, 8, none⟩ = some (.bool x.s.wl.is) ∧ wx.cell? ⟨T, 9, none⟩ = some (.string x.s.wl.t) ∧ wx.cell? ⟨T, 10, none⟩ = some (.string x.s.wl.p) ∧ wx.cell? ⟨T, 11, none⟩ = some (.int .i64 x.s.wl.q) ∧ wx.cell? ⟨T, 12, none⟩ = some (.bool x.s.wl.r) ∧ wx.cell? ⟨T, 13, none⟩ = some (.int .i64 x.s.keep) ∧ wx.cell? ⟨T, 14, none⟩ = some (.int .i64 x.s.idle)) (by kernel_rfl) ⟨y0, hcw, x0, x1, x2, x3, x4, x5, x6, x7, x8, x9, x10, x11, x12, x13, x14⟩ (fun hHeld => ?_)
        refine tk 0 (by assumption) ?_
        (try simp only [Act.put, List.setIfInBounds_toArray, List.set_cons_zero, List.set_cons_succ])
        refine wpAnyH_ready (rs := [1]) (by kernel_rfl) (by simp) ?_
        refine call_h 1 ⟨?_, ?_, fun K hK => ?_⟩
        rotate_left 1
        · (simp only [List.getElem?_toArray, List.getElem?_cons_succ, List.getElem?_cons_zero]; exact rfl)
        go_simp
        (go_at_call 38; refine (HSE.out _ (Below.refl wT.heap.size wT).drew).mono ?_; rintro e wz ⟨rfl, hbz⟩)
        go_wp2_with fail
        refine hK.out _ _ ⟨b_cell hbz y0, b_cell hbz hcw, HWH.out _ (b_tr (Below.refl wT.heap.size wT).drew hbz)⟩ (fun hHeld => ?_)
        clear hK K
        (try simp only [Act.put, List.setIfInBounds_toArray, List.set_cons_zero, List.set_cons_succ])
        refine tk 2 (by assumption) ?_
        (try simp only [Act.put, List.setIfInBounds_toArray, List.set_cons_zero, List.set_cons_succ])
        refine tk 3 (by assumption) ?_
        (try simp only [Act.put, List.setIfInBounds_toArray, List.set_cons_zero, List.set_cons_succ])
        refine tk 4 (by assumption) ?_
        (try simp only [Act.put, List.setIfInBounds_toArray, List.set_cons_zero, List.set_cons_succ])
        refine tk 5 (by assumption) ?_
        (try simp only [Act.put, List.setIfInBounds_toArray, List.set_cons_zero, List.set_cons_succ])
        refine tk 6 (by assumption) ?_
        (try simp only [Act.put, List.setIfInBounds_toArray, List.set_cons_zero, List.set_cons_succ])
        refine tk 7 (by assumption) ?_
        (try simp only [Act.put, List.setIfInBounds_toArray, List.set_cons_zero, List.set_cons_succ])
        refine tk 8 (by assumption) ?_
        (try simp only [Act.put, List.setIfInBounds_toArray, List.set_cons_zero, List.set_cons_succ])
        refine tk 9 (by assumption) ?_
        (try simp only [Act.put, List.setIfInBounds_toArray, List.set_cons_zero, List.set_cons_succ])
        refine tk 10 (by assumption) ?_
        (try simp only [Act.put, List.setIfInBounds_toArray, List.set_cons_zero, List.set_cons_succ])
        refine tk 11 (by assumption) ?_
        (try simp only [Act.put, List.setIfInBounds_toArray, List.set_cons_zero, List.set_cons_succ])
        refine tk 12 (by assumption) ?_
        (try simp only [Act.put, List.setIfInBounds_toArray, List.set_cons_zero, List.set_cons_succ])
        refine tk 13 (by assumption) ?_
        (try simp only [Act.put, List.setIfInBounds_toArray, List.set_cons_zero, List.set_cons_succ])
        refine tk 14 (by assumption) ?_
        (try simp only [Act.put, List.setIfInBounds_toArray, List.set_cons_zero, List.set_cons_succ])
        refine tk 15 (by assumption) ?_
        (try simp only [Act.put, List.setIfInBounds_toArray, List.set_cons_zero, List.set_cons_succ])
        refine tk 16 (by assumption) ?_
        (try simp only [Act.put, List.setIfInBounds_toArray, List.set_cons_zero, List.set_cons_succ])
        refine tk 17 (by assumption) ?_
        (try simp only [Act.put, List.setIfInBounds_toArray, List.set_cons_zero, List.set_cons_succ])
        refine tk 18 (by assumption) ?_
        (try simp only [Act.put, List.setIfInBounds_toArray, List.set_cons_zero, List.set_cons_succ])
        refine wpAnyH_done (by kernel_rfl) ?_ _
        clear hHeld
        have hbc := b_tr (hb.trans (hbT.mono hb.size)) (b_tr (Below.refl wT.heap.size wT).drew hbz)
        have d2 := b_cell (b_tr (Below.refl wT.heap.size wT).drew hbz) x2
        rw [HLN0.out] at d2
        clear x0 x1 x2 x3 x4 x5 x6 x7 x8 x9 x10 x11 x12 x13 x14
        go_wp2
        go_roundw
        case rel => exact ⟨k + 1, by omega, rfl, by go_num, hbc⟩
        case measure => simp [intOf]; omega
    · have hlt' : ¬ ((k : Int) < (R.length : Int)) := by omega
      go_wp2
      go_ret
      exact ⟨rfl, b_tr HB0.out hb⟩
end Go.Proofs.YtlehkaibbkblkaaGreatDoor
