/- How much a broker is. -/


import Derived.Test.YtlehkaibbkblkaaDoorRcHv
namespace Go.Proofs.YtlehkaibbkblkaaDoor
open Go.RowKit
/-- Nothing of a session is more than n. -/
structure SW (n : Nat) (y : Se) : Prop where
  c : y.c.size ≤ n
  i : y.I.length ≤ n
  s : y.S.length ≤ n ∧ ∀ x ∈ y.S, x.f.size ≤ n
  q : y.o.Q.length ≤ n ∧ ∀ x ∈ y.o.Q, x.t.size ≤ n ∧ x.p.size ≤ n
  f : y.o.F.length ≤ n ∧ ∀ x ∈ y.o.F, x.m.t.size ≤ n ∧ x.m.p.size ≤ n
  w : y.wl.t.size ≤ n ∧ y.wl.p.size ≤ n
theorem SW.mono {n m : Nat} {s : Se} (h : SW n s) (hm : n ≤ m) : SW m s :=
  ⟨by have := h.c; omega, by have := h.i; omega, ⟨by have := h.s.1; omega, fun x hx => by have := h.s.2 x hx; omega⟩, ⟨by have := h.q.1; omega, fun x hx => by have := h.q.2 x hx; omega⟩, ⟨by have := h.f.1; omega, fun x hx => by have := h.f.2 x hx; omega⟩, by have := h.w; omega⟩
/-- Nothing of a broker is more than n. -/
structure BW (n : Nat) (b : Br) : Prop where
  l : b.L.length ≤ n
  s : b.S.length ≤ n ∧ ∀ s ∈ b.S, SW n s
  k : b.K.length ≤ n ∧ ∀ m ∈ b.K, m.t.size ≤ n ∧ m.p.size ≤ n
theorem BW.sh {n : Nat} {b : Br} (h : BW n b) (hn : n ≤ 12000) : ShB b :=
  ⟨by have := h.l; omega, ⟨by have := h.s.1; omega, fun x hx => by
    have hx := h.s.2 x hx
    exact ⟨by have := hx.c; omega, fun y hy => by have := hx.s.2 y hy; omega, ⟨by have := hx.f.1; omega, by have := hx.q.1; omega, fun f hf => by have := hx.f.2 f hf; unfold ShortM; omega, fun m hm => by have := hx.q.2 m hm; unfold ShortM; omega⟩, by have := hx.i; omega, by have := hx.w; omega⟩⟩, fun m hm => by have := h.k.2 m hm; omega⟩
set_option maxRecDepth 20000 in
set_option maxHeartbeats 4000000 in
theorem bw_any (w : World) (lv sv kv : Value) (R : List Rs) (b : Br) (h : BRd w w.heap.size lv sv kv R b) (hr : BW RR b) :
    Calls Tryd.prog 13 #[.agg #[lv, sv, kv]] w fun e w' => ∃ n : Nat, e = .returned (.int .i64 n) ∧ n ≤ 9223372036854775807 ∧ (n < 1048576 → BW n b) ∧ Below w.heap.size w w' := by
  obtain ⟨L, S, Kk⟩ := b
  obtain ⟨hRe, hRl, hRs, hRr, hRk⟩ := h
  simp only at hRe hRl hRk
  subst hRe
  obtain ⟨la, lc, rfl, _, _⟩ := hRl.form
  obtain ⟨sa, sc, rfl, _, hsm⟩ := hRs.form
  obtain ⟨ka, kc, rfl, _, _⟩ := hRk.form
  have hm' : sc ≤ 9223372036854775807 := by unfold maxLen at hsm; omega
  obtain ⟨B, hB⟩ : ∃ B, w.heap.size = B := ⟨_, rfl⟩
  rw [hB] at hRl hRs hRr hRk ⊢
  obtain ⟨wa, hwa⟩ : ∃ wa, w.alloc (.cells #[.slice la L.length lc, .slice sa R.length sc, .slice ka Kk.length kc] 28) = wa := ⟨_, rfl⟩
  have hb0 : Below B w wa := by rw [← hwa, ← hB]; exact (Below.refl _ _).alloc (Nat.le_refl _) _
  have hW : Whole wa B 28 [.slice la L.length lc, .slice sa R.length sc, .slice ka Kk.length kc] := by rw [← hwa, ← hB]; exact Whole.new w 28 _
  have hza : B ≤ wa.heap.size := by have := hb0.size; omega
  have HMW := Lib.hid (mweight_any wa.drew _ Kk B ((hRk.below hb0).below (Below.refl B wa).drew) hr.k.1 hr.k.2)
  have HS := Lib.hid (fun wx (hx : Below wa.heap.size wa wx) => (hRs.below hb0).below (hx.mono hza))
  have HSR := Lib.hid (fun wx (hx : Below wa.heap.size wa wx) r (hr : r ∈ R) => ((hRr r hr).below hb0).below (hx.mono hza))
  have HCL := Lib.hid (fun wx (hx : Below wa.heap.size wa wx) => (hW.belowH hx).three)
  have HSW : Hid (∀ r ∈ R, SW RR r.s) := Lib.hid (fun r h => hr.s.2 _ (List.mem_map.2 ⟨r, h, rfl⟩))
  have hrl : R.length ≤ 281474976710656 := by have := hr.s.1; simpa [RR] using this
  have hkl : Kk.length ≤ 281474976710656 := hr.k.1
  have hll : L.length ≤ 281474976710656 := hr.l
  have HWA := Lib.hid hwa
  have HB0 := Lib.hid hb0
  have HB := Lib.hid hB
  have HZ := Lib.hid hza
  obtain ⟨c0, c1, c2, _, _, _⟩ := hW.three
  clear hRl hRs hRr hRk hr hsm hwa hb0 hW hza hB
  go_enter Tryd.func13, Tryd.ntmps13
  go_upto_region 1 with fail
  rw [HWA.out, HB.out]
  refine wp_region_held_drew (S := fun wx => wx.cell? ⟨B, 0, none⟩ = some (.slice la L.length lc) ∧ wx.cell? ⟨B, 2, none⟩ = some (.slice ka Kk.length kc) ∧ Below wa.heap.size wa wx) (by kernel_rfl) ⟨c0, c2, (Below.refl wa.heap.size wa).drew⟩ (fun hHeld => ?_)
  refine tk 0 (by assumption) ?_
  (try simp only [Act.put, List.setIfInBounds_toArray, List.set_cons_zero, List.set_cons_succ])
  refine tk 1 (by assumption) ?_
  (try simp only [Act.put, List.setIfInBounds_toArray, List.set_cons_zero, List.set_cons_succ])
  refine tk 2 (by assumption) ?_
  (try simp only [Act.put, List.setIfInBounds_toArray, List.set_cons_zero, List.set_cons_succ])
  refine tk 3 (by assumption) ?_
  (try simp only [Act.put, List.setIfInBounds_toArray, List.set_cons_zero, List.set_cons_succ])
  refine tk 4 (by assumption) ?_
  (try simp only [Act.put, List.setIfInBounds_toArray, List.set_cons_zero, List.set_cons_succ])
  refine wpAnyH_ready (rs := [5]) (by kernel_rfl) (by simp) ?_
  refine call_h 5 ⟨?_, ?_, fun K hK => ?_⟩
  rotate_left 1
  · (simp only [List.getElem?_toArray, List.getElem?_cons_succ, List.getElem?_cons_zero]; exact rfl)
  go_simp
  (go_at_call 25; refine HMW.out.mono ?_; rintro e w1 ⟨n0, rfl, hn0, hn1, hb1⟩)
  go_wp2_with fail
  rw [RR_eq] at hn0
  have hb1' := b_tr (Below.refl wa.heap.size wa).drew hb1
  have hwr0 : IntKind.i64.wrap ((L.length : Int) + (n0 : Int)) = (L.length : Int) + (n0 : Int) := IntWalk.i64_in _ ⟨by omega, by omega⟩
  refine hK.out _ _ ⟨b_cell hb1' c0, b_cell hb1' c2, hb1'⟩ (fun hHeld => ?_)
  clear hK K
  (try simp only [Act.put, List.setIfInBounds_toArray, List.set_cons_zero, List.set_cons_succ])
  refine tk 6 (by assumption) ?_
  (try simp only [Act.put, List.setIfInBounds_toArray, List.set_cons_zero, List.set_cons_succ])
  refine tk 7 (by assumption) ?_
  (try simp only [Act.put, List.setIfInBounds_toArray, List.set_cons_zero, List.set_cons_succ])
  refine wpAnyH_done (by kernel_rfl) ?_ _
  clear hHeld c0 c1 c2 hb1
  go_wp2
  have HN1 := Lib.hid hn1
  clear hn1 hwr0
  go_loopw [3, 4] (fun s i wr => ∃ (n k : Nat), s = .int .i64 n ∧ i = .int .i64 k ∧ k ≤ R.length ∧ Below wa.heap.size wa wr ∧ L.length + n0 ≤ n ∧ k ≤ n ∧ n ≤ 3940649678143488 ∧ Hid (n < 1048576 → ∀ j x, j < k → R[j]? = some x → SW n x.s)) (fun _ i _ => R.length - (intOf i).toNat)
  case atStart => exact ⟨L.length + n0, 0, by go_num, rfl, by omega, hb1', by omega, by omega, by omega, Lib.hid (fun _ j x hj => by omega)⟩
  case round =>
    clear hb1'
    obtain ⟨n, k, rfl, rfl, hk, hb, hm1, hm2, hm3, HP⟩ := hrel
    obtain ⟨d0, d1, d2, _, _, _⟩ := HCL.out _ hb
    by_cases hlt : k < R.length
    · have hlt' : (k : Int) < (R.length : Int) := by omega
      by_cases hbig : n < 1048576
      · have hbig' : (n : Int) < 1048576 := by omega
        obtain ⟨x, hx⟩ : ∃ x, R[k]? = some x := ⟨_, List.getElem?_eq_getElem hlt⟩
        obtain ⟨b, o, rfl, _, hcs⟩ := Enc.rd_cell (E := eS) (HS.out _ hb) rfl hx
        obtain ⟨x0, x1, x2, x3, x4, x5, x6, x7, x8, x9, x10, x11, x12, x13, x14⟩ := ses_cells (show World.rangeAt _ b (o + k * 15) (eS.c x) from hcs)
        have HXX := Lib.hid hx
        clear hx hcs
        go_upto_region 6 with fail
        obtain ⟨wb, hwb⟩ : ∃ wb, wb = wr.alloc (.cells (seC x).toArray 55) := ⟨_, rfl⟩
        have hbb : Below wr.heap.size wr wb := by rw [hwb]; exact (Below.refl _ _).alloc (Nat.le_refl _) _
        have hWB : Whole wb wr.heap.size 55 (seC x) := by rw [hwb]; exact Whole.new _ 55 _
        have hbw := b_tr hb hbb
        have HWB : Hid (wr.alloc (.cells (seC x).toArray 55) = wb) := Lib.hid hwb.symm
        unfold seC at HWB
        rw [HWB.out]
        have hzw := hbw.size
        have HSC := Lib.hid (fun (wx : World) (hx : Below wb.heap.size wb wx) => show wx.cell? ⟨wr.heap.size, 0, none⟩ = some (.string x.s.c) ∧ wx.cell? ⟨wr.heap.size, 3, none⟩ = some (.slice x.sa x.s.S.length x.sc) ∧ wx.cell? ⟨wr.heap.size, 4, none⟩ = some (.int .i64 x.s.o.last) ∧ wx.cell? ⟨wr.heap.size, 5, none⟩ = some (.slice x.fa x.s.o.F.length x.fc) ∧ wx.cell? ⟨wr.heap.size, 6, none⟩ = some (.slice x.qa x.s.o.Q.length x.qc) ∧ wx.cell? ⟨wr.heap.size, 7, none⟩ = some (.slice x.ia x.s.I.length x.ic) ∧ wx.cell? ⟨wr.heap.size, 9, none⟩ = some (.string x.s.wl.t) ∧ wx.cell? ⟨wr.heap.size, 10, none⟩ = some (.string x.s.wl.p) ∧ Below wb.heap.size wb wx from (by
          obtain ⟨y0, y1, y2, y3, y4, y5, y6, y7, y8, y9, y10, y11, y12, y13, y14⟩ := ses_whole (hWB.belowH hx)
          exact ⟨y0, y3, y4, y5, y6, y7, y9, y10, hx⟩))
        have hsw := HSW.out x (List.mem_of_getElem? HXX.out)
        have hrd := HSR.out wb hbw x (List.mem_of_getElem? HXX.out)
        have hBw : B ≤ wb.heap.size := Nat.le_trans HZ.out hzw
        have HWI := Lib.hid (fun wx (hx : Below wb.heap.size wb wx) => wishes_any wx _ x.s.S B (hrd.s.below (hx.mono hBw)) hsw.s.1 hsw.s.2)
        have HOW := Lib.hid (fun wx (hx : Below wb.heap.size wb wx) => obw_any wx (.agg #[.int .i64 x.s.o.last, .slice x.fa x.s.o.F.length x.fc, .slice x.qa x.s.o.Q.length x.qc]) x.s.o ⟨_, _, rfl, (hrd.f.below (hx.mono hBw)).more (Nat.le_trans hBw hx.size), (hrd.q.below (hx.mono hBw)).more (Nat.le_trans hBw hx.size)⟩ ⟨hsw.f.1, hsw.q.1⟩ ⟨hsw.q.2, hsw.f.2⟩)
        obtain ⟨sc1, hsc1⟩ : ∃ z, z = x.s.c.size := ⟨_, rfl⟩
        obtain ⟨sc2, hsc2⟩ : ∃ z, z = x.s.I.length := ⟨_, rfl⟩
        obtain ⟨sc3, hsc3⟩ : ∃ z, z = x.s.wl.t.size := ⟨_, rfl⟩
        obtain ⟨sc4, hsc4⟩ : ∃ z, z = x.s.wl.p.size := ⟨_, rfl⟩
        have hz1 : x.s.c.size ≤ 281474976710656 := hsw.c
        have hz2 : x.s.I.length ≤ 281474976710656 := hsw.i
        have hz3 : x.s.wl.t.size ≤ 281474976710656 := hsw.w.1
        have hz4 : x.s.wl.p.size ≤ 281474976710656 := hsw.w.2
        have hz5 : x.s.S.length ≤ 281474976710656 := hsw.s.1
        have hwr0 : IntKind.i64.wrap ((n : Int) + 1) = (n : Int) + 1 := IntWalk.i64_in _ ⟨by omega, by omega⟩
        have hwr1 : IntKind.i64.wrap ((n : Int) + 1 + (x.s.c.size : Int)) = (n : Int) + 1 + (x.s.c.size : Int) := IntWalk.i64_in _ ⟨by omega, by omega⟩
        have hwr2 : IntKind.i64.wrap ((n : Int) + 1 + (x.s.c.size : Int) + (x.s.I.length : Int)) = (n : Int) + 1 + (x.s.c.size : Int) + (x.s.I.length : Int) := IntWalk.i64_in _ ⟨by omega, by omega⟩
        clear hwb hWB hrd hsw x0 x1 x2 x3 x4 x5 x6 x7 x8 x9 x10 x11 x12 x13 x14 hsc1 hsc2 hsc3 hsc4
        refine wp_region_held_drew (S := fun wx => wx.cell? ⟨wr.heap.size, 0, none⟩ = some (.string x.s.c) ∧ wx.cell? ⟨wr.heap.size, 3, none⟩ = some (.slice x.sa x.s.S.length x.sc) ∧ wx.cell? ⟨wr.heap.size, 4, none⟩ = some (.int .i64 x.s.o.last) ∧ wx.cell? ⟨wr.heap.size, 5, none⟩ = some (.slice x.fa x.s.o.F.length x.fc) ∧ wx.cell? ⟨wr.heap.size, 6, none⟩ = some (.slice x.qa x.s.o.Q.length x.qc) ∧ wx.cell? ⟨wr.heap.size, 7, none⟩ = some (.slice x.ia x.s.I.length x.ic) ∧ wx.cell? ⟨wr.heap.size, 9, none⟩ = some (.string x.s.wl.t) ∧ wx.cell? ⟨wr.heap.size, 10, none⟩ = some (.string x.s.wl.p) ∧ Below wb.heap.size wb wx) (by kernel_rfl) (HSC.out _ (Below.refl wb.heap.size wb).drew) (fun hHeld => ?_)
        refine tk 0 (by assumption) ?_
        (try simp only [Act.put, List.setIfInBounds_toArray, List.set_cons_zero, List.set_cons_succ])
        refine tk 1 (by assumption) ?_
        (try simp only [Act.put, List.setIfInBounds_toArray, List.set_cons_zero, List.set_cons_succ])
        refine tk 2 (by assumption) ?_
        (try simp only [Act.put, List.setIfInBounds_toArray, List.set_cons_zero, List.set_cons_succ])
        refine tk 3 (by assumption) ?_
        (try simp only [Act.put, List.setIfInBounds_toArray, List.set_cons_zero, List.set_cons_succ])
        refine tk 4 (by assumption) ?_
        (try simp only [Act.put, List.setIfInBounds_toArray, List.set_cons_zero, List.set_cons_succ])
        refine tk 5 (by assumption) ?_
        (try simp only [Act.put, List.setIfInBounds_toArray, List.set_cons_zero, List.set_cons_succ])
        refine tk 6 (by assumption) ?_
        (try simp only [Act.put, List.setIfInBounds_toArray, List.set_cons_zero, List.set_cons_succ])
        refine tk 7 (by assumption) ?_
        (try simp only [Act.put, List.setIfInBounds_toArray, List.set_cons_zero, List.set_cons_succ])
        refine tk 8 (by assumption) ?_
        (try simp only [Act.put, List.setIfInBounds_toArray, List.set_cons_zero, List.set_cons_succ])
        refine tk 9 (by assumption) ?_
        (try simp only [Act.put, List.setIfInBounds_toArray, List.set_cons_zero, List.set_cons_succ])
        refine tk 10 (by assumption) ?_
        (try simp only [Act.put, List.setIfInBounds_toArray, List.set_cons_zero, List.set_cons_succ])
        refine tk 11 (by assumption) ?_
        (try simp only [Act.put, List.setIfInBounds_toArray, List.set_cons_zero, List.set_cons_succ])
        refine tk 14 (by assumption) ?_
        (try simp only [Act.put, List.setIfInBounds_toArray, List.set_cons_zero, List.set_cons_succ])
        refine tk 15 (by assumption) ?_
        (try simp only [Act.put, List.setIfInBounds_toArray, List.set_cons_zero, List.set_cons_succ])
        refine tk 18 (by assumption) ?_
        (try simp only [Act.put, List.setIfInBounds_toArray, List.set_cons_zero, List.set_cons_succ])
        refine tk 19 (by assumption) ?_
        (try simp only [Act.put, List.setIfInBounds_toArray, List.set_cons_zero, List.set_cons_succ])
        refine tk 20 (by assumption) ?_
        (try simp only [Act.put, List.setIfInBounds_toArray, List.set_cons_zero, List.set_cons_succ])
        refine tk 21 (by assumption) ?_
        (try simp only [Act.put, List.setIfInBounds_toArray, List.set_cons_zero, List.set_cons_succ])
        refine tk 23 (by assumption) ?_
        (try simp only [Act.put, List.setIfInBounds_toArray, List.set_cons_zero, List.set_cons_succ])
        refine tk 24 (by assumption) ?_
        (try simp only [Act.put, List.setIfInBounds_toArray, List.set_cons_zero, List.set_cons_succ])
        refine tk 25 (by assumption) ?_
        (try simp only [Act.put, List.setIfInBounds_toArray, List.set_cons_zero, List.set_cons_succ])
        refine tk 26 (by assumption) ?_
        (try simp only [Act.put, List.setIfInBounds_toArray, List.set_cons_zero, List.set_cons_succ])
        refine wpAnyH_ready (rs := [12]) (by kernel_rfl) (by simp) ?_
        refine call_h 12 ⟨?_, ?_, fun K hK => ?_⟩
        rotate_left 1
        · (simp only [List.getElem?_toArray, List.getElem?_cons_succ, List.getElem?_cons_zero]; exact rfl)
        go_simp
        (go_at_call 26; refine (HWI.out _ (Below.refl wb.heap.size wb).drew).mono ?_; rintro e w2 ⟨n1, rfl, hn1, hf1, rfl⟩)
        go_wp2_with fail
        rw [RR_eq] at hn1
        have hwr3 : IntKind.i64.wrap ((n : Int) + 1 + (x.s.c.size : Int) + (x.s.I.length : Int) + (n1 : Int)) = (n : Int) + 1 + (x.s.c.size : Int) + (x.s.I.length : Int) + (n1 : Int) := IntWalk.i64_in _ ⟨by omega, by omega⟩
        refine hK.out _ _ hHeld (fun hHeld => ?_)
        clear hK K
        (try simp only [Act.put, List.setIfInBounds_toArray, List.set_cons_zero, List.set_cons_succ])
        refine tk 13 (by assumption) ?_
        (try simp only [Act.put, List.setIfInBounds_toArray, List.set_cons_zero, List.set_cons_succ])
        refine wpAnyH_ready (rs := [16]) (by kernel_rfl) (by simp) ?_
        refine call_h 16 ⟨?_, ?_, fun K hK => ?_⟩
        rotate_left 1
        · (simp only [List.getElem?_toArray, List.getElem?_cons_succ, List.getElem?_cons_zero]; exact rfl)
        go_simp
        (go_at_call 27; refine (HOW.out _ (Below.refl wb.heap.size wb).drew).mono ?_; rintro e w3 ⟨n2, rfl, hn2, hf2, hb3⟩)
        go_wp2_with fail
        rw [RR_eq] at hn2
        have hwr4 : IntKind.i64.wrap ((n : Int) + 1 + (x.s.c.size : Int) + (x.s.I.length : Int) + (n1 : Int) + (n2 : Int)) = (n : Int) + 1 + (x.s.c.size : Int) + (x.s.I.length : Int) + (n1 : Int) + (n2 : Int) := IntWalk.i64_in _ ⟨by omega, by omega⟩
        have hwr5 : IntKind.i64.wrap ((n : Int) + 1 + (x.s.c.size : Int) + (x.s.I.length : Int) + (n1 : Int) + (n2 : Int) + (x.s.wl.t.size : Int)) = (n : Int) + 1 + (x.s.c.size : Int) + (x.s.I.length : Int) + (n1 : Int) + (n2 : Int) + (x.s.wl.t.size : Int) := IntWalk.i64_in _ ⟨by omega, by omega⟩
        have hwr6 : IntKind.i64.wrap ((n : Int) + 1 + (x.s.c.size : Int) + (x.s.I.length : Int) + (n1 : Int) + (n2 : Int) + (x.s.wl.t.size : Int) + (x.s.wl.p.size : Int)) = (n : Int) + 1 + (x.s.c.size : Int) + (x.s.I.length : Int) + (n1 : Int) + (n2 : Int) + (x.s.wl.t.size : Int) + (x.s.wl.p.size : Int) := IntWalk.i64_in _ ⟨by omega, by omega⟩
        have hb3' := b_tr (Below.refl wb.heap.size wb).drew hb3
        refine hK.out _ _ (HSC.out _ hb3') (fun hHeld => ?_)
        clear hK K
        (try simp only [Act.put, List.setIfInBounds_toArray, List.set_cons_zero, List.set_cons_succ])
        refine tk 17 (by assumption) ?_
        (try simp only [Act.put, List.setIfInBounds_toArray, List.set_cons_zero, List.set_cons_succ])
        refine tk 22 (by assumption) ?_
        (try simp only [Act.put, List.setIfInBounds_toArray, List.set_cons_zero, List.set_cons_succ])
        refine tk 27 (by assumption) ?_
        (try simp only [Act.put, List.setIfInBounds_toArray, List.set_cons_zero, List.set_cons_succ])
        refine tk 28 (by assumption) ?_
        (try simp only [Act.put, List.setIfInBounds_toArray, List.set_cons_zero, List.set_cons_succ])
        refine wpAnyH_done (by kernel_rfl) ?_ _
        clear hHeld
        have HP2 : Hid (n + 1 + x.s.c.size + x.s.I.length + n1 + n2 + x.s.wl.t.size + x.s.wl.p.size < 1048576 → ∀ j y, j < k + 1 → R[j]? = some y → SW (n + 1 + x.s.c.size + x.s.I.length + n1 + n2 + x.s.wl.t.size + x.s.wl.p.size) y.s) := Lib.hid (fun hlt j y hj hy => by
          by_cases e : j = k
          · subst e
            rw [HXX.out] at hy
            injection hy with hy
            subst hy
            have g1 := hf1 (by omega)
            have g2 := hf2 (by omega)
            exact ⟨by omega, by omega, ⟨by omega, fun y hy => by have := g1.2 y hy; omega⟩, ⟨by omega, fun y hy => by have := g2.1.2 y hy; omega⟩, ⟨by omega, fun y hy => by have := g2.2.2 y hy; omega⟩, by omega, by omega⟩
          · exact (HP.out hbig j y (by omega) hy).mono (by omega))
        clear hf1 hf2
        go_wp2
        go_roundw
        case rel => exact ⟨n + 1 + x.s.c.size + x.s.I.length + n1 + n2 + x.s.wl.t.size + x.s.wl.p.size, k + 1, by go_num, by go_num, by omega, b_tr hbw hb3', by omega, by omega, by omega, HP2⟩
        case measure => simp [intOf]; omega
      · have hbig' : ¬ ((n : Int) < 1048576) := by omega
        go_wp2
        go_ret
        exact ⟨n, rfl, by omega, fun h => absurd h hbig, HB0.out.trans (hb.mono HZ.out)⟩
    · have hlt' : ¬ ((k : Int) < (R.length : Int)) := by omega
      have HE : Hid (n < 1048576 → BW n ⟨L, R.map (·.s), Kk⟩) := Lib.hid (fun hn => by
        have h0 := HN1.out (by omega)
        refine ⟨by show L.length ≤ n; omega, ⟨by simp; omega, fun y hy => ?_⟩, by show Kk.length ≤ n; omega, fun m hm => by have := h0.2 m hm; omega⟩
        obtain ⟨r, hr, rfl⟩ := List.mem_map.1 hy
        obtain ⟨j, hj⟩ := List.getElem?_of_mem hr
        exact HP.out hn j r (by have := (List.getElem?_eq_some_iff.1 hj).1; omega) hj)
      go_wp2
      go_ret
      exact ⟨n, rfl, by omega, HE.out, HB0.out.trans (hb.mono HZ.out)⟩
end Go.Proofs.YtlehkaibbkblkaaDoor
