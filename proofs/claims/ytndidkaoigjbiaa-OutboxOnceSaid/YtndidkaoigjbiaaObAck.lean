/- The outbox: Ack and Comp, of one that is there. -/



import Derived.Test.YtndidkaoigjbiaaObMay2
import Derived.Test.YtndidkaoigjbiaaObGone
namespace Go.Proofs.Ytndidkaoigjbiaa
open Go.RowKit
def goneO (o : OB) (i : Nat) : OB × List Fl := fillO o.last (o.F.take i ++ o.F.drop (i + 1)) o.Q
theorem atI_is {F : List Fl} {i : Nat} {f : Fl} (hn : (ids F).Nodup) (hf : F[i]? = some f) : atI (ids F) f.id = i := by
  have hil := (List.getElem?_eq_some_iff.1 hf).1
  have h1 : posI (ids F) f.id = i := posI_is (by rw [ids_len]; exact hil) (fun j hj e => by
    have := (List.getElem?_inj (by rw [ids_len]; omega) hn).1 (e.trans (ids_at hf).symm)
    omega) (ids_at hf)
  unfold atI
  rw [h1, if_pos (by rw [ids_len]; exact hil)]
set_option maxRecDepth 20000 in
set_option maxHeartbeats 4000000 in
theorem Ack_ok (w : World) (v : Value) (o : OB) (h : OR w v o) (hk : okO o) (i : Nat) (f : Fl) (hf : o.F[i]? = some f) (hq : f.m.q = 1) :
    Calls Try.prog 10 #[v, .int .i64 f.id] w fun e w' => ∃ v' lv, e = .returned (.tuple #[v', lv, .int .i64 0]) ∧ OO w' w.heap.size v' (goneO o i).1 ∧
      w'.ownsRow w.heap.size 50 24 lv (goneO o i).2.length (eP.cells (pub0 (goneO o i).2)) ∧ Below w.heap.size w w' := by
  obtain ⟨R, hR⟩ : ∃ R, goneO o i = R := ⟨_, rfl⟩
  have hil := (List.getElem?_eq_some_iff.1 hf).1
  have HGO := Lib.hid (fun wx (hx : Below w.heap.size w wx) => gone_any wx v o (h.below hx) ⟨by have := hk.2.2.1; omega, by have := hk.2.2.2.1; omega⟩ i (o.F.length - i - 1) (by omega) ⟨hk.1, hk.2.1⟩)
  have hR' : fillO o.last (o.F.take i ++ o.F.drop (i + 1)) o.Q = R := hR
  rw [hR'] at HGO
  rw [hR]
  have HMY := Lib.hid (fun wx (hx : Below w.heap.size w wx) => May_ok wx v o (h.below hx) hk)
  have HAT := Lib.hid (fun wx (hx : Below w.heap.size w wx) => at_any wx v o f.id (h.below hx) ⟨by have := hk.2.2.1; omega, by have := hk.2.2.2.1; omega⟩)
  rw [atI_is hk.2.2.2.2.2.1 hf] at HAT
  have h4 := hk.2.2.1
  clear hk hR hR'
  obtain ⟨last, F, Q⟩ := o
  obtain ⟨fv, qv, rfl, hF, hQ⟩ := h
  simp only at hF hQ hil hf h4 HGO HMY HAT ⊢
  obtain ⟨fo, fc, rfl, _, _⟩ := hF.form
  obtain ⟨qo, qc, rfl, _, _⟩ := hQ.form
  obtain ⟨b2, off, rfl, hbl, hcs⟩ := Enc.rd_cell (E := eF) hF rfl hf
  obtain ⟨c0, c1, c2, c3, c4, c5⟩ := fl_cells (show w.rangeAt b2 (off + i * 6) (eF.c f) from hcs)
  have hq1 : (f.m.q != 1) = false := by rw [hq]; rfl
  obtain ⟨w0, hw0⟩ : ∃ w0, w0 = ((w.alloc (.cells #[.int .i64 last, .slice (some ⟨b2, off, none⟩) F.length fc, .slice qo Q.length qc] 25)).alloc (.cells #[.int .i64 0, .slice none 0 0, .slice none 0 0] 25)) := ⟨_, rfl⟩
  have hb0 : Below w.heap.size w w0 := by rw [hw0]; go_grown
  have hz0 : w.heap.size + 2 ≤ w0.heap.size := by rw [hw0]; simp
  have hA : Whole w0 w.heap.size 25 [.int .i64 last, .slice (some ⟨b2, off, none⟩) F.length fc, .slice qo Q.length qc] := by rw [hw0]; exact (Whole.new w 25 _).alloc _
  have hRR : Whole w0 (w.heap.size + 1) 25 [.int .i64 0, .slice none 0 0, .slice none 0 0] := by
    rw [hw0]
    have := Whole.new (w.alloc (.cells #[.int .i64 last, .slice (some ⟨b2, off, none⟩) F.length fc, .slice qo Q.length qc] 25)) 25 [.int .i64 0, .slice none 0 0, .slice none 0 0]
    simpa using this
  have HW := Lib.hid hw0
  obtain ⟨a0, a1, a2, a3, a4, a5⟩ := hA.three
  have HA := Lib.hid hA
  have HR := Lib.hid hRR
  have HB0 := Lib.hid hb0
  have HC := Lib.hid c3
  clear c0 c1 c2 c3 c4 c5 hcs hF hQ hw0 hA hRR hb0 hf
  go_enter Try.func10, Try.ntmps10
  go_upto_region 1 with fail
  rw [← HW.out]
  go_wp2_with fail
  refine (HAT.out _ HB0.out).mono ?_
  rintro e w1 ⟨rfl, hb1⟩
  have hbb1 := b_tr HB0.out hb1
  have HA1 := Lib.hid (HA.out.belowH hb1)
  have HR1 := Lib.hid (HR.out.belowH hb1)
  have HBB1 := Lib.hid hbb1
  have hz1 := hb1.size
  clear a0 a1 a2 a3 a4 a5 hb1 hbb1
  obtain ⟨a0, a1, a2, a3, a4, a5⟩ := HA1.out.three
  go_wp2_with fail
  refine (HMY.out _ HBB1.out).mono ?_
  rintro e w2 ⟨rfl, hb2⟩
  have hbb2 := b_tr HBB1.out hb2
  have HA2 := Lib.hid (HA1.out.belowH hb2)
  have HR2 := Lib.hid (HR1.out.belowH hb2)
  have HBB2 := Lib.hid hbb2
  have hz2 := hb2.size
  have d0 := b_cell hbb2 HC.out
  clear a0 a1 a2 a3 a4 a5 hb2 hbb2
  obtain ⟨a0, a1, a2, a3, a4, a5⟩ := HA2.out.three
  have h0i : ¬ ((i : Int) < 0) := by omega
  go_wp2_with fail
  refine (HGO.out _ HBB2.out).mono ?_
  rintro e w3 ⟨v3, lv, rfl, ⟨fv3, qv3, rfl, hF3, hQ3⟩, hL3, hb3⟩
  obtain ⟨fo3, fc3, rfl, _, _⟩ := (Rd.of_own hF3).form
  obtain ⟨qo3, qc3, rfl, _, _⟩ := (Rd.of_own hQ3).form
  have hR3 := HR2.out.belowH hb3
  have hz3 := hb3.size
  obtain ⟨r0, r1, r2, r3, r4, r5⟩ := hR3.three
  have hl4 : Left [w.heap.size + 1] w3 (((w3.setCell ⟨w.heap.size + 1, 0, none⟩ (.int .i64 R.1.last)).setCell ⟨w.heap.size + 1, 1, none⟩ (.slice fo3 R.1.F.length fc3)).setCell ⟨w.heap.size + 1, 2, none⟩ (.slice qo3 R.1.Q.length qc3)) := (((Left.refl _ w3).setCell (Or.inl (by simp)) _).setCell (Or.inl (by simp)) _).setCell (Or.inl (by simp)) _
  have HRET := Lib.hid (((hR3.put 0 (.int .i64 R.1.last)).put 1 (.slice fo3 R.1.F.length fc3)).put 2 (.slice qo3 R.1.Q.length qc3))
  have HFF := Lib.hid (own_base (base' := w.heap.size) (own_left hF3 hl4 (by simp; omega)) (by omega))
  have HQQ := Lib.hid (own_base (base' := w.heap.size) (own_left hQ3 hl4 (by simp; omega)) (by omega))
  have HLL := Lib.hid (own_base (base' := w.heap.size) (own_left hL3 hl4 (by simp; omega)) (by omega))
  have HBB := Lib.hid ((b_tr HBB2.out hb3).trans (hl4.belowB (B := w.heap.size) (by omega) (by simp)))
  clear hF3 hQ3 hL3 hb3 hR3 hl4 a0 a1 a2 a3 a4 a5
  go_wp2
  (try simp only [Exit.inBlock, Exit.then])
  refine bodyPost_ret (results_row_tmp2 (P := Try.prog) (p := 4) (u := 5) (x := 6) (ty := 25) rfl _ _ (w.heap.size + 1) 25 _ (0, 0) _ rfl HRET.out Try.underlying25 rfl (by kernel_rfl)) rfl ?_
  exact ⟨_, _, rfl, ⟨_, _, rfl, HFF.out, HQQ.out⟩, HLL.out, HBB.out⟩
set_option maxRecDepth 20000 in
set_option maxHeartbeats 4000000 in
theorem Comp_ok (w : World) (v : Value) (o : OB) (h : OR w v o) (hk : okO o) (i : Nat) (f : Fl) (hf : o.F[i]? = some f) (hq : f.rc = true) :
    Calls Try.prog 9 #[v, .int .i64 f.id] w fun e w' => ∃ v' lv, e = .returned (.tuple #[v', lv, .int .i64 0]) ∧ OO w' w.heap.size v' (goneO o i).1 ∧
      w'.ownsRow w.heap.size 50 24 lv (goneO o i).2.length (eP.cells (pub0 (goneO o i).2)) ∧ Below w.heap.size w w' := by
  obtain ⟨R, hR⟩ : ∃ R, goneO o i = R := ⟨_, rfl⟩
  have hil := (List.getElem?_eq_some_iff.1 hf).1
  have HGO := Lib.hid (fun wx (hx : Below w.heap.size w wx) => gone_any wx v o (h.below hx) ⟨by have := hk.2.2.1; omega, by have := hk.2.2.2.1; omega⟩ i (o.F.length - i - 1) (by omega) ⟨hk.1, hk.2.1⟩)
  have hR' : fillO o.last (o.F.take i ++ o.F.drop (i + 1)) o.Q = R := hR
  rw [hR'] at HGO
  rw [hR]
  have HMY := Lib.hid (fun wx (hx : Below w.heap.size w wx) => May_ok wx v o (h.below hx) hk)
  have HAT := Lib.hid (fun wx (hx : Below w.heap.size w wx) => at_any wx v o f.id (h.below hx) ⟨by have := hk.2.2.1; omega, by have := hk.2.2.2.1; omega⟩)
  rw [atI_is hk.2.2.2.2.2.1 hf] at HAT
  have h4 := hk.2.2.1
  clear hk hR hR'
  obtain ⟨last, F, Q⟩ := o
  obtain ⟨fv, qv, rfl, hF, hQ⟩ := h
  simp only at hF hQ hil hf h4 HGO HMY HAT ⊢
  obtain ⟨fo, fc, rfl, _, _⟩ := hF.form
  obtain ⟨qo, qc, rfl, _, _⟩ := hQ.form
  obtain ⟨b2, off, rfl, hbl, hcs⟩ := Enc.rd_cell (E := eF) hF rfl hf
  obtain ⟨c0, c1, c2, c3, c4, c5⟩ := fl_cells (show w.rangeAt b2 (off + i * 6) (eF.c f) from hcs)
  rw [hq] at c5
  obtain ⟨w0, hw0⟩ : ∃ w0, w0 = ((w.alloc (.cells #[.int .i64 last, .slice (some ⟨b2, off, none⟩) F.length fc, .slice qo Q.length qc] 25)).alloc (.cells #[.int .i64 0, .slice none 0 0, .slice none 0 0] 25)) := ⟨_, rfl⟩
  have hb0 : Below w.heap.size w w0 := by rw [hw0]; go_grown
  have hz0 : w.heap.size + 2 ≤ w0.heap.size := by rw [hw0]; simp
  have hA : Whole w0 w.heap.size 25 [.int .i64 last, .slice (some ⟨b2, off, none⟩) F.length fc, .slice qo Q.length qc] := by rw [hw0]; exact (Whole.new w 25 _).alloc _
  have hRR : Whole w0 (w.heap.size + 1) 25 [.int .i64 0, .slice none 0 0, .slice none 0 0] := by
    rw [hw0]
    have := Whole.new (w.alloc (.cells #[.int .i64 last, .slice (some ⟨b2, off, none⟩) F.length fc, .slice qo Q.length qc] 25)) 25 [.int .i64 0, .slice none 0 0, .slice none 0 0]
    simpa using this
  have HW := Lib.hid hw0
  obtain ⟨a0, a1, a2, a3, a4, a5⟩ := hA.three
  have HA := Lib.hid hA
  have HR := Lib.hid hRR
  have HB0 := Lib.hid hb0
  have HC := Lib.hid c5
  clear c0 c1 c2 c3 c4 c5 hcs hF hQ hw0 hA hRR hb0 hf
  go_enter Try.func9, Try.ntmps9
  go_upto_region 1 with fail
  rw [← HW.out]
  go_wp2_with fail
  refine (HAT.out _ HB0.out).mono ?_
  rintro e w1 ⟨rfl, hb1⟩
  have hbb1 := b_tr HB0.out hb1
  have HA1 := Lib.hid (HA.out.belowH hb1)
  have HR1 := Lib.hid (HR.out.belowH hb1)
  have HBB1 := Lib.hid hbb1
  have hz1 := hb1.size
  clear a0 a1 a2 a3 a4 a5 hb1 hbb1
  obtain ⟨a0, a1, a2, a3, a4, a5⟩ := HA1.out.three
  go_wp2_with fail
  refine (HMY.out _ HBB1.out).mono ?_
  rintro e w2 ⟨rfl, hb2⟩
  have hbb2 := b_tr HBB1.out hb2
  have HA2 := Lib.hid (HA1.out.belowH hb2)
  have HR2 := Lib.hid (HR1.out.belowH hb2)
  have HBB2 := Lib.hid hbb2
  have hz2 := hb2.size
  have d0 := b_cell hbb2 HC.out
  clear a0 a1 a2 a3 a4 a5 hb2 hbb2
  obtain ⟨a0, a1, a2, a3, a4, a5⟩ := HA2.out.three
  have h0i : ¬ ((i : Int) < 0) := by omega
  go_wp2_with fail
  refine (HGO.out _ HBB2.out).mono ?_
  rintro e w3 ⟨v3, lv, rfl, ⟨fv3, qv3, rfl, hF3, hQ3⟩, hL3, hb3⟩
  obtain ⟨fo3, fc3, rfl, _, _⟩ := (Rd.of_own hF3).form
  obtain ⟨qo3, qc3, rfl, _, _⟩ := (Rd.of_own hQ3).form
  have hR3 := HR2.out.belowH hb3
  have hz3 := hb3.size
  obtain ⟨r0, r1, r2, r3, r4, r5⟩ := hR3.three
  have hl4 : Left [w.heap.size + 1] w3 (((w3.setCell ⟨w.heap.size + 1, 0, none⟩ (.int .i64 R.1.last)).setCell ⟨w.heap.size + 1, 1, none⟩ (.slice fo3 R.1.F.length fc3)).setCell ⟨w.heap.size + 1, 2, none⟩ (.slice qo3 R.1.Q.length qc3)) := (((Left.refl _ w3).setCell (Or.inl (by simp)) _).setCell (Or.inl (by simp)) _).setCell (Or.inl (by simp)) _
  have HRET := Lib.hid (((hR3.put 0 (.int .i64 R.1.last)).put 1 (.slice fo3 R.1.F.length fc3)).put 2 (.slice qo3 R.1.Q.length qc3))
  have HFF := Lib.hid (own_base (base' := w.heap.size) (own_left hF3 hl4 (by simp; omega)) (by omega))
  have HQQ := Lib.hid (own_base (base' := w.heap.size) (own_left hQ3 hl4 (by simp; omega)) (by omega))
  have HLL := Lib.hid (own_base (base' := w.heap.size) (own_left hL3 hl4 (by simp; omega)) (by omega))
  have HBB := Lib.hid ((b_tr HBB2.out hb3).trans (hl4.belowB (B := w.heap.size) (by omega) (by simp)))
  clear hF3 hQ3 hL3 hb3 hR3 hl4 a0 a1 a2 a3 a4 a5
  go_wp2
  (try simp only [Exit.inBlock, Exit.then])
  refine bodyPost_ret (results_row_tmp2 (P := Try.prog) (p := 4) (u := 5) (x := 6) (ty := 25) rfl _ _ (w.heap.size + 1) 25 _ (0, 0) _ rfl HRET.out Try.underlying25 rfl (by kernel_rfl)) rfl ?_
  exact ⟨_, _, rfl, ⟨_, _, rfl, HFF.out, HQQ.out⟩, HLL.out, HBB.out⟩
end Go.Proofs.Ytndidkaoigjbiaa
