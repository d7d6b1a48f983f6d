/- The outbox: Offer. -/




import Derived.Test.YtndidkaoigjbiaaObRec
namespace Go.Proofs.Ytndidkaoigjbiaa
open Go.RowKit
set_option maxRecDepth 20000 in
set_option maxHeartbeats 4000000 in
theorem Offer_full0 (w : World) (v : Value) (o : OB) (m : Msg) (h : OR w v o) (hk : okO o) (hm : okM m = true) (hfull : o.Q.length = 8 ∧ True) :
    Calls Try.prog 6 #[v, msgV m, .bool false] w fun e w' => e = .returned (.tuple #[.agg #[.int .i64 0, .slice none 0 0, .slice none 0 0], .slice none 0 0, .int .i64 5]) ∧ Below w.heap.size w w' := by
  have hsm : Small o := ⟨by have := hk.2.2.1; omega, by have := hk.2.2.2.1; omega⟩
  have HOW := Lib.hid (fun wx (hx : Below w.heap.size w wx) => Own_any wx v o (h.below hx) hsm)
  have HMY := Lib.hid (fun wx (hx : Below w.heap.size w wx) => May_ok wx v o (h.below hx) hk)
  have HSH := short_ok hm
  have HMS := Lib.hid (fun wx => message_any m wx HSH.1 HSH.2)
  rw [hm] at HMS
  have hls : 0 ≤ o.last ∧ o.last ≤ 65535 := ⟨hk.1, hk.2.1⟩
  have h4 := hk.2.2.1
  have h8 := hk.2.2.2.1
  clear hk hsm hm HSH
  obtain ⟨last, F, Q⟩ := o
  obtain ⟨fv, qv, rfl, hF, hQ⟩ := h
  simp only at hF hQ HOW HMY h4 h8 hls hfull ⊢
  obtain ⟨fo, fc, rfl, _, _⟩ := hF.form
  obtain ⟨qo, qc, rfl, _, _⟩ := hQ.form
  obtain ⟨w0, hw0⟩ : ∃ w0, w0 = (((w.alloc (.cells #[.int .i64 last, .slice fo F.length fc, .slice qo Q.length qc] 25)).alloc (.cells #[.string m.t, .string m.p, .int .i64 m.q, .bool m.r] 34)).alloc (.cells #[.int .i64 0, .slice none 0 0, .slice none 0 0] 25)) := ⟨_, rfl⟩
  have hb0 : Below w.heap.size w w0 := by rw [hw0]; go_grown
  have hz0 : w.heap.size + 3 ≤ w0.heap.size := by rw [hw0]; simp
  have hA : Whole w0 w.heap.size 25 [.int .i64 last, .slice fo F.length fc, .slice qo Q.length qc] := by rw [hw0]; exact ((Whole.new w 25 _).alloc _).alloc _
  have hM : Whole w0 (w.heap.size + 1) 34 [.string m.t, .string m.p, .int .i64 m.q, .bool m.r] := by
    rw [hw0]
    have := Whole.new (w.alloc (.cells #[.int .i64 last, .slice fo F.length fc, .slice qo Q.length qc] 25)) 34 [.string m.t, .string m.p, .int .i64 m.q, .bool m.r]
    exact (by simpa using this : Whole _ (w.heap.size + 1) 34 _).alloc _
  have hRR : Whole w0 (w.heap.size + 2) 25 [.int .i64 0, .slice none 0 0, .slice none 0 0] := by
    rw [hw0]
    have := Whole.new ((w.alloc (.cells #[.int .i64 last, .slice fo F.length fc, .slice qo Q.length qc] 25)).alloc (.cells #[.string m.t, .string m.p, .int .i64 m.q, .bool m.r] 34)) 25 [.int .i64 0, .slice none 0 0, .slice none 0 0]
    simpa using this
  have HW := Lib.hid hw0
  obtain ⟨a0, a1, a2, a3, a4, a5⟩ := hA.three
  have HA := Lib.hid hA
  have HM := Lib.hid hM
  have HR := Lib.hid hRR
  have HB0 := Lib.hid hb0
  have HFU := Lib.hid hfull
  clear hF hQ hw0 hA hM hRR hb0 hfull
  unfold msgV
  go_enter Try.func6, Try.ntmps6
  go_upto_region 1 with fail
  rw [← HW.out, show w.heap.size + 1 + 1 = w.heap.size + 2 from rfl]
  go_wp2_with fail
  refine (HMY.out _ HB0.out).mono ?_
  rintro e w1 ⟨rfl, hb1⟩
  have hbb1 := b_tr HB0.out hb1
  have HA1 := Lib.hid (HA.out.belowH hb1)
  have HM1 := Lib.hid (HM.out.belowH hb1)
  have HR1 := Lib.hid (HR.out.belowH hb1)
  have HBB1 := Lib.hid hbb1
  have hz1 := hb1.size
  clear a0 a1 a2 a3 a4 a5 hb1 hbb1
  have m0 : w1.cell? ⟨w.heap.size + 1, 0, none⟩ = some (.string m.t) := HM1.out.cell 0
  have m1 : w1.cell? ⟨w.heap.size + 1, 1, none⟩ = some (.string m.p) := HM1.out.cell 1
  have m2 : w1.cell? ⟨w.heap.size + 1, 2, none⟩ = some (.int .i64 m.q) := HM1.out.cell 2
  have m3 : w1.cell? ⟨w.heap.size + 1, 3, none⟩ = some (.bool m.r) := HM1.out.cell 3
  go_wp2_with fail
  refine (HMS.out _).mono ?_
  rintro e w2 ⟨rfl, hb2⟩
  have hbb2 := b_tr HBB1.out hb2
  have HA2 := Lib.hid (HA1.out.belowH hb2)
  have HM2 := Lib.hid (HM1.out.belowH hb2)
  have HR2 := Lib.hid (HR1.out.belowH hb2)
  have HBB2 := Lib.hid hbb2
  have hz2 := hb2.size
  clear m0 m1 m2 m3 hb2 hbb2
  obtain ⟨a0, a1, a2, a3, a4, a5⟩ := HA2.out.three
  obtain ⟨r0, r1, r2, r3, r4, r5⟩ := HR2.out.three
  have hl7 : Left [w.heap.size + 2] w2 (((w2.setCell ⟨w.heap.size + 2, 0, none⟩ (.int .i64 0)).setCell ⟨w.heap.size + 2, 1, none⟩ (.slice none 0 0)).setCell ⟨w.heap.size + 2, 2, none⟩ (.slice none 0 0)) := (((Left.refl _ w2).setCell (Or.inl (by simp)) _).setCell (Or.inl (by simp)) _).setCell (Or.inl (by simp)) _
  have HRET := Lib.hid (((HR2.out.put 0 (.int .i64 0)).put 1 (.slice none 0 0)).put 2 (.slice none 0 0))
  have HBB := Lib.hid (HBB2.out.trans (hl7.belowB (B := w.heap.size) (by omega) (by simp)))
  clear hl7
  obtain ⟨f1, f2⟩ := HFU.out
  go_wp2
  (try simp only [Exit.inBlock, Exit.then])
  refine bodyPost_ret (results_row_tmp2 (P := Try.prog) (p := 6) (u := 7) (x := 8) (ty := 25) rfl _ _ (w.heap.size + 2) 25 _ (0, 0) _ rfl HRET.out Try.underlying25 rfl (by kernel_rfl)) rfl ?_
  exact ⟨rfl, HBB.out⟩
set_option maxRecDepth 20000 in
set_option maxHeartbeats 4000000 in
theorem Offer_full1 (w : World) (v : Value) (o : OB) (m : Msg) (h : OR w v o) (hk : okO o) (hm : okM m = true) (hfull : o.Q.length = 8 ∧ o.F.length = 4) :
    Calls Try.prog 6 #[v, msgV m, .bool true] w fun e w' => e = .returned (.tuple #[.agg #[.int .i64 0, .slice none 0 0, .slice none 0 0], .slice none 0 0, .int .i64 5]) ∧ Below w.heap.size w w' := by
  have hsm : Small o := ⟨by have := hk.2.2.1; omega, by have := hk.2.2.2.1; omega⟩
  have HOW := Lib.hid (fun wx (hx : Below w.heap.size w wx) => Own_any wx v o (h.below hx) hsm)
  have HMY := Lib.hid (fun wx (hx : Below w.heap.size w wx) => May_ok wx v o (h.below hx) hk)
  have HSH := short_ok hm
  have HMS := Lib.hid (fun wx => message_any m wx HSH.1 HSH.2)
  rw [hm] at HMS
  have hls : 0 ≤ o.last ∧ o.last ≤ 65535 := ⟨hk.1, hk.2.1⟩
  have h4 := hk.2.2.1
  have h8 := hk.2.2.2.1
  clear hk hsm hm HSH
  obtain ⟨last, F, Q⟩ := o
  obtain ⟨fv, qv, rfl, hF, hQ⟩ := h
  simp only at hF hQ HOW HMY h4 h8 hls hfull ⊢
  obtain ⟨fo, fc, rfl, _, _⟩ := hF.form
  obtain ⟨qo, qc, rfl, _, _⟩ := hQ.form
  obtain ⟨w0, hw0⟩ : ∃ w0, w0 = (((w.alloc (.cells #[.int .i64 last, .slice fo F.length fc, .slice qo Q.length qc] 25)).alloc (.cells #[.string m.t, .string m.p, .int .i64 m.q, .bool m.r] 34)).alloc (.cells #[.int .i64 0, .slice none 0 0, .slice none 0 0] 25)) := ⟨_, rfl⟩
  have hb0 : Below w.heap.size w w0 := by rw [hw0]; go_grown
  have hz0 : w.heap.size + 3 ≤ w0.heap.size := by rw [hw0]; simp
  have hA : Whole w0 w.heap.size 25 [.int .i64 last, .slice fo F.length fc, .slice qo Q.length qc] := by rw [hw0]; exact ((Whole.new w 25 _).alloc _).alloc _
  have hM : Whole w0 (w.heap.size + 1) 34 [.string m.t, .string m.p, .int .i64 m.q, .bool m.r] := by
    rw [hw0]
    have := Whole.new (w.alloc (.cells #[.int .i64 last, .slice fo F.length fc, .slice qo Q.length qc] 25)) 34 [.string m.t, .string m.p, .int .i64 m.q, .bool m.r]
    exact (by simpa using this : Whole _ (w.heap.size + 1) 34 _).alloc _
  have hRR : Whole w0 (w.heap.size + 2) 25 [.int .i64 0, .slice none 0 0, .slice none 0 0] := by
    rw [hw0]
    have := Whole.new ((w.alloc (.cells #[.int .i64 last, .slice fo F.length fc, .slice qo Q.length qc] 25)).alloc (.cells #[.string m.t, .string m.p, .int .i64 m.q, .bool m.r] 34)) 25 [.int .i64 0, .slice none 0 0, .slice none 0 0]
    simpa using this
  have HW := Lib.hid hw0
  obtain ⟨a0, a1, a2, a3, a4, a5⟩ := hA.three
  have HA := Lib.hid hA
  have HM := Lib.hid hM
  have HR := Lib.hid hRR
  have HB0 := Lib.hid hb0
  have HFU := Lib.hid hfull
  clear hF hQ hw0 hA hM hRR hb0 hfull
  unfold msgV
  go_enter Try.func6, Try.ntmps6
  go_upto_region 1 with fail
  rw [← HW.out, show w.heap.size + 1 + 1 = w.heap.size + 2 from rfl]
  go_wp2_with fail
  refine (HMY.out _ HB0.out).mono ?_
  rintro e w1 ⟨rfl, hb1⟩
  have hbb1 := b_tr HB0.out hb1
  have HA1 := Lib.hid (HA.out.belowH hb1)
  have HM1 := Lib.hid (HM.out.belowH hb1)
  have HR1 := Lib.hid (HR.out.belowH hb1)
  have HBB1 := Lib.hid hbb1
  have hz1 := hb1.size
  clear a0 a1 a2 a3 a4 a5 hb1 hbb1
  have m0 : w1.cell? ⟨w.heap.size + 1, 0, none⟩ = some (.string m.t) := HM1.out.cell 0
  have m1 : w1.cell? ⟨w.heap.size + 1, 1, none⟩ = some (.string m.p) := HM1.out.cell 1
  have m2 : w1.cell? ⟨w.heap.size + 1, 2, none⟩ = some (.int .i64 m.q) := HM1.out.cell 2
  have m3 : w1.cell? ⟨w.heap.size + 1, 3, none⟩ = some (.bool m.r) := HM1.out.cell 3
  go_wp2_with fail
  refine (HMS.out _).mono ?_
  rintro e w2 ⟨rfl, hb2⟩
  have hbb2 := b_tr HBB1.out hb2
  have HA2 := Lib.hid (HA1.out.belowH hb2)
  have HM2 := Lib.hid (HM1.out.belowH hb2)
  have HR2 := Lib.hid (HR1.out.belowH hb2)
  have HBB2 := Lib.hid hbb2
  have hz2 := hb2.size
  clear m0 m1 m2 m3 hb2 hbb2
  obtain ⟨a0, a1, a2, a3, a4, a5⟩ := HA2.out.three
  obtain ⟨r0, r1, r2, r3, r4, r5⟩ := HR2.out.three
  have hl7 : Left [w.heap.size + 2] w2 (((w2.setCell ⟨w.heap.size + 2, 0, none⟩ (.int .i64 0)).setCell ⟨w.heap.size + 2, 1, none⟩ (.slice none 0 0)).setCell ⟨w.heap.size + 2, 2, none⟩ (.slice none 0 0)) := (((Left.refl _ w2).setCell (Or.inl (by simp)) _).setCell (Or.inl (by simp)) _).setCell (Or.inl (by simp)) _
  have HRET := Lib.hid (((HR2.out.put 0 (.int .i64 0)).put 1 (.slice none 0 0)).put 2 (.slice none 0 0))
  have HBB := Lib.hid (HBB2.out.trans (hl7.belowB (B := w.heap.size) (by omega) (by simp)))
  clear hl7
  obtain ⟨f1, f2⟩ := HFU.out
  go_wp2
  (try simp only [Exit.inBlock, Exit.then])
  refine bodyPost_ret (results_row_tmp2 (P := Try.prog) (p := 6) (u := 7) (x := 8) (ty := 25) rfl _ _ (w.heap.size + 2) 25 _ (0, 0) _ rfl HRET.out Try.underlying25 rfl (by kernel_rfl)) rfl ?_
  exact ⟨rfl, HBB.out⟩
end Go.Proofs.Ytndidkaoigjbiaa
