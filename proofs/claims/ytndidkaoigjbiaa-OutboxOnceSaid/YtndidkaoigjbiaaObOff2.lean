/- The outbox: Offer, taken. -/




import Derived.Test.YtndidkaoigjbiaaObOff
namespace Go.Proofs.Ytndidkaoigjbiaa
open Go.RowKit
set_option maxRecDepth 20000 in
set_option maxHeartbeats 4000000 in
theorem Offer_down (w : World) (v : Value) (o : OB) (m : Msg) (h : OR w v o) (hk : okO o) (hm : okM m = true) (hfull : o.Q.length < 8) :
    Calls Try.prog 6 #[v, msgV m, .bool false] w fun e w' => ∃ v', e = .returned (.tuple #[v', .slice none 0 0, .int .i64 0]) ∧ OO w' w.heap.size v' ⟨o.last, o.F, o.Q ++ [m]⟩ ∧ Below w.heap.size w w' := by
  have hsm : Small o := ⟨by have := hk.2.2.1; omega, by have := hk.2.2.2.1; omega⟩
  have HOW := Lib.hid (fun wx (hx : Below w.heap.size w wx) => Own_any wx v o (h.below hx) hsm)
  have HMY := Lib.hid (fun wx (hx : Below w.heap.size w wx) => May_ok wx v o (h.below hx) hk)
  have HSH := short_ok hm
  have HMS := Lib.hid (fun wx => message_any m wx HSH.1 HSH.2)
  rw [hm] at HMS
  have hls : 0 ≤ o.last ∧ o.last ≤ 65535 := ⟨hk.1, hk.2.1⟩
  have h4 := hk.2.2.1
  have h8 := hk.2.2.2.1
  clear hk hsm hm HSH
  obtain ⟨last, F, Q⟩ := o
  obtain ⟨fv, qv, rfl, hF, hQ⟩ := h
  simp only at hF hQ HOW HMY h4 h8 hls hfull ⊢
  obtain ⟨fo, fc, rfl, _, _⟩ := hF.form
  obtain ⟨qo, qc, rfl, _, _⟩ := hQ.form
  obtain ⟨w0, hw0⟩ : ∃ w0, w0 = (((w.alloc (.cells #[.int .i64 last, .slice fo F.length fc, .slice qo Q.length qc] 25)).alloc (.cells #[.string m.t, .string m.p, .int .i64 m.q, .bool m.r] 34)).alloc (.cells #[.int .i64 0, .slice none 0 0, .slice none 0 0] 25)) := ⟨_, rfl⟩
  have hb0 : Below w.heap.size w w0 := by rw [hw0]; go_grown
  have hz0 : w.heap.size + 3 ≤ w0.heap.size := by rw [hw0]; simp
  have hA : Whole w0 w.heap.size 25 [.int .i64 last, .slice fo F.length fc, .slice qo Q.length qc] := by rw [hw0]; exact ((Whole.new w 25 _).alloc _).alloc _
  have hM : Whole w0 (w.heap.size + 1) 34 [.string m.t, .string m.p, .int .i64 m.q, .bool m.r] := by
    rw [hw0]
    have := Whole.new (w.alloc (.cells #[.int .i64 last, .slice fo F.length fc, .slice qo Q.length qc] 25)) 34 [.string m.t, .string m.p, .int .i64 m.q, .bool m.r]
    exact (by simpa using this : Whole _ (w.heap.size + 1) 34 _).alloc _
  have hRR : Whole w0 (w.heap.size + 2) 25 [.int .i64 0, .slice none 0 0, .slice none 0 0] := by
    rw [hw0]
    have := Whole.new ((w.alloc (.cells #[.int .i64 last, .slice fo F.length fc, .slice qo Q.length qc] 25)).alloc (.cells #[.string m.t, .string m.p, .int .i64 m.q, .bool m.r] 34)) 25 [.int .i64 0, .slice none 0 0, .slice none 0 0]
    simpa using this
  have HW := Lib.hid hw0
  obtain ⟨a0, a1, a2, a3, a4, a5⟩ := hA.three
  have HA := Lib.hid hA
  have HM := Lib.hid hM
  have HR := Lib.hid hRR
  have HB0 := Lib.hid hb0
  have HFU := Lib.hid hfull
  clear hF hQ hw0 hA hM hRR hb0 hfull
  unfold msgV
  go_enter Try.func6, Try.ntmps6
  go_upto_region 1 with fail
  rw [← HW.out, show w.heap.size + 1 + 1 = w.heap.size + 2 from rfl]
  go_wp2_with fail
  refine (HMY.out _ HB0.out).mono ?_
  rintro e w1 ⟨rfl, hb1⟩
  have hbb1 := b_tr HB0.out hb1
  have HA1 := Lib.hid (HA.out.belowH hb1)
  have HM1 := Lib.hid (HM.out.belowH hb1)
  have HR1 := Lib.hid (HR.out.belowH hb1)
  have HBB1 := Lib.hid hbb1
  have hz1 := hb1.size
  clear a0 a1 a2 a3 a4 a5 hb1 hbb1
  have m0 : w1.cell? ⟨w.heap.size + 1, 0, none⟩ = some (.string m.t) := HM1.out.cell 0
  have m1 : w1.cell? ⟨w.heap.size + 1, 1, none⟩ = some (.string m.p) := HM1.out.cell 1
  have m2 : w1.cell? ⟨w.heap.size + 1, 2, none⟩ = some (.int .i64 m.q) := HM1.out.cell 2
  have m3 : w1.cell? ⟨w.heap.size + 1, 3, none⟩ = some (.bool m.r) := HM1.out.cell 3
  go_wp2_with fail
  refine (HMS.out _).mono ?_
  rintro e w2 ⟨rfl, hb2⟩
  have hbb2 := b_tr HBB1.out hb2
  have HA2 := Lib.hid (HA1.out.belowH hb2)
  have HM2 := Lib.hid (HM1.out.belowH hb2)
  have HR2 := Lib.hid (HR1.out.belowH hb2)
  have HBB2 := Lib.hid hbb2
  have hz2 := hb2.size
  clear m0 m1 m2 m3 hb2 hbb2
  obtain ⟨a0, a1, a2, a3, a4, a5⟩ := HA2.out.three
  have hQ9 : (Q.length : Int) ≠ 8 := by have := HFU.out; omega
  have hQ9b : ((Q.length : Int) == 8) = false := beq_eq_false_iff_ne.2 hQ9
  clear hQ9
  go_upto_region 5 with fail
  go_wp2_with fail
  refine (HOW.out _ HBB2.out).mono ?_
  rintro e w3 ⟨v3, rfl, ⟨fv3, qv3, rfl, hF3, hQ3⟩, hb3⟩
  simp only at hF3 hQ3 ⊢
  obtain ⟨fo3, fc3, rfl, _, _⟩ := (Rd.of_own hF3).form
  obtain ⟨qo3, qc3, rfl, _, _⟩ := (Rd.of_own hQ3).form
  have hA3 := HA2.out.belowH hb3
  have hM3 := HM2.out.belowH hb3
  have hR3 := HR2.out.belowH hb3
  have hz3 := hb3.size
  clear a0 a1 a2 a3 a4 a5
  obtain ⟨a0, a1, a2, a3, a4, a5⟩ := hA3.three
  obtain ⟨w4, hw4⟩ : ∃ w4, w4 = ((w3.setCell ⟨w.heap.size, 0, none⟩ (.int .i64 last)).setCell ⟨w.heap.size, 1, none⟩ (.slice fo3 F.length fc3)).setCell ⟨w.heap.size, 2, none⟩ (.slice qo3 Q.length qc3) := ⟨_, rfl⟩
  have hl4 : Left [w.heap.size] w3 w4 := hw4 ▸ (((Left.refl _ w3).setCell (Or.inl (by simp)) _).setCell (Or.inl (by simp)) _).setCell (Or.inl (by simp)) _
  have hA4 : Whole w4 w.heap.size 25 [.int .i64 last, .slice fo3 F.length fc3, .slice qo3 Q.length qc3] := by rw [hw4]; exact ((hA3.put 0 _).put 1 _).put 2 _
  have hM4 := hM3.left hl4 (by simp)
  have hR4 := hR3.left hl4 (by simp)
  have hF4 := own_left hF3 hl4 (by simp; omega)
  have hQ4 := own_left hQ3 hl4 (by simp; omega)
  have hz4 := hl4.size
  have HB4 := Lib.hid ((b_tr HBB2.out hb3).trans (hl4.belowB (B := w.heap.size) (by omega) (by simp)))
  have HA4 := Lib.hid hA4
  have HM4 := Lib.hid hM4
  have HR4 := Lib.hid hR4
  have HF4 := Lib.hid hF4
  have HQ4 := Lib.hid hQ4
  have HW4 := Lib.hid hw4
  clear hF3 hQ3 hb3 hA3 hM3 hR3 hl4 hA4 hM4 hR4 hF4 hQ4 hw4
  go_upto_region 6 with fail
  rw [← HW4.out]
  clear a0 a1 a2 a3 a4 a5
  obtain ⟨a0, a1, a2, a3, a4, a5⟩ := HA4.out.three
  have m0 : w4.cell? ⟨w.heap.size + 1, 0, none⟩ = some (.string m.t) := HM4.out.cell 0
  have m1 : w4.cell? ⟨w.heap.size + 1, 1, none⟩ = some (.string m.p) := HM4.out.cell 1
  have m2 : w4.cell? ⟨w.heap.size + 1, 2, none⟩ = some (.int .i64 m.q) := HM4.out.cell 2
  have m3 : w4.cell? ⟨w.heap.size + 1, 3, none⟩ = some (.bool m.r) := HM4.out.cell 3
  obtain ⟨w5, hw5⟩ : ∃ w5, w5 = w4.alloc (.cells #[.string m.t, .string m.p, .int .i64 m.q, .bool m.r] 34) := ⟨_, rfl⟩
  have hl5 : Left [] w4 w5 := hw5 ▸ (Left.refl [] w4).alloc _
  have hN5 : w5.ownsRow w4.heap.size 34 4 (.slice (some ⟨w4.heap.size, 0, none⟩) 1 1) 1 (msgC m) := hw5 ▸ own_one w4 34 4 (msgC m) rfl
  have HRD := Lib.hid (Rd.of_own hN5)
  have HA5 := Lib.hid (HA4.out.left hl5 (by simp))
  have HR5 := Lib.hid (HR4.out.left hl5 (by simp))
  have HF5 := Lib.hid (own_left HF4.out hl5 (by simp))
  have HQ5 := Lib.hid (own_left HQ4.out hl5 (by simp))
  have HB5 := Lib.hid (HB4.out.trans (hl5.belowB (B := w.heap.size) (by omega) (by simp)))
  have hz5 := hl5.size
  have hch := hw5.symm
  have HQL := Lib.hid (show Q.length < 8 from HFU.out)
  clear hl5 hN5 hw5
  go_wp2_with (at_builtin; refine wpList_app _ rfl (.tmp 39) (.tmp 41) _ rfl w2.heap.size 34 (.agg #[.string ⟨#[]⟩, .string ⟨#[]⟩, .int .i64 0, .bool false]) 4 48 Try.underlying23 inf_M rfl (by omega) _ Q.length (eM.cells Q) rfl HQ5.out _ _ 1 (msgC m) rfl HRD.out (eM.one m) ?_ ?_ ?_ ?_)
  · have := HQL.out; unfold maxLen; omega
  · have := HQL.out; omega
  · omega
  intro v7 w7 hrow hg7 _
  have hl7 := left_of_grown hg7
  obtain ⟨qo7, qc7, rfl, _, _⟩ := (Rd.of_own hrow).form
  have hqt := fun {k : Nat} (hk : k ∈ Value.ownL (.slice qo3 Q.length qc3)) => own_ty HQ5.out (mem_ownL.1 hk)
  have hA7 := HA5.out.left hl7 (fun hm => (hqt hm).ne HA5.out.ty (by decide) rfl)
  have hR7 := HR5.out.left hl7 (fun hm => (hqt hm).ne HR5.out.ty (by decide) rfl)
  have hF7 := own_leftB HF5.out hl7 (fun k hk e => (own_ty HF5.out e).ne (hqt hk) (by decide) rfl)
  have hz7 := hl7.size
  have hB7 := HB5.out.trans (hl7.belowB (B := w.heap.size) (by omega) (fun k hk => by have := (HQ5.out.lt k (mem_ownL.1 hk)).1; omega))
  obtain ⟨w8, hw8⟩ : ∃ w8, w8 = w7.setCell ⟨w.heap.size, 2, none⟩ (.slice qo7 (Q.length + 1) qc7) := ⟨_, rfl⟩
  obtain ⟨b0, b1, b2, b3, b4, b5⟩ := hA7.three
  have hl8 : Left [w.heap.size] w7 w8 := hw8 ▸ (Left.refl _ w7).setCell (Or.inl (by simp)) _
  have hA8 : Whole w8 w.heap.size 25 [.int .i64 last, .slice fo3 F.length fc3, .slice qo7 (Q.length + 1) qc7] := by rw [hw8]; exact hA7.put 2 _
  have hcs : eM.cells (Q ++ [m]) = eM.cells Q ++ msgC m := by rw [eM.cells_app, eM.cells_one]; rfl
  have HO8 : Hid (OO w8 w2.heap.size (.agg #[.int .i64 last, .slice fo3 F.length fc3, .slice qo7 (Q.length + 1) qc7]) ⟨last, F, Q ++ [m]⟩) := Lib.hid ⟨_, _, rfl, own_left hF7 hl8 (by simp; omega), by
    have := own_left hrow hl8 (by simp; omega)
    rw [← hcs] at this
    simpa using this⟩
  have HA8 := Lib.hid hA8
  have HR8 := Lib.hid (hR7.left hl8 (by simp))
  have HB8 := Lib.hid (hB7.trans (hl8.belowB (B := w.heap.size) (by omega) (by simp)))
  have hz8 := hl8.size
  have HW8 := Lib.hid hw8
  clear hrow hg7 hl7 hqt hA7 hR7 hF7 hB7 hw8 hl8 hA8 hcs m0 m1 m2 m3 a0 a1 a2 a3 a4 a5 hch
  go_upto_region 7 with fail
  rw [← HW8.out]
  clear b0 b1 b2 b3 b4 b5
  obtain ⟨a0, a1, a2, a3, a4, a5⟩ := HA8.out.three
  obtain ⟨r0, r1, r2, r3, r4, r5⟩ := HR8.out.three
  have hl9 : Left [w.heap.size + 2] w8 (((w8.setCell ⟨w.heap.size + 2, 0, none⟩ (.int .i64 last)).setCell ⟨w.heap.size + 2, 1, none⟩ (.slice fo3 F.length fc3)).setCell ⟨w.heap.size + 2, 2, none⟩ (.slice qo7 (Q.length + 1) qc7)) := (((Left.refl _ w8).setCell (Or.inl (by simp)) _).setCell (Or.inl (by simp)) _).setCell (Or.inl (by simp)) _
  have HRET := Lib.hid (((HR8.out.put 0 (.int .i64 last)).put 1 (.slice fo3 F.length fc3)).put 2 (.slice qo7 (Q.length + 1) qc7))
  have HBB := Lib.hid (HB8.out.trans (hl9.belowB (B := w.heap.size) (by omega) (by simp)))
  have HOO : Hid (OO (((w8.setCell ⟨w.heap.size + 2, 0, none⟩ (.int .i64 last)).setCell ⟨w.heap.size + 2, 1, none⟩ (.slice fo3 F.length fc3)).setCell ⟨w.heap.size + 2, 2, none⟩ (.slice qo7 (Q.length + 1) qc7)) w.heap.size (.agg #[.int .i64 last, .slice fo3 F.length fc3, .slice qo7 (Q.length + 1) qc7]) ⟨last, F, Q ++ [m]⟩) := Lib.hid (by
    obtain ⟨fv, qv, e, h1, h2⟩ := HO8.out
    exact ⟨fv, qv, e, own_base (own_left h1 hl9 (by simp; omega)) (by omega), own_base (own_left h2 hl9 (by simp; omega)) (by omega)⟩)
  clear hl9
  go_wp2
  (try simp only [Exit.inBlock, Exit.then])
  refine bodyPost_ret (results_row_tmp2 (P := Try.prog) (p := 6) (u := 7) (x := 8) (ty := 25) rfl _ _ (w.heap.size + 2) 25 _ (0, 0) _ rfl HRET.out Try.underlying25 rfl (by kernel_rfl)) rfl ?_
  exact ⟨_, rfl, HOO.out, HBB.out⟩
set_option maxRecDepth 20000 in
set_option maxHeartbeats 4000000 in
theorem Offer_up (w : World) (v : Value) (o : OB) (m : Msg) (h : OR w v o) (hk : okO o) (hm : okM m = true) (hfull : o.Q.length < 8) :
    Calls Try.prog 6 #[v, msgV m, .bool true] w fun e w' => ∃ v' lv, e = .returned (.tuple #[v', lv, .int .i64 0]) ∧ OO w' w.heap.size v' (fillO o.last o.F (o.Q ++ [m])).1 ∧
      w'.ownsRow w.heap.size 50 24 lv (fillO o.last o.F (o.Q ++ [m])).2.length (eP.cells (pub0 (fillO o.last o.F (o.Q ++ [m])).2)) ∧ Below w.heap.size w w' := by
  obtain ⟨R, hR⟩ : ∃ R, fillO o.last o.F (o.Q ++ [m]) = R := ⟨_, rfl⟩
  have hRs := fillO_small (o.Q ++ [m]) o.last o.F
  rw [hR] at hRs ⊢
  have hRs2 : R.1.F.length ≤ 4 ∧ R.1.Q.length ≤ 100 := by
    have := hk.2.2.1
    have := hRs.2.1
    simp at this
    exact ⟨hRs.2.2 (by assumption), by omega⟩
  have HRS := Lib.hid hRs2
  have HRR := Lib.hid hR
  clear hR hRs hRs2
  have hsm : Small o := ⟨by have := hk.2.2.1; omega, by have := hk.2.2.2.1; omega⟩
  have HOW := Lib.hid (fun wx (hx : Below w.heap.size w wx) => Own_any wx v o (h.below hx) hsm)
  have HMY := Lib.hid (fun wx (hx : Below w.heap.size w wx) => May_ok wx v o (h.below hx) hk)
  have HSH := short_ok hm
  have HMS := Lib.hid (fun wx => message_any m wx HSH.1 HSH.2)
  rw [hm] at HMS
  have hls : 0 ≤ o.last ∧ o.last ≤ 65535 := ⟨hk.1, hk.2.1⟩
  have h4 := hk.2.2.1
  have h8 := hk.2.2.2.1
  clear hk hsm hm HSH
  obtain ⟨last, F, Q⟩ := o
  obtain ⟨fv, qv, rfl, hF, hQ⟩ := h
  simp only at hF hQ HOW HMY h4 h8 hls hfull ⊢
  obtain ⟨fo, fc, rfl, _, _⟩ := hF.form
  obtain ⟨qo, qc, rfl, _, _⟩ := hQ.form
  obtain ⟨w0, hw0⟩ : ∃ w0, w0 = (((w.alloc (.cells #[.int .i64 last, .slice fo F.length fc, .slice qo Q.length qc] 25)).alloc (.cells #[.string m.t, .string m.p, .int .i64 m.q, .bool m.r] 34)).alloc (.cells #[.int .i64 0, .slice none 0 0, .slice none 0 0] 25)) := ⟨_, rfl⟩
  have hb0 : Below w.heap.size w w0 := by rw [hw0]; go_grown
  have hz0 : w.heap.size + 3 ≤ w0.heap.size := by rw [hw0]; simp
  have hA : Whole w0 w.heap.size 25 [.int .i64 last, .slice fo F.length fc, .slice qo Q.length qc] := by rw [hw0]; exact ((Whole.new w 25 _).alloc _).alloc _
  have hM : Whole w0 (w.heap.size + 1) 34 [.string m.t, .string m.p, .int .i64 m.q, .bool m.r] := by
    rw [hw0]
    have := Whole.new (w.alloc (.cells #[.int .i64 last, .slice fo F.length fc, .slice qo Q.length qc] 25)) 34 [.string m.t, .string m.p, .int .i64 m.q, .bool m.r]
    exact (by simpa using this : Whole _ (w.heap.size + 1) 34 _).alloc _
  have hRR : Whole w0 (w.heap.size + 2) 25 [.int .i64 0, .slice none 0 0, .slice none 0 0] := by
    rw [hw0]
    have := Whole.new ((w.alloc (.cells #[.int .i64 last, .slice fo F.length fc, .slice qo Q.length qc] 25)).alloc (.cells #[.string m.t, .string m.p, .int .i64 m.q, .bool m.r] 34)) 25 [.int .i64 0, .slice none 0 0, .slice none 0 0]
    simpa using this
  have HW := Lib.hid hw0
  obtain ⟨a0, a1, a2, a3, a4, a5⟩ := hA.three
  have HA := Lib.hid hA
  have HM := Lib.hid hM
  have HR := Lib.hid hRR
  have HB0 := Lib.hid hb0
  have HFU := Lib.hid hfull
  clear hF hQ hw0 hA hM hRR hb0 hfull
  unfold msgV
  go_enter Try.func6, Try.ntmps6
  go_upto_region 1 with fail
  rw [← HW.out, show w.heap.size + 1 + 1 = w.heap.size + 2 from rfl]
  go_wp2_with fail
  refine (HMY.out _ HB0.out).mono ?_
  rintro e w1 ⟨rfl, hb1⟩
  have hbb1 := b_tr HB0.out hb1
  have HA1 := Lib.hid (HA.out.belowH hb1)
  have HM1 := Lib.hid (HM.out.belowH hb1)
  have HR1 := Lib.hid (HR.out.belowH hb1)
  have HBB1 := Lib.hid hbb1
  have hz1 := hb1.size
  clear a0 a1 a2 a3 a4 a5 hb1 hbb1
  have m0 : w1.cell? ⟨w.heap.size + 1, 0, none⟩ = some (.string m.t) := HM1.out.cell 0
  have m1 : w1.cell? ⟨w.heap.size + 1, 1, none⟩ = some (.string m.p) := HM1.out.cell 1
  have m2 : w1.cell? ⟨w.heap.size + 1, 2, none⟩ = some (.int .i64 m.q) := HM1.out.cell 2
  have m3 : w1.cell? ⟨w.heap.size + 1, 3, none⟩ = some (.bool m.r) := HM1.out.cell 3
  go_wp2_with fail
  refine (HMS.out _).mono ?_
  rintro e w2 ⟨rfl, hb2⟩
  have hbb2 := b_tr HBB1.out hb2
  have HA2 := Lib.hid (HA1.out.belowH hb2)
  have HM2 := Lib.hid (HM1.out.belowH hb2)
  have HR2 := Lib.hid (HR1.out.belowH hb2)
  have HBB2 := Lib.hid hbb2
  have hz2 := hb2.size
  clear m0 m1 m2 m3 hb2 hbb2
  obtain ⟨a0, a1, a2, a3, a4, a5⟩ := HA2.out.three
  have hQ9 : (Q.length : Int) ≠ 8 := by have := HFU.out; omega
  have hQ9b : ((Q.length : Int) == 8) = false := beq_eq_false_iff_ne.2 hQ9
  clear hQ9
  go_upto_region 5 with fail
  go_wp2_with fail
  refine (HOW.out _ HBB2.out).mono ?_
  rintro e w3 ⟨v3, rfl, ⟨fv3, qv3, rfl, hF3, hQ3⟩, hb3⟩
  simp only at hF3 hQ3 ⊢
  obtain ⟨fo3, fc3, rfl, _, _⟩ := (Rd.of_own hF3).form
  obtain ⟨qo3, qc3, rfl, _, _⟩ := (Rd.of_own hQ3).form
  have hA3 := HA2.out.belowH hb3
  have hM3 := HM2.out.belowH hb3
  have hR3 := HR2.out.belowH hb3
  have hz3 := hb3.size
  clear a0 a1 a2 a3 a4 a5
  obtain ⟨a0, a1, a2, a3, a4, a5⟩ := hA3.three
  obtain ⟨w4, hw4⟩ : ∃ w4, w4 = ((w3.setCell ⟨w.heap.size, 0, none⟩ (.int .i64 last)).setCell ⟨w.heap.size, 1, none⟩ (.slice fo3 F.length fc3)).setCell ⟨w.heap.size, 2, none⟩ (.slice qo3 Q.length qc3) := ⟨_, rfl⟩
  have hl4 : Left [w.heap.size] w3 w4 := hw4 ▸ (((Left.refl _ w3).setCell (Or.inl (by simp)) _).setCell (Or.inl (by simp)) _).setCell (Or.inl (by simp)) _
  have hA4 : Whole w4 w.heap.size 25 [.int .i64 last, .slice fo3 F.length fc3, .slice qo3 Q.length qc3] := by rw [hw4]; exact ((hA3.put 0 _).put 1 _).put 2 _
  have hM4 := hM3.left hl4 (by simp)
  have hR4 := hR3.left hl4 (by simp)
  have hF4 := own_left hF3 hl4 (by simp; omega)
  have hQ4 := own_left hQ3 hl4 (by simp; omega)
  have hz4 := hl4.size
  have HB4 := Lib.hid ((b_tr HBB2.out hb3).trans (hl4.belowB (B := w.heap.size) (by omega) (by simp)))
  have HA4 := Lib.hid hA4
  have HM4 := Lib.hid hM4
  have HR4 := Lib.hid hR4
  have HF4 := Lib.hid hF4
  have HQ4 := Lib.hid hQ4
  have HW4 := Lib.hid hw4
  clear hF3 hQ3 hb3 hA3 hM3 hR3 hl4 hA4 hM4 hR4 hF4 hQ4 hw4
  go_upto_region 6 with fail
  rw [← HW4.out]
  clear a0 a1 a2 a3 a4 a5
  obtain ⟨a0, a1, a2, a3, a4, a5⟩ := HA4.out.three
  have m0 : w4.cell? ⟨w.heap.size + 1, 0, none⟩ = some (.string m.t) := HM4.out.cell 0
  have m1 : w4.cell? ⟨w.heap.size + 1, 1, none⟩ = some (.string m.p) := HM4.out.cell 1
  have m2 : w4.cell? ⟨w.heap.size + 1, 2, none⟩ = some (.int .i64 m.q) := HM4.out.cell 2
  have m3 : w4.cell? ⟨w.heap.size + 1, 3, none⟩ = some (.bool m.r) := HM4.out.cell 3
  obtain ⟨w5, hw5⟩ : ∃ w5, w5 = w4.alloc (.cells #[.string m.t, .string m.p, .int .i64 m.q, .bool m.r] 34) := ⟨_, rfl⟩
  have hl5 : Left [] w4 w5 := hw5 ▸ (Left.refl [] w4).alloc _
  have hN5 : w5.ownsRow w4.heap.size 34 4 (.slice (some ⟨w4.heap.size, 0, none⟩) 1 1) 1 (msgC m) := hw5 ▸ own_one w4 34 4 (msgC m) rfl
  have HRD := Lib.hid (Rd.of_own hN5)
  have HA5 := Lib.hid (HA4.out.left hl5 (by simp))
  have HR5 := Lib.hid (HR4.out.left hl5 (by simp))
  have HF5 := Lib.hid (own_left HF4.out hl5 (by simp))
  have HQ5 := Lib.hid (own_left HQ4.out hl5 (by simp))
  have HB5 := Lib.hid (HB4.out.trans (hl5.belowB (B := w.heap.size) (by omega) (by simp)))
  have hz5 := hl5.size
  have hch := hw5.symm
  have HQL := Lib.hid (show Q.length < 8 from HFU.out)
  clear hl5 hN5 hw5
  go_wp2_with (at_builtin; refine wpList_app _ rfl (.tmp 39) (.tmp 41) _ rfl w2.heap.size 34 (.agg #[.string ⟨#[]⟩, .string ⟨#[]⟩, .int .i64 0, .bool false]) 4 48 Try.underlying23 inf_M rfl (by omega) _ Q.length (eM.cells Q) rfl HQ5.out _ _ 1 (msgC m) rfl HRD.out (eM.one m) ?_ ?_ ?_ ?_)
  · have := HQL.out; unfold maxLen; omega
  · have := HQL.out; omega
  · omega
  intro v7 w7 hrow hg7 _
  have hl7 := left_of_grown hg7
  obtain ⟨qo7, qc7, rfl, _, _⟩ := (Rd.of_own hrow).form
  have hqt := fun {k : Nat} (hk : k ∈ Value.ownL (.slice qo3 Q.length qc3)) => own_ty HQ5.out (mem_ownL.1 hk)
  have hA7 := HA5.out.left hl7 (fun hm => (hqt hm).ne HA5.out.ty (by decide) rfl)
  have hR7 := HR5.out.left hl7 (fun hm => (hqt hm).ne HR5.out.ty (by decide) rfl)
  have hF7 := own_leftB HF5.out hl7 (fun k hk e => (own_ty HF5.out e).ne (hqt hk) (by decide) rfl)
  have hz7 := hl7.size
  have hB7 := HB5.out.trans (hl7.belowB (B := w.heap.size) (by omega) (fun k hk => by have := (HQ5.out.lt k (mem_ownL.1 hk)).1; omega))
  obtain ⟨w8, hw8⟩ : ∃ w8, w8 = w7.setCell ⟨w.heap.size, 2, none⟩ (.slice qo7 (Q.length + 1) qc7) := ⟨_, rfl⟩
  obtain ⟨b0, b1, b2, b3, b4, b5⟩ := hA7.three
  have hl8 : Left [w.heap.size] w7 w8 := hw8 ▸ (Left.refl _ w7).setCell (Or.inl (by simp)) _
  have hA8 : Whole w8 w.heap.size 25 [.int .i64 last, .slice fo3 F.length fc3, .slice qo7 (Q.length + 1) qc7] := by rw [hw8]; exact hA7.put 2 _
  have hcs : eM.cells (Q ++ [m]) = eM.cells Q ++ msgC m := by rw [eM.cells_app, eM.cells_one]; rfl
  have HO8 : Hid (OO w8 w2.heap.size (.agg #[.int .i64 last, .slice fo3 F.length fc3, .slice qo7 (Q.length + 1) qc7]) ⟨last, F, Q ++ [m]⟩) := Lib.hid ⟨_, _, rfl, own_left hF7 hl8 (by simp; omega), by
    have := own_left hrow hl8 (by simp; omega)
    rw [← hcs] at this
    simpa using this⟩
  have HA8 := Lib.hid hA8
  have HR8 := Lib.hid (hR7.left hl8 (by simp))
  have HB8 := Lib.hid (hB7.trans (hl8.belowB (B := w.heap.size) (by omega) (by simp)))
  have hz8 := hl8.size
  have HW8 := Lib.hid hw8
  clear hrow hg7 hl7 hqt hA7 hR7 hF7 hB7 hw8 hl8 hA8 hcs m0 m1 m2 m3 a0 a1 a2 a3 a4 a5 hch
  go_upto_region 7 with fail
  rw [← HW8.out]
  clear b0 b1 b2 b3 b4 b5
  obtain ⟨a0, a1, a2, a3, a4, a5⟩ := HA8.out.three
  have hfi := fill_any w8 w2.heap.size _ _ HO8.out (by omega) ⟨show F.length ≤ 100000 by omega, show (Q ++ [m]).length ≤ 100000 by have := HQL.out; simp; omega⟩ hls
  simp only at hfi
  have hrr : fillO last F (Q ++ [m]) = R := HRR.out
  rw [hrr] at hfi
  have HFI := Lib.hid hfi
  clear hfi hrr
  go_wp2_with fail
  refine HFI.out.mono ?_
  rintro e w9 ⟨v9, lv, rfl, ⟨fv9, qv9, rfl, hF9, hQ9⟩, hL9, hb9⟩
  obtain ⟨fo9, fc9, rfl, _, _⟩ := (Rd.of_own hF9).form
  obtain ⟨qo9, qc9, rfl, _, _⟩ := hQ9.form
  obtain ⟨lo9, lc9, rfl, _, _⟩ := (Rd.of_own hL9).form
  have hz9 := hb9.size
  have hA9 := HA8.out.below hb9 (by omega)
  have hR9 := HR8.out.below hb9 (by omega)
  clear a0 a1 a2 a3 a4 a5
  obtain ⟨a0, a1, a2, a3, a4, a5⟩ := hA9.three
  obtain ⟨wa, hwa⟩ : ∃ wa, wa = ((w9.setCell ⟨w.heap.size, 0, none⟩ (.int .i64 R.1.last)).setCell ⟨w.heap.size, 1, none⟩ (.slice fo9 R.1.F.length fc9)).setCell ⟨w.heap.size, 2, none⟩ (.slice qo9 R.1.Q.length qc9) := ⟨_, rfl⟩
  have hla : Left [w.heap.size] w9 wa := hwa ▸ (((Left.refl _ w9).setCell (Or.inl (by simp)) _).setCell (Or.inl (by simp)) _).setCell (Or.inl (by simp)) _
  have hAa : Whole wa w.heap.size 25 [.int .i64 R.1.last, .slice fo9 R.1.F.length fc9, .slice qo9 R.1.Q.length qc9] := by rw [hwa]; exact ((hA9.put 0 _).put 1 _).put 2 _
  have hRa := hR9.left hla (by simp)
  have hza := hla.size
  have hOR : OR wa (.agg #[.int .i64 R.1.last, .slice fo9 R.1.F.length fc9, .slice qo9 R.1.Q.length qc9]) R.1 := ⟨_, _, rfl, Rd.of_own (own_left hF9 hla (by simp; omega)), (hQ9.left hla (fun k hk e => by simp only [List.mem_singleton] at hk; subst hk; have := (hQ9.lt e).1; omega)).rd⟩
  have HOa := Lib.hid (Own_any wa _ _ hOR (by have := HRS.out; exact ⟨by omega, by omega⟩))
  have HLa := Lib.hid (own_left hL9 hla (by simp; omega))
  have HBa := Lib.hid ((HB8.out.trans (hb9.mono (by omega))).trans (hla.belowB (B := w.heap.size) (by omega) (by simp)))
  have HWa := Lib.hid hwa
  have HRa := Lib.hid hRa
  have HAa := Lib.hid hAa
  clear hF9 hQ9 hL9 hb9 hA9 hR9 hla hAa hRa hOR hwa
  go_upto_region 10 with fail
  rw [← HWa.out]
  clear a0 a1 a2 a3 a4 a5
  obtain ⟨a0, a1, a2, a3, a4, a5⟩ := HAa.out.three
  go_wp2_with fail
  refine HOa.out.mono ?_
  rintro e wb ⟨vb, rfl, ⟨fvb, qvb, rfl, hFb, hQb⟩, hbb⟩
  obtain ⟨fob, fcb, rfl, _, _⟩ := (Rd.of_own hFb).form
  obtain ⟨qob, qcb, rfl, _, _⟩ := (Rd.of_own hQb).form
  have hRb := HRa.out.belowH hbb
  have hzb := hbb.size
  obtain ⟨r0, r1, r2, r3, r4, r5⟩ := hRb.three
  have hlc : Left [w.heap.size + 2] wb (((wb.setCell ⟨w.heap.size + 2, 0, none⟩ (.int .i64 R.1.last)).setCell ⟨w.heap.size + 2, 1, none⟩ (.slice fob R.1.F.length fcb)).setCell ⟨w.heap.size + 2, 2, none⟩ (.slice qob R.1.Q.length qcb)) := (((Left.refl _ wb).setCell (Or.inl (by simp)) _).setCell (Or.inl (by simp)) _).setCell (Or.inl (by simp)) _
  have HRET := Lib.hid (((hRb.put 0 (.int .i64 R.1.last)).put 1 (.slice fob R.1.F.length fcb)).put 2 (.slice qob R.1.Q.length qcb))
  have HFF := Lib.hid (own_base (base' := w.heap.size) (own_left hFb hlc (by simp; omega)) (by omega))
  have HQQ := Lib.hid (own_base (base' := w.heap.size) (own_left hQb hlc (by simp; omega)) (by omega))
  have HLL := Lib.hid (own_base (base' := w.heap.size) (own_left (own_below HLa.out hbb) hlc (by simp; omega)) (by omega))
  have HBB := Lib.hid ((b_tr HBa.out (hbb.mono (Nat.le_refl _))).trans (hlc.belowB (B := w.heap.size) (by omega) (by simp)))
  clear hFb hQb hbb hRb hlc a0 a1 a2 a3 a4 a5
  go_wp2
  (try simp only [Exit.inBlock, Exit.then])
  refine bodyPost_ret (results_row_tmp2 (P := Try.prog) (p := 6) (u := 7) (x := 8) (ty := 25) rfl _ _ (w.heap.size + 2) 25 _ (0, 0) _ rfl HRET.out Try.underlying25 rfl (by kernel_rfl)) rfl ?_
  exact ⟨_, _, rfl, ⟨_, _, rfl, HFF.out, HQQ.out⟩, HLL.out, HBB.out⟩
end Go.Proofs.Ytndidkaoigjbiaa
