/- An outbox, a session copied: of any. -/


import Derived.Test.YtlehkaibbkblkaaGreatDoorRaCp
import Derived.Test.YtlehkaibbkblkaaGreatDoorGb
import Derived.Test.YtlehkaibbkblkaaGreatDoorRcMay2
namespace Go.Proofs.YtlehkaibbkblkaaGreatDoor
open Go.RowKit
set_option maxRecDepth 20000 in
set_option maxHeartbeats 2000000 in
theorem cpO_any (w : World) (v : Value) (o : OB) (h : OR w v o) (hs : o.F.length ≤ 1000000 ∧ o.Q.length ≤ 1000000) :
    Calls Tryz.prog 59 #[v] w fun e w' => ∃ fo fc qo qc, e = .returned (.agg #[.int .i64 o.last, .slice fo o.F.length fc, .slice qo o.Q.length qc]) ∧ w'.ownsRow w.heap.size 67 6 (.slice fo o.F.length fc) o.F.length (eF.cells o.F) ∧ w'.ownsRow w.heap.size 64 4 (.slice qo o.Q.length qc) o.Q.length (eM.cells o.Q) ∧ Below w.heap.size w w' := by
  obtain ⟨last, F, Q⟩ := o
  obtain ⟨fv, qv, rfl, hF, hQ⟩ := h
  obtain ⟨hsF, hsQ⟩ := hs
  simp only at hF hQ hsF hsQ ⊢
  obtain ⟨fo, fc, rfl, _, _⟩ := hF.form
  obtain ⟨qo, qc, rfl, _, _⟩ := hQ.form
  have HCF := Lib.hid (fun (wx : World) (hx : Below w.heap.size w wx) => cpF_any wx _ F _ (hF.below hx) hx.size (by omega))
  have HCQ := Lib.hid (fun (wx : World) (hx : Below w.heap.size w wx) => cpM_any wx _ Q _ (hQ.below hx) hx.size (by omega))
  obtain ⟨B, hB⟩ : ∃ B, w.heap.size = B := ⟨_, rfl⟩
  obtain ⟨w1, hw1⟩ : ∃ w1, ((w.alloc (.cells #[.int .i64 last, .slice fo F.length fc, .slice qo Q.length qc] 48)).alloc (.cells #[.int .i64 0, .slice none 0 0, .slice none 0 0] 48)) = w1 := ⟨_, rfl⟩
  have hb1 : Below w.heap.size w w1 := by rw [← hw1]; go_grown
  have hz1 : w1.heap.size = B + 2 := by rw [← hw1]; simp [hB]
  have hA1 : Whole w1 B 48 [.int .i64 last, .slice fo F.length fc, .slice qo Q.length qc] := by rw [← hw1, ← hB]; exact (Whole.new w 48 _).alloc _
  have hR1 : Whole w1 (B + 1) 48 [.int .i64 0, .slice none 0 0, .slice none 0 0] := by
    rw [← hw1, ← hB]
    have := Whole.new (w.alloc (.cells #[.int .i64 last, .slice fo F.length fc, .slice qo Q.length qc] 48)) 48 [.int .i64 0, .slice none 0 0, .slice none 0 0]
    simpa using this
  obtain ⟨w2, hw2⟩ : ∃ w2, w1.alloc (.cells #[.int .i64 last, .slice fo F.length fc, .slice qo Q.length qc] 48) = w2 := ⟨_, rfl⟩
  have hb2 : Below w.heap.size w w2 := by rw [← hw2]; exact hb1.alloc (by omega) _
  have hz2 : w2.heap.size = B + 3 := by rw [← hw2]; simp [hz1]
  have hA2 : Whole w2 B 48 [.int .i64 last, .slice fo F.length fc, .slice qo Q.length qc] := by rw [← hw2]; exact hA1.alloc _
  have hR2 : Whole w2 (B + 1) 48 [.int .i64 0, .slice none 0 0, .slice none 0 0] := by rw [← hw2]; exact hR1.alloc _
  have hX2 : Whole w2 (B + 2) 48 [.int .i64 last, .slice fo F.length fc, .slice qo Q.length qc] := by
    rw [← hw2, ← hz1]
    exact Whole.new w1 48 _
  obtain ⟨a0, a1, a2, _, _, _⟩ := hA1.three
  have HW1 := Lib.hid hw1
  have HW2 := Lib.hid hw2
  have HZ2 := Lib.hid hz2
  have HBB := Lib.hid hB
  clear hF hQ hw1 hw2 hb1 hA1 hR1
  go_enter Tryz.func59, Tryz.ntmps59
  go_upto_region 1 with fail
  rw [HW1.out]
  go_upto_region 2 with fail
  rw [HW2.out]
  clear a0 a1 a2 hz1 hz2 hB
  obtain ⟨a0, a1, a2, _, _, _⟩ := hA2.three
  obtain ⟨x0, x1, x2, q0, q1, q2⟩ := hX2.three
  go_upto_region 3 with (go_at_call 72; refine (HCF.out _ hb2).mono ?_; rintro e wf ⟨vf, rfl, hf, hbf⟩; obtain ⟨vfo, vfc, rfl, _, _⟩ := (Rd.of_own hf).form; replace x1 := b_cell hbf x1; replace q1 := (hX2.belowH hbf).free 1)
  clear a0 a1 a2 x0 x1 x2 q0 q1 q2
  obtain ⟨w3, hw3⟩ : ∃ w3, wf.setCell ⟨B + 2, 1, none⟩ (.slice vfo F.length vfc) = w3 := ⟨_, rfl⟩
  have hl3 : Left [B + 2] wf w3 := by rw [← hw3]; exact (Left.refl _ wf).setCell (Or.inl (by simp)) _
  have hA3 : Whole w3 B 48 [.int .i64 last, .slice fo F.length fc, .slice qo Q.length qc] := by rw [← hw3]; exact (hA2.belowH hbf).other (by simp) _
  have hR3 : Whole w3 (B + 1) 48 [.int .i64 0, .slice none 0 0, .slice none 0 0] := by rw [← hw3]; exact (hR2.belowH hbf).other (by simp) _
  have hX3 : Whole w3 (B + 2) 48 [.int .i64 last, .slice vfo F.length vfc, .slice qo Q.length qc] := by rw [← hw3]; exact (hX2.belowH hbf).put 1 _
  have hz3 := hbf.size
  have hb3 : Below w.heap.size w w3 := (b_tr hb2 hbf).trans (hl3.belowB (B := w.heap.size) (Nat.le_trans hb2.size hz3) (by simp; have := HBB.out; omega))
  have hf3 := own_left (own_base (base' := B + 3) hf (by have := HZ2.out; omega)) hl3 (by simp)
  rw [hw3]
  clear hw3 hA2 hR2 hX2 hf hbf hb2
  have HF3 := Lib.hid hf3
  clear hf3
  obtain ⟨a0, a1, a2, _, _, _⟩ := hA3.three
  obtain ⟨x0, x1, x2, q0, q1, q2⟩ := hX3.three
  go_upto_region 4 with (go_at_call 40; refine (HCQ.out _ hb3).mono ?_; rintro e wq ⟨vq, rfl, hq, hbq⟩; obtain ⟨vqo, vqc, rfl, _, _⟩ := (Rd.of_own hq).form; replace x2 := b_cell hbq x2; replace q2 := (hX3.belowH hbq).free 2)
  clear a0 a1 a2 x0 x1 x2 q0 q1 q2
  obtain ⟨w4, hw4⟩ : ∃ w4, wq.setCell ⟨B + 2, 2, none⟩ (.slice vqo Q.length vqc) = w4 := ⟨_, rfl⟩
  have hl4 : Left [B + 2] wq w4 := by rw [← hw4]; exact (Left.refl _ wq).setCell (Or.inl (by simp)) _
  have hR4 : Whole w4 (B + 1) 48 [.int .i64 0, .slice none 0 0, .slice none 0 0] := by rw [← hw4]; exact (hR3.belowH hbq).other (by simp) _
  have hX4 : Whole w4 (B + 2) 48 [.int .i64 last, .slice vfo F.length vfc, .slice vqo Q.length vqc] := by rw [← hw4]; exact (hX3.belowH hbq).put 2 _
  have hz4 := hbq.size
  have hz5 := hl3.size
  have hb4 : Below w.heap.size w w4 := (b_tr hb3 hbq).trans (hl4.belowB (B := w.heap.size) (Nat.le_trans hb3.size hz4) (by simp; have := HBB.out; omega))
  have hf4 := own_left (own_below HF3.out hbq) hl4 (by simp)
  have hq4 := own_left (own_base (base' := B + 3) hq (by have := HZ2.out; omega)) hl4 (by simp)
  rw [hw4]
  clear hw4 hA3 hR3 hX3 hq hbq hb3
  have HF4 := Lib.hid hf4
  have HQ4 := Lib.hid hq4
  have HR4 := Lib.hid hR4
  have HB4 := Lib.hid hb4
  obtain ⟨x0, x1, x2, _, _, _⟩ := hX4.three
  obtain ⟨r0, r1, r2, s0, s1, s2⟩ := hR4.three
  have hl5 : Left [B + 1] w4 (((w4.setCell ⟨B + 1, 0, none⟩ (.int .i64 last)).setCell ⟨B + 1, 1, none⟩ (.slice vfo F.length vfc)).setCell ⟨B + 1, 2, none⟩ (.slice vqo Q.length vqc)) := (((Left.refl _ w4).setCell (Or.inl (by simp)) _).setCell (Or.inl (by simp)) _).setCell (Or.inl (by simp)) _
  have HL5 := Lib.hid hl5
  clear hf4 hq4 hR4 hX4 hl5 hb4 hl3 hl4
  go_wp2
  (try simp only [Exit.inBlock, Exit.then])
  refine bodyPost_ret (results_cell_row (P := Tryz.prog) (p := 2) (ty := 48) rfl _ _ (B + 1) 48 _ (0, 0) _ rfl (((HR4.out.put 0 _).put 1 _).put 2 _) Tryz.underlying48 rfl (by kernel_rfl)) rfl ?_
  have hbb := HBB.out
  exact ⟨_, _, _, _, rfl, own_base (own_left HF4.out HL5.out (by simp)) (by omega), own_base (own_left HQ4.out HL5.out (by simp)) (by omega), HB4.out.trans (HL5.out.belowB (B := w.heap.size) HB4.out.size (by simp; omega))⟩
def zS : List Value := [.string ⟨#[]⟩, .bool false, .int .i64 0, .slice none 0 0, .int .i64 0, .slice none 0 0, .slice none 0 0, .slice none 0 0, .bool false, .string ⟨#[]⟩, .string ⟨#[]⟩, .int .i64 0, .bool false, .int .i64 0, .int .i64 0]
set_option maxRecDepth 20000 in
set_option maxHeartbeats 8000000 in
theorem cpS_any (w : World) (r : Rs) (h : SRd w w.heap.size r) (hs : r.s.S.length ≤ 1000000 ∧ r.s.o.F.length ≤ 1000000 ∧ r.s.o.Q.length ≤ 1000000 ∧ r.s.I.length ≤ 1000000) :
    Calls Tryz.prog 41 #[seV r] w fun e w' => ∃ r' : Rs, r'.s = r.s ∧ e = .returned (seV r') ∧ SOwn w' w.heap.size 0 r' ∧ Below w.heap.size w w' := by
  obtain ⟨hs1, hs2, hs3, hs4⟩ := hs
  have HCW := Lib.hid (fun (wx : World) (hx : Below w.heap.size w wx) => cpW_any wx _ r.s.S _ (h.s.below hx) hx.size (by omega))
  have HCI := Lib.hid (fun (wx : World) (hx : Below w.heap.size w wx) => cpI_any wx _ r.s.I _ (h.i.below hx) hx.size (by omega))
  have HCO := Lib.hid (fun (wx : World) (hx : Below w.heap.size w wx) => cpO_any wx (.agg #[.int .i64 r.s.o.last, .slice r.fa r.s.o.F.length r.fc, .slice r.qa r.s.o.Q.length r.qc]) r.s.o ⟨_, _, rfl, ((h.f.below hx).more hx.size), ((h.q.below hx).more hx.size)⟩ ⟨hs2, hs3⟩)
  obtain ⟨B, hB⟩ : ∃ B, w.heap.size = B := ⟨_, rfl⟩
  obtain ⟨w1, hw1⟩ : ∃ w1, ((w.alloc (.cells (seC r).toArray 52)).alloc (.cells zS.toArray 52)) = w1 := ⟨_, rfl⟩
  have hb1 : Below w.heap.size w w1 := by rw [← hw1]; exact ((Below.refl _ _).alloc (Nat.le_refl _) _).alloc (by simp) _
  have hz1 : w1.heap.size = B + 2 := by rw [← hw1]; simp [hB]
  have hA1 : Whole w1 B 52 (seC r) := by rw [← hw1, ← hB]; exact (Whole.new w 52 _).alloc _
  have hR1 : Whole w1 (B + 1) 52 zS := by
    rw [← hw1, ← hB]
    have := Whole.new (w.alloc (.cells (seC r).toArray 52)) 52 zS
    simpa using this
  obtain ⟨w2, hw2⟩ : ∃ w2, w1.alloc (.cells (seC r).toArray 52) = w2 := ⟨_, rfl⟩
  have hb2 : Below w.heap.size w w2 := by rw [← hw2]; exact hb1.alloc (by omega) _
  have hz2 : w2.heap.size = B + 3 := by rw [← hw2]; simp [hz1]
  have hA2 : Whole w2 B 52 (seC r) := by rw [← hw2]; exact hA1.alloc _
  have hR2 : Whole w2 (B + 1) 52 zS := by rw [← hw2]; exact hR1.alloc _
  have hX2 : Whole w2 (B + 2) 52 (seC r) := by
    rw [← hw2, ← hz1]
    exact Whole.new w1 52 _
  have HA1 := Lib.hid hA1
  simp only [seC, zS] at hw1 hw2
  have HW1 := Lib.hid hw1
  have HW2 := Lib.hid hw2
  have HZ2 := Lib.hid hz2
  have HBB := Lib.hid hB
  clear h hw1 hw2 hb1 hA1 hR1
  unfold seV
  go_enter Tryz.func41, Tryz.ntmps41
  go_upto_region 1 with fail
  rw [HW1.out]
  obtain ⟨a0, a1, a2, a3, a4, a5, a6, a7, a8, a9, a10, a11, a12, a13, a14⟩ := ses_whole HA1.out
  go_upto_region 2 with fail
  rw [HW2.out]
  clear a0 a1 a2 a3 a4 a5 a6 a7 a8 a9 a10 a11 a12 a13 a14
  clear hz1 hz2 hB HA1
  obtain ⟨a0, a1, a2, a3, a4, a5, a6, a7, a8, a9, a10, a11, a12, a13, a14⟩ := ses_whole hA2
  obtain ⟨x0, x1, x2, x3, x4, x5, x6, x7, x8, x9, x10, x11, x12, x13, x14⟩ := ses_whole hX2
  go_upto_region 3 with (go_at_call 58; refine (HCW.out _ hb2).mono ?_; rintro e wf ⟨vf, rfl, hf, hbf⟩; obtain ⟨vfo, vfc, rfl, _, _⟩ := (Rd.of_own hf).form; replace x3 := b_cell hbf x3; have q3 := (hX2.belowH hbf).free 3)
  clear a0 a1 a2 a3 a4 a5 a6 a7 a8 a9 a10 a11 a12 a13 a14
  clear x0 x1 x2 x3 x4 x5 x6 x7 x8 x9 x10 x11 x12 x13 x14
  clear q3
  obtain ⟨w3, hw3⟩ : ∃ w3, wf.setCell ⟨B + 2, 3, none⟩ (.slice vfo r.s.S.length vfc) = w3 := ⟨_, rfl⟩
  have hl3 : Left [B + 2] wf w3 := by rw [← hw3]; exact (Left.refl _ wf).setCell (Or.inl (by simp)) _
  have hA3 : Whole w3 B 52 (seC r) := by rw [← hw3]; exact (hA2.belowH hbf).other (by simp) _
  have hR3 : Whole w3 (B + 1) 52 zS := by rw [← hw3]; exact (hR2.belowH hbf).other (by simp) _
  have hX3 : Whole w3 (B + 2) 52 (seC ⟨r.s, vfo, vfc, r.fa, r.fc, r.qa, r.qc, r.ia, r.ic⟩) := by rw [← hw3]; exact (hX2.belowH hbf).put 3 _
  have hz3 := hbf.size
  have hb3 : Below w.heap.size w w3 := (b_tr hb2 hbf).trans (hl3.belowB (B := w.heap.size) (Nat.le_trans hb2.size hz3) (by simp; have := HBB.out; omega))
  have hf3 := own_left (own_base (base' := B + 3) hf (by have := HZ2.out; omega)) hl3 (by simp)
  rw [hw3]
  clear hw3 hA2 hR2 hX2 hf hbf hb2
  have HS3 := Lib.hid hf3
  clear hf3
  obtain ⟨a0, a1, a2, a3, a4, a5, a6, a7, a8, a9, a10, a11, a12, a13, a14⟩ := ses_whole hA3
  obtain ⟨x0, x1, x2, x3, x4, x5, x6, x7, x8, x9, x10, x11, x12, x13, x14⟩ := ses_whole hX3
  go_upto_region 4 with (go_at_call 59; refine (HCO.out _ hb3).mono ?_; rintro e wo ⟨vfa, vfk, vqa, vqk, rfl, hof, hoq, hbo⟩; replace x4 := b_cell hbo x4; replace x5 := b_cell hbo x5; replace x6 := b_cell hbo x6; have q4 := (hX3.belowH hbo).free 4; have q5 := (hX3.belowH hbo).free 5; have q6 := (hX3.belowH hbo).free 6)
  clear a0 a1 a2 a3 a4 a5 a6 a7 a8 a9 a10 a11 a12 a13 a14
  clear x0 x1 x2 x3 x4 x5 x6 x7 x8 x9 x10 x11 x12 x13 x14
  clear q4 q5 q6
  obtain ⟨w4, hw4⟩ : ∃ w4, ((wo.setCell ⟨B + 2, 4, none⟩ (.int .i64 r.s.o.last)).setCell ⟨B + 2, 5, none⟩ (.slice vfa r.s.o.F.length vfk)).setCell ⟨B + 2, 6, none⟩ (.slice vqa r.s.o.Q.length vqk) = w4 := ⟨_, rfl⟩
  have hl4 : Left [B + 2] wo w4 := by rw [← hw4]; exact (((Left.refl _ wo).setCell (Or.inl (by simp)) _).setCell (Or.inl (by simp)) _).setCell (Or.inl (by simp)) _
  have hA4 : Whole w4 B 52 (seC r) := by rw [← hw4]; exact (((hA3.belowH hbo).other (by simp) _).other (by simp) _).other (by simp) _
  have hR4 : Whole w4 (B + 1) 52 zS := by rw [← hw4]; exact (((hR3.belowH hbo).other (by simp) _).other (by simp) _).other (by simp) _
  have hX4 : Whole w4 (B + 2) 52 (seC ⟨r.s, vfo, vfc, vfa, vfk, vqa, vqk, r.ia, r.ic⟩) := by rw [← hw4]; exact (((hX3.belowH hbo).put 4 _).put 5 _).put 6 _
  have hz4 := hbo.size
  have hz5 := hl3.size
  have hb4 : Below w.heap.size w w4 := (b_tr hb3 hbo).trans (hl4.belowB (B := w.heap.size) (Nat.le_trans hb3.size hz4) (by simp; have := HBB.out; omega))
  have HS4 := Lib.hid (own_left (own_below HS3.out hbo) hl4 (by simp))
  have HF4 := Lib.hid (own_left (own_base (base' := B + 3) hof (by have := HZ2.out; omega)) hl4 (by simp))
  have HQ4 := Lib.hid (own_left (own_base (base' := B + 3) hoq (by have := HZ2.out; omega)) hl4 (by simp))
  rw [hw4]
  clear hw4 hA3 hR3 hX3 hof hoq hbo hb3 HS3
  obtain ⟨a0, a1, a2, a3, a4, a5, a6, a7, a8, a9, a10, a11, a12, a13, a14⟩ := ses_whole hA4
  obtain ⟨x0, x1, x2, x3, x4, x5, x6, x7, x8, x9, x10, x11, x12, x13, x14⟩ := ses_whole hX4
  go_upto_region 5 with (go_at_call 60; refine (HCI.out _ hb4).mono ?_; rintro e wi ⟨vi, rfl, hi, hbi⟩; obtain ⟨vio, vic, rfl, _, _⟩ := (Rd.of_own hi).form; replace x7 := b_cell hbi x7; have q7 := (hX4.belowH hbi).free 7)
  clear a0 a1 a2 a3 a4 a5 a6 a7 a8 a9 a10 a11 a12 a13 a14
  clear x0 x1 x2 x3 x4 x5 x6 x7 x8 x9 x10 x11 x12 x13 x14
  clear q7
  obtain ⟨w5, hw5⟩ : ∃ w5, wi.setCell ⟨B + 2, 7, none⟩ (.slice vio r.s.I.length vic) = w5 := ⟨_, rfl⟩
  have hl5 : Left [B + 2] wi w5 := by rw [← hw5]; exact (Left.refl _ wi).setCell (Or.inl (by simp)) _
  have hR5 : Whole w5 (B + 1) 52 zS := by rw [← hw5]; exact (hR4.belowH hbi).other (by simp) _
  obtain ⟨r2, hr2⟩ : ∃ r2 : Rs, (⟨r.s, vfo, vfc, vfa, vfk, vqa, vqk, vio, vic⟩ : Rs) = r2 := ⟨_, rfl⟩
  have hX5 : Whole w5 (B + 2) 52 (seC ⟨r.s, vfo, vfc, vfa, vfk, vqa, vqk, vio, vic⟩) := by rw [← hw5]; exact (hX4.belowH hbi).put 7 _
  have hz6 := hbi.size
  have hz7 := hl4.size
  have hb5 : Below w.heap.size w w5 := (b_tr hb4 hbi).trans (hl5.belowB (B := w.heap.size) (Nat.le_trans hb4.size hz6) (by simp; have := HBB.out; omega))
  have HS5 := Lib.hid (own_left (own_below HS4.out hbi) hl5 (by simp))
  have HF5 := Lib.hid (own_left (own_below HF4.out hbi) hl5 (by simp))
  have HQ5 := Lib.hid (own_left (own_below HQ4.out hbi) hl5 (by simp))
  have HI5 := Lib.hid (own_left (own_base (base' := B + 3) hi (by have := HZ2.out; omega)) hl5 (by simp))
  rw [hw5]
  clear hw5 hA4 hR4 hX4 hi hbi hb4 HS4 HF4 HQ4
  obtain ⟨x0, x1, x2, x3, x4, x5, x6, x7, x8, x9, x10, x11, x12, x13, x14⟩ := ses_whole hX5
  dsimp only at x0 x1 x2 x3 x4 x5 x6 x7 x8 x9 x10 x11 x12 x13 x14
  obtain ⟨ks, hks⟩ : ∃ ks, ks = seC ⟨r.s, vfo, vfc, vfa, vfk, vqa, vqk, vio, vic⟩ := ⟨_, rfl⟩
  have h1 : ∀ u ∈ ks, u.oneCell' = true := by
    rw [hks]
    exact eS.one ⟨r.s, vfo, vfc, vfa, vfk, vqa, vqk, vio, vic⟩
  have hzl : zS.length = ks.length := by rw [hks]; rfl
  obtain ⟨hW3, hl6⟩ := hR5.setAll hzl
  have hth := hR5.there
  rw [hzl] at hth
  have HW3 := Lib.hid hW3
  have HL6 := Lib.hid hl6
  have HTH := Lib.hid hth
  have HKS := Lib.hid hks
  have H1 := Lib.hid h1
  have HB5 := Lib.hid hb5
  clear hzl hW3 hl6 hth h1 hR5 hX5 hb5 hr2
  simp only [seC] at hks
  go_wp2_with (refine wpList_store_mid rfl _ _ _ rfl (B + 1) 0 ks.toArray rfl (by rw [hks]; rfl) (by simpa using HTH.out) (by rw [hks]; kernel_rfl) (all_oneCell_toArray H1.out) ?_)
  clear hks
  (try simp only [Exit.inBlock, Exit.then])
  refine bodyPost_ret (results_cell_row (P := Tryz.prog) (p := 2) (ty := 52) rfl _ _ (B + 1) 52 ks.toArray (0, 0) _ rfl HW3.out Tryz.underlying52 rfl (by rw [HKS.out]; kernel_rfl)) rfl ?_
  have hbb := HBB.out
  refine ⟨⟨r.s, vfo, vfc, vfa, vfk, vqa, vqk, vio, vic⟩, rfl, by rw [HKS.out]; rfl, ⟨?_, ?_, ?_, ?_⟩, HB5.out.trans (HL6.out.belowB (B := w.heap.size) HB5.out.size (by simp; omega))⟩
  · exact own_base (own_left HS5.out HL6.out (by simp)) (by omega)
  · exact own_base (own_left HF5.out HL6.out (by simp)) (by omega)
  · exact own_base (own_left HQ5.out HL6.out (by simp)) (by omega)
  · exact own_base (own_left HI5.out HL6.out (by simp)) (by omega)
end Go.Proofs.YtlehkaibbkblkaaGreatDoor
