/- The outbox: Own, at, fill. -/



import Derived.Test.YtndidkaoigjbiaaObFn
namespace Go.Proofs.Ytndidkaoigjbiaa
open Go.RowKit
/-- An outbox that lies in rows that one may read. -/
def OR (w : World) (v : Value) (o : OB) : Prop := ∃ fv qv, v = .agg #[.int .i64 o.last, fv, qv] ∧ Rd w w.heap.size 6 fv o.F.length (eF.cells o.F) ∧ Rd w w.heap.size 4 qv o.Q.length (eM.cells o.Q)
/-- .. in rows of one's own. -/
def OO (w : World) (B : Nat) (v : Value) (o : OB) : Prop := ∃ fv qv, v = .agg #[.int .i64 o.last, fv, qv] ∧ w.ownsRow B 61 6 fv o.F.length (eF.cells o.F) ∧ w.ownsRow B 34 4 qv o.Q.length (eM.cells o.Q)
theorem OO.rd {w : World} {B : Nat} {v : Value} {o : OB} (h : OO w B v o) : OR w v o := by
  obtain ⟨fv, qv, e, h1, h2⟩ := h
  exact ⟨fv, qv, e, Rd.of_own h1, Rd.of_own h2⟩
theorem OR.below {w w' : World} {v : Value} {o : OB} (h : OR w v o) (hb : Below w.heap.size w w') : OR w' v o := by
  obtain ⟨fv, qv, e, h1, h2⟩ := h
  exact ⟨fv, qv, e, (h1.below hb).more hb.size, (h2.below hb).more hb.size⟩
theorem OO.below {w w' : World} {B : Nat} {v : Value} {o : OB} (h : OO w B v o) (hb : Below w.heap.size w w') : OO w' B v o := by
  obtain ⟨fv, qv, e, h1, h2⟩ := h
  exact ⟨fv, qv, e, own_below h1 hb, own_below h2 hb⟩
theorem OO.base {w : World} {B B' : Nat} {v : Value} {o : OB} (h : OO w B v o) (hb : B' ≤ B) : OO w B' v o := by
  obtain ⟨fv, qv, e, h1, h2⟩ := h
  exact ⟨fv, qv, e, own_base h1 hb, own_base h2 hb⟩
def Small (o : OB) : Prop := o.F.length ≤ 100000 ∧ o.Q.length ≤ 100000
set_option maxHeartbeats 2000000 in
theorem Own_any (w : World) (v : Value) (o : OB) (h : OR w v o) (hs : Small o) :
    Calls Try.prog 17 #[v] w fun e w' => ∃ v', e = .returned v' ∧ OO w' w.heap.size v' o ∧ Below w.heap.size w w' := by
  obtain ⟨last, F, Q⟩ := o
  obtain ⟨fv, qv, rfl, hF, hQ⟩ := h
  obtain ⟨hsF, hsQ⟩ := hs
  simp only at hF hQ hsF hsQ ⊢
  obtain ⟨fo, fc, rfl, _, _⟩ := hF.form
  obtain ⟨qo, qc, rfl, _, _⟩ := hQ.form
  obtain ⟨Fc, hFc⟩ : ∃ L, L = eF.cells F := ⟨_, rfl⟩
  obtain ⟨Qc, hQc⟩ : ∃ L, L = eM.cells Q := ⟨_, rfl⟩
  have HF1 := Lib.hid (show ∀ u ∈ Fc, u.oneCell' = true by rw [hFc]; exact eF.cells_oneCell F)
  have HQ1 := Lib.hid (show ∀ u ∈ Qc, u.oneCell' = true by rw [hQc]; exact eM.cells_oneCell Q)
  rw [← hFc] at hF
  rw [← hQc] at hQ
  unfold OO
  rw [← hFc, ← hQc]
  clear hFc hQc
  have HF := Lib.hid hF
  have HQ := Lib.hid hQ
  obtain ⟨nf, hnf⟩ : ∃ n, F.length = n := ⟨_, rfl⟩
  obtain ⟨nq, hnq⟩ : ∃ n, Q.length = n := ⟨_, rfl⟩
  rw [hnf] at HF hsF ⊢
  rw [hnq] at HQ hsQ ⊢
  clear hF hQ hnf hnq
  have HCF := Lib.hid (fun (wx : World) (hx : Below w.heap.size w wx) => CloneF_any wx _ nf Fc ((HF.out.below hx).more hx.size) HF1.out (by omega))
  have HCQ := Lib.hid (fun (wx : World) (hx : Below w.heap.size w wx) => CloneM_any wx _ nq Qc ((HQ.out.below hx).more hx.size) HQ1.out (by omega))
  go_enter Try.func17, Try.ntmps17
  go_wp2
  obtain ⟨w0, hw0⟩ : ∃ w0, w0 = ((w.alloc (.cells #[.int .i64 last, .slice fo nf fc, .slice qo nq qc] 25)).alloc (.cells #[.int .i64 0, .slice none 0 0, .slice none 0 0] 25)) := ⟨_, rfl⟩
  have hb0 : Below w.heap.size w w0 := by rw [hw0]; go_grown
  have hA : Whole w0 w.heap.size 25 [.int .i64 last, .slice fo nf fc, .slice qo nq qc] := by rw [hw0]; exact (Whole.new w 25 _).alloc _
  have hR : Whole w0 (w.heap.size + 1) 25 [.int .i64 0, .slice none 0 0, .slice none 0 0] := by
    rw [hw0]
    have := Whole.new (w.alloc (.cells #[.int .i64 last, .slice fo nf fc, .slice qo nq qc] 25)) 25 [.int .i64 0, .slice none 0 0, .slice none 0 0]
    simpa using this
  have hz0 : w.heap.size + 2 ≤ w0.heap.size := by rw [hw0]; simp
  rw [← hw0]
  clear hw0
  obtain ⟨a0, a1, a2, a3, a4, a5⟩ := hA.three
  obtain ⟨r0, r1, r2, r3, r4, r5⟩ := hR.three
  go_region_with (first | (go_at_call 27; refine (HCF.out _ (by first | exact hb0 | exact hb0.drew | exact b_tr hb0 (by assumption) | exact b_tr hb0.drew (by assumption))).mono ?_; rintro e wf ⟨vf, rfl, hf, hbf⟩; obtain ⟨vfo, vfc, rfl, hvf1, hvf2⟩ := (Rd.of_own hf).form; have hAf := Whole.belowH (show Whole _ w.heap.size 25 [.int .i64 last, .slice fo nf fc, .slice qo nq qc] by first | assumption | exact hA | exact hA.drew) hbf; have hRf := Whole.belowH (show Whole _ (w.heap.size + 1) 25 [.int .i64 0, .slice none 0 0, .slice none 0 0] by first | assumption | exact hR | exact hR.drew) hbf; obtain ⟨a0, a1, a2, a3, a4, a5⟩ := hAf.three; obtain ⟨r0, r1, r2, r3, r4, r5⟩ := hRf.three) | (go_at_call 28; refine (HCQ.out _ (by first | exact hb0 | exact hb0.drew | exact b_tr hb0 (by assumption) | exact b_tr hb0.drew (by assumption))).mono ?_; rintro e wq ⟨vq, rfl, hq, hbq⟩; obtain ⟨vqo, vqc, rfl, hvq1, hvq2⟩ := (Rd.of_own hq).form; have hAq := Whole.belowH (show Whole _ w.heap.size 25 [.int .i64 last, .slice fo nf fc, .slice qo nq qc] by first | assumption | exact hA | exact hA.drew) hbq; have hRq := Whole.belowH (show Whole _ (w.heap.size + 1) 25 [.int .i64 0, .slice none 0 0, .slice none 0 0] by first | assumption | exact hR | exact hR.drew) hbq; obtain ⟨a0, a1, a2, a3, a4, a5⟩ := hAq.three; obtain ⟨r0, r1, r2, r3, r4, r5⟩ := hRq.three))
  all_goals
    have hbw := b_tr (w2 := _) (by first | exact hb0 | exact hb0.drew) hbf
    have hbw2 := b_tr hbw hbq
    have hzf := hbf.size
    have hzq := hbq.size
    have hff := own_base (base' := w.heap.size + 2) (own_below hf hbq) (by first | exact hz0 | (simp; exact hz0))
    have hqq := own_base (base' := w.heap.size + 2) hq (by first | omega | (simp at hzf; omega))
    have hl : Left [w.heap.size, w.heap.size + 1] _ ((wq.setCell ⟨w.heap.size, 1, none⟩ (.slice vfo nf vfc)).setCell ⟨w.heap.size, 2, none⟩ (.slice vqo nq vqc)) := ((Left.refl _ wq).setCell (Or.inl (by simp)) _).setCell (Or.inl (by simp)) _
    have hl2 : Left [w.heap.size, w.heap.size + 1] _ (((((wq.setCell ⟨w.heap.size, 1, none⟩ (.slice vfo nf vfc)).setCell ⟨w.heap.size, 2, none⟩ (.slice vqo nq vqc)).setCell ⟨w.heap.size + 1, 0, none⟩ (.int .i64 last)).setCell ⟨w.heap.size + 1, 1, none⟩ (.slice vfo nf vfc)).setCell ⟨w.heap.size + 1, 2, none⟩ (.slice vqo nq vqc)) := ((hl.setCell (Or.inl (by simp)) _).setCell (Or.inl (by simp)) _).setCell (Or.inl (by simp)) _
    have H1 := Lib.hid (own_left hff hl2 (by simp))
    have H2 := Lib.hid (own_left hqq hl2 (by simp))
    have H3 := Lib.hid (hbw2.trans (hl2.belowB (B := w.heap.size) hbw2.size (by simp)))
    have HRET := Lib.hid ((((((hRq.other (p := ⟨w.heap.size, 1, none⟩) (by simp) (.slice vfo nf vfc)).other (p := ⟨w.heap.size, 2, none⟩) (by simp) (.slice vqo nq vqc)).put 0 (.int .i64 last)).put 1 (.slice vfo nf vfc)).put 2 (.slice vqo nq vqc)))
    clear hl hl2 hff hqq hf hq
    go_wp2
    (try simp only [Exit.inBlock, Exit.then])
    refine bodyPost_ret (results_cell_row (P := Try.prog) (p := 2) (ty := 25) rfl _ _ (w.heap.size + 1) 25 _ (0, 0) _ rfl HRET.out Try.underlying25 rfl (by kernel_rfl)) rfl ?_
    exact ⟨_, rfl, ⟨_, _, rfl, own_base H1.out (by omega), own_base H2.out (by omega)⟩, H3.out⟩
set_option maxHeartbeats 1000000 in
theorem at_any (w : World) (v : Value) (o : OB) (i : Int) (h : OR w v o) (hs : Small o) :
    Calls Try.prog 20 #[v, .int .i64 i] w fun e w' => e = .returned (.int .i64 (atI (ids o.F) i)) ∧ Below w.heap.size w w' := by
  obtain ⟨last, F, Q⟩ := o
  obtain ⟨fv, qv, rfl, hF, hQ⟩ := h
  obtain ⟨hsF, hsQ⟩ := hs
  simp only at hF hQ hsF hsQ ⊢
  obtain ⟨fo, fc, rfl, _, _⟩ := hF.form
  obtain ⟨qo, qc, rfl, _, _⟩ := hQ.form
  have hmf : ∀ (fn : Fn) (first cap : Array Value) (w : World), (Instr.makeFunc fn first cap).run Try.prog w = .ok (.func fn first cap) w := fun fn first cap w => by simp [go_sem, Instr.makeFunc]
  obtain ⟨w0, hw0⟩ : ∃ w0, w0 = ((w.alloc (.cells #[.int .i64 last, .slice fo F.length fc, .slice qo Q.length qc] 25)).alloc (.cells #[.int .i64 i] 3)) := ⟨_, rfl⟩
  have hb0 : Below w.heap.size w w0 := by rw [hw0]; go_grown
  have hA : Whole w0 (w.heap.size + 1) 3 [.int .i64 i] := by
    rw [hw0]
    have := Whole.new (w.alloc (.cells #[.int .i64 last, .slice fo F.length fc, .slice qo Q.length qc] 25)) 3 [.int .i64 i]
    simpa using this
  have HI := Lib.hid (IndexF_any w0 _ F (w.heap.size + 1) i w.heap.size (hF.below hb0) hb0.size (by rw [hA.cell]; rfl) (by omega))
  have HB := Lib.hid hb0
  have HW := Lib.hid hw0
  clear hF hQ hA hb0 hw0
  go_enter Try.func20, Try.ntmps20
  go_wp2_with fail
  rw [← HW.out]
  refine HI.out.mono ?_
  rintro e w1 ⟨rfl, hb1⟩
  have hb2 := b_tr HB.out hb1
  go_wp2
  go_ret
  exact ⟨rfl, hb2⟩
end Go.Proofs.Ytndidkaoigjbiaa
