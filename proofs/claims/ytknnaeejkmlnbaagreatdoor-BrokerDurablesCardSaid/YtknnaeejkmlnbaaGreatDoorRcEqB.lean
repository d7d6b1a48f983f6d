/- Outboxes, sessions, brokers held against each other. -/


import Derived.Test.YtknnaeejkmlnbaaGreatDoorRcEq
import Derived.Test.YtknnaeejkmlnbaaGreatDoorRcMay2
namespace Go.Proofs.YtknnaeejkmlnbaaGreatDoor
open Go.RowKit
set_option maxRecDepth 20000 in
set_option maxHeartbeats 2000000 in
theorem eqO_any (w : World) (va vb : Value) (a b : OB) (ha : OR w va a) (hb : OR w vb b) :
    Calls Tryz.prog 101 #[va, vb] w fun e w' => e = .returned (.bool (yes (a = b))) ∧ Below w.heap.size w w' := by
  obtain ⟨la, Fa, Qa⟩ := a
  obtain ⟨lb, Fb, Qb⟩ := b
  obtain ⟨fav, qav, rfl, hfa, hqa⟩ := ha
  obtain ⟨fbv, qbv, rfl, hfb, hqb⟩ := hb
  simp only at hfa hqa hfb hqb
  obtain ⟨fao, fac, rfl, _, _⟩ := hfa.form
  obtain ⟨qao, qac, rfl, _, _⟩ := hqa.form
  obtain ⟨fbo, fbc, rfl, _, _⟩ := hfb.form
  obtain ⟨qbo, qbc, rfl, _, _⟩ := hqb.form
  obtain ⟨wa, hwa⟩ : ∃ wa, (w.alloc (.cells #[.int .i64 la, .slice fao Fa.length fac, .slice qao Qa.length qac] 59)).alloc (.cells #[.int .i64 lb, .slice fbo Fb.length fbc, .slice qbo Qb.length qbc] 59) = wa := ⟨_, rfl⟩
  have hb0 : Below w.heap.size w wa := by rw [← hwa]; go_grown
  have hA : Whole wa w.heap.size 59 [.int .i64 la, .slice fao Fa.length fac, .slice qao Qa.length qac] := by rw [← hwa]; exact (Whole.new w 59 _).alloc _
  have hB : Whole wa (w.heap.size + 1) 59 [.int .i64 lb, .slice fbo Fb.length fbc, .slice qbo Qb.length qbc] := by
    rw [← hwa]
    have := Whole.new (w.alloc (.cells #[.int .i64 la, .slice fao Fa.length fac, .slice qao Qa.length qac] 59)) 59 [.int .i64 lb, .slice fbo Fb.length fbc, .slice qbo Qb.length qbc]
    simpa using this
  have HFF := Lib.hid (fun wx (hx : Below wa.heap.size wa wx) => eqF wx _ _ Fa Fb w.heap.size w.heap.size ((hfa.below hb0).below (hx.mono hb0.size)) ((hfb.below hb0).below (hx.mono hb0.size)))
  have HQQ := Lib.hid (fun wx (hx : Below wa.heap.size wa wx) => eqM wx _ _ Qa Qb w.heap.size w.heap.size ((hqa.below hb0).below (hx.mono hb0.size)) ((hqb.below hb0).below (hx.mono hb0.size)))
  have HCA := Lib.hid (fun wx (hx : Below wa.heap.size wa wx) => (hA.belowH hx).three)
  have HCB := Lib.hid (fun wx (hx : Below wa.heap.size wa wx) => (hB.belowH hx).three)
  have HWA := Lib.hid hwa
  have HB0 := Lib.hid hb0
  have hcur := Below.refl wa.heap.size wa
  obtain ⟨x0, x1, x2, _, _, _⟩ := HCA.out _ hcur
  obtain ⟨y0, y1, y2, _, _, _⟩ := HCB.out _ hcur
  have HE : Hid (yes ((⟨la, Fa, Qa⟩ : OB) = ⟨lb, Fb, Qb⟩) = (yes (la = lb) && (yes (Fa = Fb) && yes (Qa = Qb)))) := Lib.hid (by
    by_cases e1 : la = lb
    · by_cases e2 : Fa = Fb
      · by_cases e3 : Qa = Qb
        · rw [yes_true e1, yes_true e2, yes_true e3]; exact yes_true (by rw [e1, e2, e3])
        · rw [yes_false e3, yes_false (fun e => e3 (by injection e))]; simp
      · rw [yes_false e2, yes_false (fun e => e2 (by injection e))]; simp
    · rw [yes_false e1, yes_false (fun e => e1 (by injection e))]; simp)
  rw [HE.out]
  clear hwa hb0 hA hB hfa hqa hfb hqb HE
  by_cases e1 : la = lb
  · have e1' : (la == lb) = true := beq_iff_eq.2 e1
    rw [yes_true e1]
    clear e1
    cases h2 : yes (Fa = Fb)
    · rw [h2] at HFF
      go_enter Tryz.func101, Tryz.ntmps101
      go_upto_region 1 with fail
      rw [HWA.out]
      go_wp2_with (go_at_call 154; refine (HFF.out _ hcur).mono ?_; rintro e wz ⟨rfl, hbz⟩; replace hcur := b_tr hcur hbz; clear hbz x0 x1 x2 y0 y1 y2; obtain ⟨x0, x1, x2, _, _, _⟩ := HCA.out _ hcur; obtain ⟨y0, y1, y2, _, _, _⟩ := HCB.out _ hcur)
      go_ret
      exact ⟨rfl, b_tr HB0.out hcur⟩
    · rw [h2] at HFF
      go_enter Tryz.func101, Tryz.ntmps101
      go_upto_region 1 with fail
      rw [HWA.out]
      go_wp2_with first | (go_at_call 154; refine (HFF.out _ hcur).mono ?_; rintro e wz ⟨rfl, hbz⟩; replace hcur := b_tr hcur hbz; clear hbz x0 x1 x2 y0 y1 y2; obtain ⟨x0, x1, x2, _, _, _⟩ := HCA.out _ hcur; obtain ⟨y0, y1, y2, _, _, _⟩ := HCB.out _ hcur) | (go_at_call 30; refine (HQQ.out _ hcur).mono ?_; rintro e wz ⟨rfl, hbz⟩; replace hcur := b_tr hcur hbz; clear hbz)
      go_ret
      exact ⟨by simp, b_tr HB0.out hcur⟩
  · have e1' : (la == lb) = false := beq_eq_false_iff_ne.2 e1
    rw [yes_false e1]
    clear e1
    go_enter Tryz.func101, Tryz.ntmps101
    go_upto_region 1 with fail
    rw [HWA.out]
    go_wp2
    go_ret
    exact ⟨rfl, b_tr HB0.out hcur⟩
set_option maxRecDepth 20000 in
set_option maxHeartbeats 8000000 in
theorem eqS_any (w : World) (r q : Rs) (hr : SRd w w.heap.size r) (hq : SRd w w.heap.size q) :
    Calls Tryz.prog 59 #[seV r, seV q] w fun e w' => e = .returned (.bool (yes (r.s = q.s))) ∧ Below w.heap.size w w' := by
  obtain ⟨wa, hwa⟩ : ∃ wa, (w.alloc (.cells (seC r).toArray 61)).alloc (.cells (seC q).toArray 61) = wa := ⟨_, rfl⟩
  have hb0 : Below w.heap.size w wa := by rw [← hwa]; go_grown
  have hA : Whole wa w.heap.size 61 (seC r) := by rw [← hwa]; exact (Whole.new w 61 _).alloc _
  have hB : Whole wa (w.heap.size + 1) 61 (seC q) := by
    rw [← hwa]
    have := Whole.new (w.alloc (.cells (seC r).toArray 61)) 61 (seC q)
    simpa using this
  have HCA := Lib.hid (fun wx (hx : Below wa.heap.size wa wx) => ses_whole (hA.belowH hx))
  have HCB := Lib.hid (fun wx (hx : Below wa.heap.size wa wx) => ses_whole (hB.belowH hx))
  have hra : ∀ wx, Below wa.heap.size wa wx → SRd wx w.heap.size r := fun wx hx => (hr.below hb0).below (hx.mono hb0.size)
  have hqa : ∀ wx, Below wa.heap.size wa wx → SRd wx w.heap.size q := fun wx hx => (hq.below hb0).below (hx.mono hb0.size)
  have hzz : ∀ wx, Below wa.heap.size wa wx → w.heap.size ≤ wx.heap.size := fun wx hx => Nat.le_trans hb0.size hx.size
  have H4 := Lib.hid (fun wx (hx : Below wa.heap.size wa wx) => eqW wx _ _ r.s.S q.s.S w.heap.size w.heap.size (hra wx hx).s (hqa wx hx).s)
  have H5 := Lib.hid (fun wx (hx : Below wa.heap.size wa wx) => eqO_any wx (.agg #[.int .i64 r.s.o.last, .slice r.fa r.s.o.F.length r.fc, .slice r.qa r.s.o.Q.length r.qc]) (.agg #[.int .i64 q.s.o.last, .slice q.fa q.s.o.F.length q.fc, .slice q.qa q.s.o.Q.length q.qc]) r.s.o q.s.o ⟨_, _, rfl, (hra wx hx).f.more (hzz wx hx), (hra wx hx).q.more (hzz wx hx)⟩ ⟨_, _, rfl, (hqa wx hx).f.more (hzz wx hx), (hqa wx hx).q.more (hzz wx hx)⟩)
  have H6 := Lib.hid (fun wx (hx : Below wa.heap.size wa wx) => eqI wx _ _ r.s.I q.s.I w.heap.size w.heap.size (hra wx hx).i (hqa wx hx).i)
  have H7 := fun wq : World => eq_will wq r.s.wl q.s.wl
  have HNO : Hid (r.s ≠ q.s → yes (r.s = q.s) = false) := Lib.hid (fun h => yes_false h)
  have HWA := Lib.hid hwa
  have HB0 := Lib.hid hb0
  have hcur := Below.refl wa.heap.size wa
  clear hwa hb0 hA hB hra hqa hzz hr hq
  obtain ⟨⟨c, cl, ln, S, ⟨last, F, Q⟩, I, ⟨wi, wt, wp, wq, wr⟩, keep, idle⟩, sa, sc, fa, fc, qa, qc, ia, ic⟩ := r
  obtain ⟨⟨c', cl', ln', S', ⟨last', F', Q'⟩, I', ⟨wi', wt', wp', wq', wr'⟩, keep', idle'⟩, sa', sc', fa', fc', qa', qc', ia', ic'⟩ := q
  unfold seV
  simp only [seC] at *
  obtain ⟨x0, x1, x2, x3, x4, x5, x6, x7, x8, x9, x10, x11, x12, x13, x14⟩ := HCA.out _ hcur
  obtain ⟨y0, y1, y2, y3, y4, y5, y6, y7, y8, y9, y10, y11, y12, y13, y14⟩ := HCB.out _ hcur
  by_cases e1 : c = c'
  rotate_left 1
  · have q1 : (c.toList == c'.toList) = false := beq_eq_false_iff_ne.2 (fun h => e1 (ba_ext h))
    have HR := Lib.hid (HNO.out (fun h => e1 (by injection h)))
    go_enter Tryz.func59, Tryz.ntmps59
    go_upto_region 1 with fail
    rw [HWA.out]
    go_wp2_with (first
      | (go_at_call 100; refine (H4.out _ hcur).mono ?_; rintro e wz ⟨rfl, hbz⟩; replace hcur := b_tr hcur hbz; clear hbz; clear x0 x1 x2 x3 x4 x5 x6 x7 x8 x9 x10 x11 x12 x13 x14 y0 y1 y2 y3 y4 y5 y6 y7 y8 y9 y10 y11 y12 y13 y14; obtain ⟨x0, x1, x2, x3, x4, x5, x6, x7, x8, x9, x10, x11, x12, x13, x14⟩ := HCA.out _ hcur; obtain ⟨y0, y1, y2, y3, y4, y5, y6, y7, y8, y9, y10, y11, y12, y13, y14⟩ := HCB.out _ hcur)
      | (go_at_call 101; refine (H5.out _ hcur).mono ?_; rintro e wz ⟨rfl, hbz⟩; replace hcur := b_tr hcur hbz; clear hbz; clear x0 x1 x2 x3 x4 x5 x6 x7 x8 x9 x10 x11 x12 x13 x14 y0 y1 y2 y3 y4 y5 y6 y7 y8 y9 y10 y11 y12 y13 y14; obtain ⟨x0, x1, x2, x3, x4, x5, x6, x7, x8, x9, x10, x11, x12, x13, x14⟩ := HCA.out _ hcur; obtain ⟨y0, y1, y2, y3, y4, y5, y6, y7, y8, y9, y10, y11, y12, y13, y14⟩ := HCB.out _ hcur)
      | (go_at_call 28; refine (H6.out _ hcur).mono ?_; rintro e wz ⟨rfl, hbz⟩; replace hcur := b_tr hcur hbz; clear hbz; clear x0 x1 x2 x3 x4 x5 x6 x7 x8 x9 x10 x11 x12 x13 x14 y0 y1 y2 y3 y4 y5 y6 y7 y8 y9 y10 y11 y12 y13 y14; obtain ⟨x0, x1, x2, x3, x4, x5, x6, x7, x8, x9, x10, x11, x12, x13, x14⟩ := HCA.out _ hcur; obtain ⟨y0, y1, y2, y3, y4, y5, y6, y7, y8, y9, y10, y11, y12, y13, y14⟩ := HCB.out _ hcur))
    go_ret
    exact ⟨by rw [HR.out]; rfl, b_tr HB0.out hcur⟩
  subst e1
  have q1 : (c.toList == c.toList) = true := beq_iff_eq.2 rfl
  by_cases e2 : cl = cl'
  rotate_left 1
  · have q2 : (cl == cl') = false := beq_eq_false_iff_ne.2 e2
    have HR := Lib.hid (HNO.out (fun h => e2 (by injection h)))
    go_enter Tryz.func59, Tryz.ntmps59
    go_upto_region 1 with fail
    rw [HWA.out]
    go_wp2_with (first
      | (go_at_call 100; refine (H4.out _ hcur).mono ?_; rintro e wz ⟨rfl, hbz⟩; replace hcur := b_tr hcur hbz; clear hbz; clear x0 x1 x2 x3 x4 x5 x6 x7 x8 x9 x10 x11 x12 x13 x14 y0 y1 y2 y3 y4 y5 y6 y7 y8 y9 y10 y11 y12 y13 y14; obtain ⟨x0, x1, x2, x3, x4, x5, x6, x7, x8, x9, x10, x11, x12, x13, x14⟩ := HCA.out _ hcur; obtain ⟨y0, y1, y2, y3, y4, y5, y6, y7, y8, y9, y10, y11, y12, y13, y14⟩ := HCB.out _ hcur)
      | (go_at_call 101; refine (H5.out _ hcur).mono ?_; rintro e wz ⟨rfl, hbz⟩; replace hcur := b_tr hcur hbz; clear hbz; clear x0 x1 x2 x3 x4 x5 x6 x7 x8 x9 x10 x11 x12 x13 x14 y0 y1 y2 y3 y4 y5 y6 y7 y8 y9 y10 y11 y12 y13 y14; obtain ⟨x0, x1, x2, x3, x4, x5, x6, x7, x8, x9, x10, x11, x12, x13, x14⟩ := HCA.out _ hcur; obtain ⟨y0, y1, y2, y3, y4, y5, y6, y7, y8, y9, y10, y11, y12, y13, y14⟩ := HCB.out _ hcur)
      | (go_at_call 28; refine (H6.out _ hcur).mono ?_; rintro e wz ⟨rfl, hbz⟩; replace hcur := b_tr hcur hbz; clear hbz; clear x0 x1 x2 x3 x4 x5 x6 x7 x8 x9 x10 x11 x12 x13 x14 y0 y1 y2 y3 y4 y5 y6 y7 y8 y9 y10 y11 y12 y13 y14; obtain ⟨x0, x1, x2, x3, x4, x5, x6, x7, x8, x9, x10, x11, x12, x13, x14⟩ := HCA.out _ hcur; obtain ⟨y0, y1, y2, y3, y4, y5, y6, y7, y8, y9, y10, y11, y12, y13, y14⟩ := HCB.out _ hcur))
    go_ret
    exact ⟨by rw [HR.out]; rfl, b_tr HB0.out hcur⟩
  subst e2
  have q2 : (cl == cl) = true := beq_iff_eq.2 rfl
  by_cases e3 : ln = ln'
  rotate_left 1
  · have q3 : (ln == ln') = false := beq_eq_false_iff_ne.2 e3
    have HR := Lib.hid (HNO.out (fun h => e3 (by injection h)))
    go_enter Tryz.func59, Tryz.ntmps59
    go_upto_region 1 with fail
    rw [HWA.out]
    go_wp2_with (first
      | (go_at_call 100; refine (H4.out _ hcur).mono ?_; rintro e wz ⟨rfl, hbz⟩; replace hcur := b_tr hcur hbz; clear hbz; clear x0 x1 x2 x3 x4 x5 x6 x7 x8 x9 x10 x11 x12 x13 x14 y0 y1 y2 y3 y4 y5 y6 y7 y8 y9 y10 y11 y12 y13 y14; obtain ⟨x0, x1, x2, x3, x4, x5, x6, x7, x8, x9, x10, x11, x12, x13, x14⟩ := HCA.out _ hcur; obtain ⟨y0, y1, y2, y3, y4, y5, y6, y7, y8, y9, y10, y11, y12, y13, y14⟩ := HCB.out _ hcur)
      | (go_at_call 101; refine (H5.out _ hcur).mono ?_; rintro e wz ⟨rfl, hbz⟩; replace hcur := b_tr hcur hbz; clear hbz; clear x0 x1 x2 x3 x4 x5 x6 x7 x8 x9 x10 x11 x12 x13 x14 y0 y1 y2 y3 y4 y5 y6 y7 y8 y9 y10 y11 y12 y13 y14; obtain ⟨x0, x1, x2, x3, x4, x5, x6, x7, x8, x9, x10, x11, x12, x13, x14⟩ := HCA.out _ hcur; obtain ⟨y0, y1, y2, y3, y4, y5, y6, y7, y8, y9, y10, y11, y12, y13, y14⟩ := HCB.out _ hcur)
      | (go_at_call 28; refine (H6.out _ hcur).mono ?_; rintro e wz ⟨rfl, hbz⟩; replace hcur := b_tr hcur hbz; clear hbz; clear x0 x1 x2 x3 x4 x5 x6 x7 x8 x9 x10 x11 x12 x13 x14 y0 y1 y2 y3 y4 y5 y6 y7 y8 y9 y10 y11 y12 y13 y14; obtain ⟨x0, x1, x2, x3, x4, x5, x6, x7, x8, x9, x10, x11, x12, x13, x14⟩ := HCA.out _ hcur; obtain ⟨y0, y1, y2, y3, y4, y5, y6, y7, y8, y9, y10, y11, y12, y13, y14⟩ := HCB.out _ hcur))
    go_ret
    exact ⟨by rw [HR.out]; rfl, b_tr HB0.out hcur⟩
  subst e3
  have q3 : (ln == ln) = true := beq_iff_eq.2 rfl
  cases e4 : yes (S = S')
  · rw [e4] at H4
    have HR := Lib.hid (HNO.out (fun h => yes_not.1 e4 (by injection h)))
    go_enter Tryz.func59, Tryz.ntmps59
    go_upto_region 1 with fail
    rw [HWA.out]
    go_wp2_with (first
      | (go_at_call 100; refine (H4.out _ hcur).mono ?_; rintro e wz ⟨rfl, hbz⟩; replace hcur := b_tr hcur hbz; clear hbz; clear x0 x1 x2 x3 x4 x5 x6 x7 x8 x9 x10 x11 x12 x13 x14 y0 y1 y2 y3 y4 y5 y6 y7 y8 y9 y10 y11 y12 y13 y14; obtain ⟨x0, x1, x2, x3, x4, x5, x6, x7, x8, x9, x10, x11, x12, x13, x14⟩ := HCA.out _ hcur; obtain ⟨y0, y1, y2, y3, y4, y5, y6, y7, y8, y9, y10, y11, y12, y13, y14⟩ := HCB.out _ hcur)
      | (go_at_call 101; refine (H5.out _ hcur).mono ?_; rintro e wz ⟨rfl, hbz⟩; replace hcur := b_tr hcur hbz; clear hbz; clear x0 x1 x2 x3 x4 x5 x6 x7 x8 x9 x10 x11 x12 x13 x14 y0 y1 y2 y3 y4 y5 y6 y7 y8 y9 y10 y11 y12 y13 y14; obtain ⟨x0, x1, x2, x3, x4, x5, x6, x7, x8, x9, x10, x11, x12, x13, x14⟩ := HCA.out _ hcur; obtain ⟨y0, y1, y2, y3, y4, y5, y6, y7, y8, y9, y10, y11, y12, y13, y14⟩ := HCB.out _ hcur)
      | (go_at_call 28; refine (H6.out _ hcur).mono ?_; rintro e wz ⟨rfl, hbz⟩; replace hcur := b_tr hcur hbz; clear hbz; clear x0 x1 x2 x3 x4 x5 x6 x7 x8 x9 x10 x11 x12 x13 x14 y0 y1 y2 y3 y4 y5 y6 y7 y8 y9 y10 y11 y12 y13 y14; obtain ⟨x0, x1, x2, x3, x4, x5, x6, x7, x8, x9, x10, x11, x12, x13, x14⟩ := HCA.out _ hcur; obtain ⟨y0, y1, y2, y3, y4, y5, y6, y7, y8, y9, y10, y11, y12, y13, y14⟩ := HCB.out _ hcur))
    go_ret
    exact ⟨by rw [HR.out]; rfl, b_tr HB0.out hcur⟩
  rw [e4] at H4
  cases e5 : yes ((⟨last, F, Q⟩ : OB) = ⟨last', F', Q'⟩)
  · rw [e5] at H5
    have HR := Lib.hid (HNO.out (fun h => yes_not.1 e5 (by injection h)))
    go_enter Tryz.func59, Tryz.ntmps59
    go_upto_region 1 with fail
    rw [HWA.out]
    go_wp2_with (first
      | (go_at_call 100; refine (H4.out _ hcur).mono ?_; rintro e wz ⟨rfl, hbz⟩; replace hcur := b_tr hcur hbz; clear hbz; clear x0 x1 x2 x3 x4 x5 x6 x7 x8 x9 x10 x11 x12 x13 x14 y0 y1 y2 y3 y4 y5 y6 y7 y8 y9 y10 y11 y12 y13 y14; obtain ⟨x0, x1, x2, x3, x4, x5, x6, x7, x8, x9, x10, x11, x12, x13, x14⟩ := HCA.out _ hcur; obtain ⟨y0, y1, y2, y3, y4, y5, y6, y7, y8, y9, y10, y11, y12, y13, y14⟩ := HCB.out _ hcur)
      | (go_at_call 101; refine (H5.out _ hcur).mono ?_; rintro e wz ⟨rfl, hbz⟩; replace hcur := b_tr hcur hbz; clear hbz; clear x0 x1 x2 x3 x4 x5 x6 x7 x8 x9 x10 x11 x12 x13 x14 y0 y1 y2 y3 y4 y5 y6 y7 y8 y9 y10 y11 y12 y13 y14; obtain ⟨x0, x1, x2, x3, x4, x5, x6, x7, x8, x9, x10, x11, x12, x13, x14⟩ := HCA.out _ hcur; obtain ⟨y0, y1, y2, y3, y4, y5, y6, y7, y8, y9, y10, y11, y12, y13, y14⟩ := HCB.out _ hcur)
      | (go_at_call 28; refine (H6.out _ hcur).mono ?_; rintro e wz ⟨rfl, hbz⟩; replace hcur := b_tr hcur hbz; clear hbz; clear x0 x1 x2 x3 x4 x5 x6 x7 x8 x9 x10 x11 x12 x13 x14 y0 y1 y2 y3 y4 y5 y6 y7 y8 y9 y10 y11 y12 y13 y14; obtain ⟨x0, x1, x2, x3, x4, x5, x6, x7, x8, x9, x10, x11, x12, x13, x14⟩ := HCA.out _ hcur; obtain ⟨y0, y1, y2, y3, y4, y5, y6, y7, y8, y9, y10, y11, y12, y13, y14⟩ := HCB.out _ hcur))
    go_ret
    exact ⟨by rw [HR.out]; rfl, b_tr HB0.out hcur⟩
  rw [e5] at H5
  cases e6 : yes (I = I')
  · rw [e6] at H6
    have HR := Lib.hid (HNO.out (fun h => yes_not.1 e6 (by injection h)))
    go_enter Tryz.func59, Tryz.ntmps59
    go_upto_region 1 with fail
    rw [HWA.out]
    go_wp2_with (first
      | (go_at_call 100; refine (H4.out _ hcur).mono ?_; rintro e wz ⟨rfl, hbz⟩; replace hcur := b_tr hcur hbz; clear hbz; clear x0 x1 x2 x3 x4 x5 x6 x7 x8 x9 x10 x11 x12 x13 x14 y0 y1 y2 y3 y4 y5 y6 y7 y8 y9 y10 y11 y12 y13 y14; obtain ⟨x0, x1, x2, x3, x4, x5, x6, x7, x8, x9, x10, x11, x12, x13, x14⟩ := HCA.out _ hcur; obtain ⟨y0, y1, y2, y3, y4, y5, y6, y7, y8, y9, y10, y11, y12, y13, y14⟩ := HCB.out _ hcur)
      | (go_at_call 101; refine (H5.out _ hcur).mono ?_; rintro e wz ⟨rfl, hbz⟩; replace hcur := b_tr hcur hbz; clear hbz; clear x0 x1 x2 x3 x4 x5 x6 x7 x8 x9 x10 x11 x12 x13 x14 y0 y1 y2 y3 y4 y5 y6 y7 y8 y9 y10 y11 y12 y13 y14; obtain ⟨x0, x1, x2, x3, x4, x5, x6, x7, x8, x9, x10, x11, x12, x13, x14⟩ := HCA.out _ hcur; obtain ⟨y0, y1, y2, y3, y4, y5, y6, y7, y8, y9, y10, y11, y12, y13, y14⟩ := HCB.out _ hcur)
      | (go_at_call 28; refine (H6.out _ hcur).mono ?_; rintro e wz ⟨rfl, hbz⟩; replace hcur := b_tr hcur hbz; clear hbz; clear x0 x1 x2 x3 x4 x5 x6 x7 x8 x9 x10 x11 x12 x13 x14 y0 y1 y2 y3 y4 y5 y6 y7 y8 y9 y10 y11 y12 y13 y14; obtain ⟨x0, x1, x2, x3, x4, x5, x6, x7, x8, x9, x10, x11, x12, x13, x14⟩ := HCA.out _ hcur; obtain ⟨y0, y1, y2, y3, y4, y5, y6, y7, y8, y9, y10, y11, y12, y13, y14⟩ := HCB.out _ hcur))
    go_ret
    exact ⟨by rw [HR.out]; rfl, b_tr HB0.out hcur⟩
  rw [e6] at H6
  cases e7 : yes ((⟨wi, wt, wp, wq, wr⟩ : Wl) = ⟨wi', wt', wp', wq', wr'⟩)
  · rw [e7] at H7
    have HR := Lib.hid (HNO.out (fun h => yes_not.1 e7 (by injection h)))
    go_enter Tryz.func59, Tryz.ntmps59
    go_upto_region 1 with fail
    rw [HWA.out]
    go_wp2_with (first
      | (go_at_call 100; refine (H4.out _ hcur).mono ?_; rintro e wz ⟨rfl, hbz⟩; replace hcur := b_tr hcur hbz; clear hbz; clear x0 x1 x2 x3 x4 x5 x6 x7 x8 x9 x10 x11 x12 x13 x14 y0 y1 y2 y3 y4 y5 y6 y7 y8 y9 y10 y11 y12 y13 y14; obtain ⟨x0, x1, x2, x3, x4, x5, x6, x7, x8, x9, x10, x11, x12, x13, x14⟩ := HCA.out _ hcur; obtain ⟨y0, y1, y2, y3, y4, y5, y6, y7, y8, y9, y10, y11, y12, y13, y14⟩ := HCB.out _ hcur)
      | (go_at_call 101; refine (H5.out _ hcur).mono ?_; rintro e wz ⟨rfl, hbz⟩; replace hcur := b_tr hcur hbz; clear hbz; clear x0 x1 x2 x3 x4 x5 x6 x7 x8 x9 x10 x11 x12 x13 x14 y0 y1 y2 y3 y4 y5 y6 y7 y8 y9 y10 y11 y12 y13 y14; obtain ⟨x0, x1, x2, x3, x4, x5, x6, x7, x8, x9, x10, x11, x12, x13, x14⟩ := HCA.out _ hcur; obtain ⟨y0, y1, y2, y3, y4, y5, y6, y7, y8, y9, y10, y11, y12, y13, y14⟩ := HCB.out _ hcur)
      | (go_at_call 28; refine (H6.out _ hcur).mono ?_; rintro e wz ⟨rfl, hbz⟩; replace hcur := b_tr hcur hbz; clear hbz; clear x0 x1 x2 x3 x4 x5 x6 x7 x8 x9 x10 x11 x12 x13 x14 y0 y1 y2 y3 y4 y5 y6 y7 y8 y9 y10 y11 y12 y13 y14; obtain ⟨x0, x1, x2, x3, x4, x5, x6, x7, x8, x9, x10, x11, x12, x13, x14⟩ := HCA.out _ hcur; obtain ⟨y0, y1, y2, y3, y4, y5, y6, y7, y8, y9, y10, y11, y12, y13, y14⟩ := HCB.out _ hcur))
    go_ret
    exact ⟨by rw [HR.out]; rfl, b_tr HB0.out hcur⟩
  rw [e7] at H7
  by_cases e8 : keep = keep'
  rotate_left 1
  · have q8 : (keep == keep') = false := beq_eq_false_iff_ne.2 e8
    have HR := Lib.hid (HNO.out (fun h => e8 (by injection h)))
    go_enter Tryz.func59, Tryz.ntmps59
    go_upto_region 1 with fail
    rw [HWA.out]
    go_wp2_with (first
      | (go_at_call 100; refine (H4.out _ hcur).mono ?_; rintro e wz ⟨rfl, hbz⟩; replace hcur := b_tr hcur hbz; clear hbz; clear x0 x1 x2 x3 x4 x5 x6 x7 x8 x9 x10 x11 x12 x13 x14 y0 y1 y2 y3 y4 y5 y6 y7 y8 y9 y10 y11 y12 y13 y14; obtain ⟨x0, x1, x2, x3, x4, x5, x6, x7, x8, x9, x10, x11, x12, x13, x14⟩ := HCA.out _ hcur; obtain ⟨y0, y1, y2, y3, y4, y5, y6, y7, y8, y9, y10, y11, y12, y13, y14⟩ := HCB.out _ hcur)
      | (go_at_call 101; refine (H5.out _ hcur).mono ?_; rintro e wz ⟨rfl, hbz⟩; replace hcur := b_tr hcur hbz; clear hbz; clear x0 x1 x2 x3 x4 x5 x6 x7 x8 x9 x10 x11 x12 x13 x14 y0 y1 y2 y3 y4 y5 y6 y7 y8 y9 y10 y11 y12 y13 y14; obtain ⟨x0, x1, x2, x3, x4, x5, x6, x7, x8, x9, x10, x11, x12, x13, x14⟩ := HCA.out _ hcur; obtain ⟨y0, y1, y2, y3, y4, y5, y6, y7, y8, y9, y10, y11, y12, y13, y14⟩ := HCB.out _ hcur)
      | (go_at_call 28; refine (H6.out _ hcur).mono ?_; rintro e wz ⟨rfl, hbz⟩; replace hcur := b_tr hcur hbz; clear hbz; clear x0 x1 x2 x3 x4 x5 x6 x7 x8 x9 x10 x11 x12 x13 x14 y0 y1 y2 y3 y4 y5 y6 y7 y8 y9 y10 y11 y12 y13 y14; obtain ⟨x0, x1, x2, x3, x4, x5, x6, x7, x8, x9, x10, x11, x12, x13, x14⟩ := HCA.out _ hcur; obtain ⟨y0, y1, y2, y3, y4, y5, y6, y7, y8, y9, y10, y11, y12, y13, y14⟩ := HCB.out _ hcur))
    go_ret
    exact ⟨by rw [HR.out]; rfl, b_tr HB0.out hcur⟩
  subst e8
  have q8 : (keep == keep) = true := beq_iff_eq.2 rfl
  by_cases e9 : idle = idle'
  rotate_left 1
  · have q9 : (idle == idle') = false := beq_eq_false_iff_ne.2 e9
    have HR := Lib.hid (HNO.out (fun h => e9 (by injection h)))
    go_enter Tryz.func59, Tryz.ntmps59
    go_upto_region 1 with fail
    rw [HWA.out]
    go_wp2_with (first
      | (go_at_call 100; refine (H4.out _ hcur).mono ?_; rintro e wz ⟨rfl, hbz⟩; replace hcur := b_tr hcur hbz; clear hbz; clear x0 x1 x2 x3 x4 x5 x6 x7 x8 x9 x10 x11 x12 x13 x14 y0 y1 y2 y3 y4 y5 y6 y7 y8 y9 y10 y11 y12 y13 y14; obtain ⟨x0, x1, x2, x3, x4, x5, x6, x7, x8, x9, x10, x11, x12, x13, x14⟩ := HCA.out _ hcur; obtain ⟨y0, y1, y2, y3, y4, y5, y6, y7, y8, y9, y10, y11, y12, y13, y14⟩ := HCB.out _ hcur)
      | (go_at_call 101; refine (H5.out _ hcur).mono ?_; rintro e wz ⟨rfl, hbz⟩; replace hcur := b_tr hcur hbz; clear hbz; clear x0 x1 x2 x3 x4 x5 x6 x7 x8 x9 x10 x11 x12 x13 x14 y0 y1 y2 y3 y4 y5 y6 y7 y8 y9 y10 y11 y12 y13 y14; obtain ⟨x0, x1, x2, x3, x4, x5, x6, x7, x8, x9, x10, x11, x12, x13, x14⟩ := HCA.out _ hcur; obtain ⟨y0, y1, y2, y3, y4, y5, y6, y7, y8, y9, y10, y11, y12, y13, y14⟩ := HCB.out _ hcur)
      | (go_at_call 28; refine (H6.out _ hcur).mono ?_; rintro e wz ⟨rfl, hbz⟩; replace hcur := b_tr hcur hbz; clear hbz; clear x0 x1 x2 x3 x4 x5 x6 x7 x8 x9 x10 x11 x12 x13 x14 y0 y1 y2 y3 y4 y5 y6 y7 y8 y9 y10 y11 y12 y13 y14; obtain ⟨x0, x1, x2, x3, x4, x5, x6, x7, x8, x9, x10, x11, x12, x13, x14⟩ := HCA.out _ hcur; obtain ⟨y0, y1, y2, y3, y4, y5, y6, y7, y8, y9, y10, y11, y12, y13, y14⟩ := HCB.out _ hcur))
    go_ret
    exact ⟨by rw [HR.out]; rfl, b_tr HB0.out hcur⟩
  subst e9
  have q9 : (idle == idle) = true := beq_iff_eq.2 rfl
  have HR : Hid (yes ((⟨c, cl, ln, S, ⟨last, F, Q⟩, I, ⟨wi, wt, wp, wq, wr⟩, keep, idle⟩ : Se) = ⟨c, cl, ln, S', ⟨last', F', Q'⟩, I', ⟨wi', wt', wp', wq', wr'⟩, keep, idle⟩) = true) := Lib.hid (yes_true (by rw [yes_iff.1 e4, yes_iff.1 e5, yes_iff.1 e6, yes_iff.1 e7]))
  go_enter Tryz.func59, Tryz.ntmps59
  go_upto_region 1 with fail
  rw [HWA.out]
  go_wp2_with (first
    | (go_at_call 100; refine (H4.out _ hcur).mono ?_; rintro e wz ⟨rfl, hbz⟩; replace hcur := b_tr hcur hbz; clear hbz; clear x0 x1 x2 x3 x4 x5 x6 x7 x8 x9 x10 x11 x12 x13 x14 y0 y1 y2 y3 y4 y5 y6 y7 y8 y9 y10 y11 y12 y13 y14; obtain ⟨x0, x1, x2, x3, x4, x5, x6, x7, x8, x9, x10, x11, x12, x13, x14⟩ := HCA.out _ hcur; obtain ⟨y0, y1, y2, y3, y4, y5, y6, y7, y8, y9, y10, y11, y12, y13, y14⟩ := HCB.out _ hcur)
    | (go_at_call 101; refine (H5.out _ hcur).mono ?_; rintro e wz ⟨rfl, hbz⟩; replace hcur := b_tr hcur hbz; clear hbz; clear x0 x1 x2 x3 x4 x5 x6 x7 x8 x9 x10 x11 x12 x13 x14 y0 y1 y2 y3 y4 y5 y6 y7 y8 y9 y10 y11 y12 y13 y14; obtain ⟨x0, x1, x2, x3, x4, x5, x6, x7, x8, x9, x10, x11, x12, x13, x14⟩ := HCA.out _ hcur; obtain ⟨y0, y1, y2, y3, y4, y5, y6, y7, y8, y9, y10, y11, y12, y13, y14⟩ := HCB.out _ hcur)
    | (go_at_call 28; refine (H6.out _ hcur).mono ?_; rintro e wz ⟨rfl, hbz⟩; replace hcur := b_tr hcur hbz; clear hbz; clear x0 x1 x2 x3 x4 x5 x6 x7 x8 x9 x10 x11 x12 x13 x14 y0 y1 y2 y3 y4 y5 y6 y7 y8 y9 y10 y11 y12 y13 y14; obtain ⟨x0, x1, x2, x3, x4, x5, x6, x7, x8, x9, x10, x11, x12, x13, x14⟩ := HCA.out _ hcur; obtain ⟨y0, y1, y2, y3, y4, y5, y6, y7, y8, y9, y10, y11, y12, y13, y14⟩ := HCB.out _ hcur))
  go_ret
  exact ⟨by rw [HR.out]; rfl, b_tr HB0.out hcur⟩
end Go.Proofs.YtknnaeejkmlnbaaGreatDoor
