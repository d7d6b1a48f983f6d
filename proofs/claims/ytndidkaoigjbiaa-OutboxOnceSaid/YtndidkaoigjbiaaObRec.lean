/- The outbox: Rec, of one that is there. -/



import Derived.Test.YtndidkaoigjbiaaObAck
namespace Go.Proofs.Ytndidkaoigjbiaa
open Go.RowKit
theorem own_blk {w : World} {B g cap n size : Nat} {e : TypeId} {xs : List Value} (h : w.ownsRow B e size (.slice (some ⟨g, 0, none⟩) n cap) n xs) : ∃ cur, Whole w g e cur := by
  rcases h.2 with ⟨h', _⟩ | ⟨g', cap', cur, h', hb, hg, _⟩
  · cases h'
  · injection h' with e1 _ _
    injection e1 with e1
    injection e1 with e1
    subst e1
    exact ⟨cur.toList, by unfold Whole; rw [hg]⟩
theorem own_one (w : World) (e : TypeId) (size : Nat) (cs : List Value) (hs : cs.length = size) : (w.alloc (.cells cs.toArray e)).ownsRow w.heap.size e size (.slice (some ⟨w.heap.size, 0, none⟩) 1 1) 1 cs :=
  ⟨by omega, .inr ⟨w.heap.size, 1, cs.toArray, rfl, Nat.le_refl _, heap_alloc_new w _, Nat.le_refl _, by unfold maxLen; omega, by simp; omega, by simp [← hs]⟩⟩
def setRc (F : List Fl) (i : Nat) (f : Fl) : List Fl := F.set i { f with rc := true }
theorem set_rc {F : List Fl} {i : Nat} {f : Fl} (hf : F[i]? = some f) : (eF.cells F).set (i * 6 + 5) (.bool true) = eF.cells (setRc F i f) := by
  have hil := (List.getElem?_eq_some_iff.1 hf).1
  have hF : F = F.take i ++ f :: F.drop (i + 1) := by
    have := List.drop_eq_getElem_cons hil
    rw [(List.getElem?_eq_some_iff.1 hf).2] at this
    rw [← this, List.take_append_drop]
  have hlen : (eF.cells (F.take i)).length = i * 6 := by rw [eF.cells_length, List.length_take, Nat.min_eq_left (by omega)]; rfl
  unfold setRc
  rw [eF.cells_set _ _ _ hil]
  conv => lhs; rw [hF]
  rw [eF.cells_app, eF.cells_cons, List.set_append_right _ _ (by omega), hlen, show i * 6 + 5 - i * 6 = 5 by omega]
  rfl
set_option maxRecDepth 20000 in
set_option maxHeartbeats 4000000 in
theorem Rec_ok (w : World) (v : Value) (o : OB) (h : OR w v o) (hk : okO o) (i : Nat) (f : Fl) (hf : o.F[i]? = some f) (hq : f.m.q = 2) :
    Calls Try.prog 11 #[v, .int .i64 f.id] w fun e w' => ∃ v' lv, e = .returned (.tuple #[v', lv, .int .i64 0]) ∧ OO w' w.heap.size v' ⟨o.last, setRc o.F i f, o.Q⟩ ∧
      w'.ownsRow w.heap.size 50 24 lv 1 (pkC (rel f.id)) ∧ Below w.heap.size w w' := by
  have hil := (List.getElem?_eq_some_iff.1 hf).1
  have hsm : Small o := ⟨by have := hk.2.2.1; omega, by have := hk.2.2.2.1; omega⟩
  have HOW := Lib.hid (fun wx (hx : Below w.heap.size w wx) => Own_any wx v o (h.below hx) hsm)
  have HMY := Lib.hid (fun wx (hx : Below w.heap.size w wx) => May_ok wx v o (h.below hx) hk)
  have HAT := Lib.hid (fun wx (hx : Below w.heap.size w wx) => at_any wx v o f.id (h.below hx) hsm)
  rw [atI_is hk.2.2.2.2.2.1 hf] at HAT
  have h4 := hk.2.2.1
  clear hk hsm
  obtain ⟨last, F, Q⟩ := o
  obtain ⟨fv, qv, rfl, hF, hQ⟩ := h
  simp only at hF hQ hil hf h4 HOW HMY HAT ⊢
  obtain ⟨fo, fc, rfl, _, _⟩ := hF.form
  obtain ⟨qo, qc, rfl, _, _⟩ := hQ.form
  obtain ⟨b2, off, rfl, hbl, hcs⟩ := Enc.rd_cell (E := eF) hF rfl hf
  obtain ⟨c0, c1, c2, c3, c4, c5⟩ := fl_cells (show w.rangeAt b2 (off + i * 6) (eF.c f) from hcs)
  have hq1 : (f.m.q != 2) = false := by rw [hq]; rfl
  obtain ⟨w0, hw0⟩ : ∃ w0, w0 = ((w.alloc (.cells #[.int .i64 last, .slice (some ⟨b2, off, none⟩) F.length fc, .slice qo Q.length qc] 25)).alloc (.cells #[.int .i64 0, .slice none 0 0, .slice none 0 0] 25)) := ⟨_, rfl⟩
  have hb0 : Below w.heap.size w w0 := by rw [hw0]; go_grown
  have hz0 : w.heap.size + 2 ≤ w0.heap.size := by rw [hw0]; simp
  have hA : Whole w0 w.heap.size 25 [.int .i64 last, .slice (some ⟨b2, off, none⟩) F.length fc, .slice qo Q.length qc] := by rw [hw0]; exact (Whole.new w 25 _).alloc _
  have hRR : Whole w0 (w.heap.size + 1) 25 [.int .i64 0, .slice none 0 0, .slice none 0 0] := by
    rw [hw0]
    have := Whole.new (w.alloc (.cells #[.int .i64 last, .slice (some ⟨b2, off, none⟩) F.length fc, .slice qo Q.length qc] 25)) 25 [.int .i64 0, .slice none 0 0, .slice none 0 0]
    simpa using this
  have HW := Lib.hid hw0
  obtain ⟨a0, a1, a2, a3, a4, a5⟩ := hA.three
  have HA := Lib.hid hA
  have HR := Lib.hid hRR
  have HB0 := Lib.hid hb0
  have HC := Lib.hid c3
  have HF := Lib.hid hf
  clear c0 c1 c2 c3 c4 c5 hcs hF hQ hw0 hA hRR hb0 hf hq
  go_enter Try.func11, Try.ntmps11
  go_upto_region 1 with fail
  rw [← HW.out]
  go_wp2_with fail
  refine (HAT.out _ HB0.out).mono ?_
  rintro e w1 ⟨rfl, hb1⟩
  have hbb1 := b_tr HB0.out hb1
  have HA1 := Lib.hid (HA.out.belowH hb1)
  have HR1 := Lib.hid (HR.out.belowH hb1)
  have HBB1 := Lib.hid hbb1
  have hz1 := hb1.size
  clear a0 a1 a2 a3 a4 a5 hb1 hbb1
  obtain ⟨a0, a1, a2, a3, a4, a5⟩ := HA1.out.three
  go_wp2_with fail
  refine (HMY.out _ HBB1.out).mono ?_
  rintro e w2 ⟨rfl, hb2⟩
  have hbb2 := b_tr HBB1.out hb2
  have HA2 := Lib.hid (HA1.out.belowH hb2)
  have HR2 := Lib.hid (HR1.out.belowH hb2)
  have HBB2 := Lib.hid hbb2
  have hz2 := hb2.size
  have d0 := b_cell hbb2 HC.out
  clear a0 a1 a2 a3 a4 a5 hb2 hbb2
  obtain ⟨a0, a1, a2, a3, a4, a5⟩ := HA2.out.three
  have h0i : ¬ ((i : Int) < 0) := by omega
  go_upto_region 6 with fail
  go_wp2_with fail
  refine (HOW.out _ HBB2.out).mono ?_
  rintro e w3 ⟨v3, rfl, ⟨fv3, qv3, rfl, hF3, hQ3⟩, hb3⟩
  simp only at hF3 hQ3 ⊢
  obtain ⟨g3, fc3, rfl, hg3, hg3l, hfc3, hfm3⟩ := Enc.own_form hF3 (by omega)
  obtain ⟨qo3, qc3, rfl, _, _⟩ := (Rd.of_own hQ3).form
  have hA3 := HA2.out.belowH hb3
  have hR3 := HR2.out.belowH hb3
  have hz3 := hb3.size
  clear a0 a1 a2 a3 a4 a5
  obtain ⟨a0, a1, a2, a3, a4, a5⟩ := hA3.three
  obtain ⟨w4, hw4⟩ : ∃ w4, w4 = ((w3.setCell ⟨w.heap.size, 0, none⟩ (.int .i64 last)).setCell ⟨w.heap.size, 1, none⟩ (.slice (some ⟨g3, 0, none⟩) F.length fc3)).setCell ⟨w.heap.size, 2, none⟩ (.slice qo3 Q.length qc3) := ⟨_, rfl⟩
  have hl4 : Left [w.heap.size] w3 w4 := hw4 ▸ (((Left.refl _ w3).setCell (Or.inl (by simp)) _).setCell (Or.inl (by simp)) _).setCell (Or.inl (by simp)) _
  have hA4 : Whole w4 w.heap.size 25 [.int .i64 last, .slice (some ⟨g3, 0, none⟩) F.length fc3, .slice qo3 Q.length qc3] := by rw [hw4]; exact ((hA3.put 0 _).put 1 _).put 2 _
  have hR4 := hR3.left hl4 (by simp)
  have hF4 := own_left hF3 hl4 (by simp; omega)
  have hQ4 := own_left hQ3 hl4 (by simp; omega)
  have hz4 := hl4.size
  obtain ⟨cur, hcur⟩ := own_blk hF4
  obtain ⟨b3, off3, he3, _, hcs3⟩ := Enc.rd_cell (E := eF) (Rd.of_own hF4) rfl HF.out
  injection he3 with he3
  injection he3 with he3 he4
  subst he3
  subst he4
  obtain ⟨k0, k1, k2, k3, k4, k5⟩ := fl_cells (show w4.rangeAt g3 (0 + i * 6) (eF.c f) from hcs3)
  rw [Nat.zero_add] at k5
  have k6 : w4.frozen? ⟨g3, i * 6 + 5, none⟩ = false := hcur.free _
  have HB4 := Lib.hid ((b_tr HBB2.out hb3).trans (hl4.belowB (B := w.heap.size) (by omega) (by simp)))
  have HA4 := Lib.hid hA4
  have HR4 := Lib.hid hR4
  have HF4 := Lib.hid hF4
  have HQ4 := Lib.hid hQ4
  have HW4 := Lib.hid hw4
  clear hF3 hQ3 hb3 hA3 hR3 hl4 hA4 hR4 hF4 hQ4 hw4 k0 k1 k2 k3 k4 hcs3 hcur
  go_upto_region 7 with fail
  rw [← HW4.out]
  clear a0 a1 a2 a3 a4 a5
  obtain ⟨a0, a1, a2, a3, a4, a5⟩ := HA4.out.three
  obtain ⟨w5, hw5⟩ : ∃ w5, w5 = w4.setCell ⟨g3, i * 6 + 5, none⟩ (.bool true) := ⟨_, rfl⟩
  have hgA : g3 ≠ w.heap.size := by omega
  have hgR : g3 ≠ w.heap.size + 1 := by omega
  have hl5 : Left [g3] w4 w5 := hw5 ▸ (Left.refl _ w4).setCell (Or.inl (by simp)) _
  have hF5 : w5.ownsRow w2.heap.size 61 6 (.slice (some ⟨g3, 0, none⟩) F.length fc3) (setRc F i f).length (eF.cells (setRc F i f)) := by
    have := (HF4.out.stored (i * 6 + 5) (.bool true)).1
    rw [set_rc HF.out, ← hw5] at this
    simpa [setRc] using this
  have hgt := own_ty HF4.out (k := g3) rfl
  have hQ5 := own_leftB HQ4.out hl5 (fun k hk e => by simp only [List.mem_singleton] at hk; subst hk; exact (own_ty HQ4.out e).ne hgt (by decide) rfl)
  have hA5 := HA4.out.left hl5 (by simpa using fun e => hgA e.symm)
  have hR5 := HR4.out.left hl5 (by simpa using fun e => hgR e.symm)
  have HB5 := Lib.hid (HB4.out.trans (hl5.belowB (B := w.heap.size) (by omega) (by simp; omega)))
  have hz5 := hl5.size
  have HF5 := Lib.hid hF5
  have HQ5 := Lib.hid hQ5
  have HA5 := Lib.hid hA5
  have HR5 := Lib.hid hR5
  have HW5 := Lib.hid hw5
  clear hl5 hF5 hgt hQ5 hA5 hR5 hw5
  go_upto_region 8 with fail
  rw [← HW5.out]
  clear a0 a1 a2 a3 a4 a5 k5 k6
  obtain ⟨a0, a1, a2, a3, a4, a5⟩ := HA5.out.three
  obtain ⟨w6, hw6⟩ : ∃ w6, w6 = w5.alloc (.cells (pkC (rel f.id)).toArray 50) := ⟨_, rfl⟩
  have hl6 : Left [] w5 w6 := hw6 ▸ (Left.refl [] w5).alloc _
  have hP6 : w6.ownsRow w5.heap.size 50 24 (.slice (some ⟨w5.heap.size, 0, none⟩) 1 1) 1 (pkC (rel f.id)) := hw6 ▸ own_one w5 50 24 _ rfl
  have hR6 := HR5.out.left hl6 (by simp)
  obtain ⟨r0, r1, r2, r3, r4, r5⟩ := hR6.three
  have hz6 : w6.heap.size = w5.heap.size + 1 := by rw [hw6]; simp
  have hl7 : Left [w.heap.size + 1] w6 (((w6.setCell ⟨w.heap.size + 1, 0, none⟩ (.int .i64 last)).setCell ⟨w.heap.size + 1, 1, none⟩ (.slice (some ⟨g3, 0, none⟩) F.length fc3)).setCell ⟨w.heap.size + 1, 2, none⟩ (.slice qo3 Q.length qc3)) := (((Left.refl _ w6).setCell (Or.inl (by simp)) _).setCell (Or.inl (by simp)) _).setCell (Or.inl (by simp)) _
  have HRET := Lib.hid (((hR6.put 0 (.int .i64 last)).put 1 (.slice (some ⟨g3, 0, none⟩) F.length fc3)).put 2 (.slice qo3 Q.length qc3))
  have HFF := Lib.hid (own_base (base' := w.heap.size) (own_left (own_left HF5.out hl6 (by simp)) hl7 (by simp; omega)) (by omega))
  have HQQ := Lib.hid (own_base (base' := w.heap.size) (own_left (own_left HQ5.out hl6 (by simp)) hl7 (by simp; omega)) (by omega))
  have HLL := Lib.hid (own_base (base' := w.heap.size) (own_left hP6 hl7 (by simp; omega)) (by omega))
  have HBB := Lib.hid ((HB5.out.trans (hl6.belowB (B := w.heap.size) (by omega) (by simp))).trans (hl7.belowB (B := w.heap.size) (by omega) (by simp)))
  simp only [pkC, rel] at hw6
  have hch := hw6.symm
  have hlF : (setRc F i f).length = F.length := by simp [setRc]
  have HLF := Lib.hid hlF
  clear hl6 hP6 hR6 hl7 hw6 hlF
  go_wp2
  (try simp only [Exit.inBlock, Exit.then])
  refine bodyPost_ret (results_row_tmp2 (P := Try.prog) (p := 4) (u := 5) (x := 6) (ty := 25) rfl _ _ (w.heap.size + 1) 25 _ (0, 0) _ rfl HRET.out Try.underlying25 rfl (by kernel_rfl)) rfl ?_
  exact ⟨_, _, rfl, ⟨_, _, rfl, HFF.out, HQQ.out⟩, HLL.out, HBB.out⟩
end Go.Proofs.Ytndidkaoigjbiaa
