/- The outbox: Resume. -/



import Derived.Test.YtndidkaoigjbiaaObOff2
namespace Go.Proofs.Ytndidkaoigjbiaa
open Go.RowKit
/-- What is sent again of one that is on its way. -/
def again (f : Fl) : Pk := if f.rc then rel f.id else pub f true
def agL (F : List Fl) : List Pk := F.map again
theorem agL_next {F : List Fl} {k : Nat} {f : Fl} (hf : F[k]? = some f) : eP.cells (agL (F.take (k + 1))) = eP.cells (agL (F.take k)) ++ pkC (again f) := by
  rw [List.take_add_one, hf]
  simp only [agL, Option.toList_some, List.map_append, List.map_cons, List.map_nil, eP.cells_app, eP.cells_one]
  rfl
theorem fillO_len : ∀ (Q : List Msg) (last : Int) (F : List Fl), (fillO last F Q).2.length ≤ Q.length
  | [], last, F => by simp [fillO]
  | m :: Q, last, F => by
    unfold fillO
    split
    · have := fillO_len Q (nid (ids F) (F.length + 1) last) (F ++ [⟨nid (ids F) (F.length + 1) last, m, false⟩])
      simp only [List.length_cons]
      omega
    · simp
/-- The loop's frame. -/
structure RB (w wr : World) (last : Int) (F : List Fl) (fv qv lv : Value) (k : Nat) : Prop where
  box : Whole wr w.heap.size 25 [.int .i64 last, fv, qv]
  ret : Whole wr (w.heap.size + 1) 25 [.int .i64 0, .slice none 0 0, .slice none 0 0]
  lr : wr.ownsRow (w.heap.size + 2) 50 24 lv k (eP.cells (agL (F.take k)))
  bel : Below w.heap.size w wr
  sz : w.heap.size + 2 ≤ wr.heap.size
section
variable {w wr wx : World} {last : Int} {F : List Fl} {fv qv lv : Value} {k : Nat}
theorem RB.below (h : RB w wr last F fv qv lv k) (hb : Below wr.heap.size wr wx) : RB w wx last F fv qv lv k :=
  ⟨h.box.belowH hb, h.ret.belowH hb, own_below h.lr hb, b_tr h.bel hb, Nat.le_trans h.sz hb.size⟩
theorem RB.app (h : RB w wr last F fv qv lv k) {lv' : Value} {k' : Nat} (hl : Left (Value.ownL lv) wr wx) (hr : wx.ownsRow (w.heap.size + 2) 50 24 lv' k' (eP.cells (agL (F.take k')))) : RB w wx last F fv qv lv' k' := by
  have hlt : ∀ j ∈ Value.ownL lv, w.heap.size + 2 ≤ j := fun j hj => (h.lr.lt j (mem_ownL.1 hj)).1
  have hz := hl.size
  have hs := h.sz
  exact ⟨h.box.left hl (fun hm => by have := hlt _ hm; omega), h.ret.left hl (fun hm => by have := hlt _ hm; omega), hr, h.bel.trans (hl.belowB (by omega) (fun j hj => by have := hlt _ hj; omega)), by omega⟩
end
set_option maxRecDepth 20000 in
set_option maxHeartbeats 4000000 in
theorem Resume_ok (w : World) (v : Value) (o : OB) (h : OR w v o) (hk : okO o) :
    Calls Try.prog 8 #[v] w fun e w' => ∃ v' lv, e = .returned (.tuple #[v', lv, .int .i64 0]) ∧ OO w' w.heap.size v' (fillO o.last o.F o.Q).1 ∧
      w'.ownsRow w.heap.size 50 24 lv (o.F.length + (fillO o.last o.F o.Q).2.length) (eP.cells (agL o.F ++ pub0 (fillO o.last o.F o.Q).2)) ∧ Below w.heap.size w w' := by
  obtain ⟨R, hR⟩ : ∃ R, fillO o.last o.F o.Q = R := ⟨_, rfl⟩
  have hRs := fillO_small o.Q o.last o.F
  rw [hR] at hRs ⊢
  have hR2 := fillO_len o.Q o.last o.F
  rw [hR] at hR2
  have hR28 : R.2.length ≤ 8 := by have := hk.2.2.2.1; omega
  clear hR2
  have hRs2 : R.1.F.length ≤ 4 ∧ R.1.Q.length ≤ 100 := by
    have := hk.2.2.1
    have := hk.2.2.2.1
    exact ⟨hRs.2.2 (by assumption), by omega⟩
  have HRS := Lib.hid hRs2
  have HRR := Lib.hid hR
  have hls : 0 ≤ o.last ∧ o.last ≤ 65535 := ⟨hk.1, hk.2.1⟩
  have hsm : Small o := ⟨by have := hk.2.2.1; omega, by have := hk.2.2.2.1; omega⟩
  have HOW := Lib.hid (fun wx (hx : Below w.heap.size w wx) => Own_any wx v o (h.below hx) hsm)
  have HMY := Lib.hid (fun wx (hx : Below w.heap.size w wx) => May_ok wx v o (h.below hx) hk)
  have h4 := hk.2.2.1
  have h8 := hk.2.2.2.1
  clear hk hsm hR hRs hRs2
  obtain ⟨last, F, Q⟩ := o
  obtain ⟨fv, qv, rfl, hF, hQ⟩ := h
  simp only at hF hQ HOW HMY h4 h8 hls HRR ⊢
  obtain ⟨fo, fc, rfl, _, _⟩ := hF.form
  obtain ⟨qo, qc, rfl, _, _⟩ := hQ.form
  obtain ⟨w0, hw0⟩ : ∃ w0, w0 = ((w.alloc (.cells #[.int .i64 last, .slice fo F.length fc, .slice qo Q.length qc] 25)).alloc (.cells #[.int .i64 0, .slice none 0 0, .slice none 0 0] 25)) := ⟨_, rfl⟩
  have hb0 : Below w.heap.size w w0 := by rw [hw0]; go_grown
  have hz0 : w.heap.size + 2 ≤ w0.heap.size := by rw [hw0]; simp
  have hA : Whole w0 w.heap.size 25 [.int .i64 last, .slice fo F.length fc, .slice qo Q.length qc] := by rw [hw0]; exact (Whole.new w 25 _).alloc _
  have hRR : Whole w0 (w.heap.size + 1) 25 [.int .i64 0, .slice none 0 0, .slice none 0 0] := by
    rw [hw0]
    have := Whole.new (w.alloc (.cells #[.int .i64 last, .slice fo F.length fc, .slice qo Q.length qc] 25)) 25 [.int .i64 0, .slice none 0 0, .slice none 0 0]
    simpa using this
  have H0 : Hid (RB w w0 last F (.slice fo F.length fc) (.slice qo Q.length qc) (.slice none 0 0) 0) := Lib.hid ⟨hA, hRR, World.ownsRow_nil _ _ _ _, hb0, hz0⟩
  have HW := Lib.hid hw0
  have HF := Lib.hid hF
  obtain ⟨a0, a1, a2, a3, a4, a5⟩ := hA.three
  clear hF hQ hw0 hA hRR hb0 hz0
  go_enter Try.func8, Try.ntmps8
  go_upto_region 1 with fail
  rw [← HW.out]
  go_wp2_with fail
  refine (HMY.out _ H0.out.bel).mono ?_
  rintro e w1 ⟨rfl, hb1⟩
  have H1 := Lib.hid (H0.out.below hb1)
  clear a0 a1 a2 a3 a4 a5 hb1
  obtain ⟨a0, a1, a2, a3, a4, a5⟩ := H1.out.box.three
  go_wp2_with fail
  clear a0 a1 a2 a3 a4 a5
  go_loopw [5, 16] (fun lv s wr => ∃ k : Nat, s = .int .i64 k ∧ k ≤ F.length ∧ Hid (RB w wr last F (.slice fo F.length fc) (.slice qo Q.length qc) lv k)) (fun _ s _ => F.length - (intOf s).toNat)
  case atStart => exact ⟨0, rfl, by omega, H1⟩
  case round =>
    obtain ⟨k, rfl, hkl, HR⟩ := hrel
    obtain ⟨lo, lc, rfl, _, _⟩ := (Rd.of_own HR.out.lr).form
    by_cases hlt : k < F.length
    · obtain ⟨f, hf⟩ : ∃ f, F[k]? = some f := ⟨_, List.getElem?_eq_getElem hlt⟩
      obtain ⟨b2, off, rfl, hbl, hcs⟩ := Enc.rd_cell (E := eF) (HF.out.below HR.out.bel) rfl hf
      obtain ⟨c0, c1, c2, c3, c4, c5⟩ := fl_cells (show wr.rangeAt b2 (off + k * 6) (eF.c f) from hcs)
      obtain ⟨wa, hwa⟩ : ∃ wa, wa = wr.alloc (.cells #[.int .i64 f.id, .string f.m.t, .string f.m.p, .int .i64 f.m.q, .bool f.m.r, .bool f.rc] 61) := ⟨_, rfl⟩
      have hba : Below wr.heap.size wr wa := by rw [hwa]; go_grown
      have hWf : Whole wa wr.heap.size 61 [.int .i64 f.id, .string f.m.t, .string f.m.p, .int .i64 f.m.q, .bool f.m.r, .bool f.rc] := by rw [hwa]; exact Whole.new wr 61 _
      have f0 : wa.cell? ⟨wr.heap.size, 0, none⟩ = some (.int .i64 f.id) := hWf.cell 0
      have f1 : wa.cell? ⟨wr.heap.size, 1, none⟩ = some (.string f.m.t) := hWf.cell 1
      have f2 : wa.cell? ⟨wr.heap.size, 2, none⟩ = some (.string f.m.p) := hWf.cell 2
      have f3 : wa.cell? ⟨wr.heap.size, 3, none⟩ = some (.int .i64 f.m.q) := hWf.cell 3
      have f4 : wa.cell? ⟨wr.heap.size, 4, none⟩ = some (.bool f.m.r) := hWf.cell 4
      have f5 : wa.cell? ⟨wr.heap.size, 5, none⟩ = some (.bool f.rc) := hWf.cell 5
      have HRA := Lib.hid (HR.out.below hba)
      have HNX := Lib.hid (agL_next hf)
      have HHF := Lib.hid hf
      have HWA := Lib.hid hwa
      clear hcs hwa hba hWf hf
      go_upto_region 7 with fail
      rw [← HWA.out]
      clear c0 c1 c2 c3 c4 c5
      cases hrc : f.rc
      · have hag : again f = pub f true := by unfold again; rw [hrc]; rfl
        rw [hag] at HNX
        rw [hrc] at f5
        have HPB := Lib.hid (publish_any f true wa)
        unfold flV at HPB
        rw [hrc] at HPB
        have HAG := Lib.hid hag
        have HRC := Lib.hid hrc
        clear hag hrc
        go_wp2_with fail
        refine HPB.out.mono ?_
        rintro e w2 ⟨rfl, hb2⟩
        have HR2 := Lib.hid (HRA.out.below hb2)
        obtain ⟨wp, hwp⟩ : ∃ wp, wp = w2.alloc (.cells (pkC (pub f true)).toArray 50) := ⟨_, rfl⟩
        have HRD := Lib.hid (Rd.of_own (hwp ▸ own_one w2 50 24 (pkC (pub f true)) rfl : wp.ownsRow w2.heap.size 50 24 (.slice (some ⟨w2.heap.size, 0, none⟩) 1 1) 1 (pkC (pub f true))))
        have hbp : Below w2.heap.size w2 wp := by rw [hwp]; go_grown
        have HRX := Lib.hid (HR2.out.below hbp)
        unfold pkV pub
        simp only [pkC, pub] at hwp
        have hch := hwp.symm
        simp only [pkC, pub] at hch ⊢
        clear hwp hb2 hbp
        go_wp2_with (at_builtin; refine wpList_app _ rfl (.tmp 28) (.tmp 31) _ rfl (w.heap.size + 2) 50 (pkV ⟨0, ⟨#[]⟩, ⟨#[]⟩, 0, false, 0, false⟩) 24 288 Try.underlying32 inf_P zP_size (by omega) _ k (eP.cells (agL (F.take k))) rfl HRX.out.lr _ _ 1 (pkC (pub f true)) rfl HRD.out (eP.one (pub f true)) ?_ ?_ ?_ ?_)
        · unfold maxLen; omega
        · omega
        · have := HRX.out.sz; omega
        intro v10 w10 hrow hg10 _
        have HRN : Hid (RB w w10 last F (.slice (some ⟨b2, off, none⟩) F.length fc) (.slice qo Q.length qc) v10 (k + 1)) := Lib.hid (HRX.out.app (left_of_grown hg10) (by rw [HNX.out]; exact hrow))
        clear hrow hg10 hch
        go_wp2
        go_roundw
        case rel => exact ⟨k + 1, by go_num, by omega, HRN⟩
        case measure => simp [intOf]; omega
      · have hag : again f = rel f.id := by unfold again; rw [hrc]; rfl
        rw [hag] at HNX
        rw [hrc] at f5
        have HAG := Lib.hid hag
        have HRC := Lib.hid hrc
        clear hag hrc
        obtain ⟨wp, hwp⟩ : ∃ wp, wp = wa.alloc (.cells (pkC (rel f.id)).toArray 50) := ⟨_, rfl⟩
        have HRD := Lib.hid (Rd.of_own (hwp ▸ own_one wa 50 24 (pkC (rel f.id)) rfl : wp.ownsRow wa.heap.size 50 24 (.slice (some ⟨wa.heap.size, 0, none⟩) 1 1) 1 (pkC (rel f.id))))
        have hbp : Below wa.heap.size wa wp := by rw [hwp]; go_grown
        have HRX := Lib.hid (HRA.out.below hbp)
        simp only [pkC, rel] at hwp
        have hch := hwp.symm
        clear hwp hbp
        go_wp2_with (at_builtin; refine wpList_app _ rfl (.tmp 22) (.tmp 26) _ rfl (w.heap.size + 2) 50 (pkV ⟨0, ⟨#[]⟩, ⟨#[]⟩, 0, false, 0, false⟩) 24 288 Try.underlying32 inf_P zP_size (by omega) _ k (eP.cells (agL (F.take k))) rfl HRX.out.lr _ _ 1 (pkC (rel f.id)) rfl HRD.out (eP.one (rel f.id)) ?_ ?_ ?_ ?_)
        · unfold maxLen; omega
        · omega
        · have := HRX.out.sz; omega
        intro v10 w10 hrow hg10 _
        have HRN : Hid (RB w w10 last F (.slice (some ⟨b2, off, none⟩) F.length fc) (.slice qo Q.length qc) v10 (k + 1)) := Lib.hid (HRX.out.app (left_of_grown hg10) (by rw [HNX.out]; exact hrow))
        clear hrow hg10 hch
        go_wp2
        go_roundw
        case rel => exact ⟨k + 1, by go_num, by omega, HRN⟩
        case measure => simp [intOf]; omega
    · have e : k = F.length := by omega
      subst e
      obtain ⟨a0, a1, a2, a3, a4, a5⟩ := HR.out.box.three
      have HLA : Hid (wr.ownsRow (w.heap.size + 2) 50 24 (.slice lo F.length lc) F.length (eP.cells (agL F))) := Lib.hid (by have := HR.out.lr; rwa [List.take_length] at this)
      have hzr := HR.out.sz
      go_wp2_with fail
      refine (HOW.out _ HR.out.bel).mono ?_
      rintro e w2 ⟨v2, rfl, hO2, hb2⟩
      have hz2 := hb2.size
      have hfi := fill_any w2 wr.heap.size _ _ hO2 hz2 ⟨show F.length ≤ 100000 by omega, show Q.length ≤ 100000 by omega⟩ hls
      simp only at hfi
      rw [HRR.out] at hfi
      have HFI := Lib.hid hfi
      obtain ⟨fv2, qv2, rfl, _, _⟩ := hO2
      have HR2 := Lib.hid (HR.out.below hb2)
      have HB2 := Lib.hid hb2
      clear hfi hb2 a0 a1 a2 a3 a4 a5
      go_wp2_with fail
      refine HFI.out.mono ?_
      rintro e w3 ⟨v3, lv, rfl, ⟨fv3, qv3, rfl, hF3, hQ3⟩, hL3, hb3⟩
      obtain ⟨fo3, fc3, rfl, _, _⟩ := (Rd.of_own hF3).form
      obtain ⟨qo3, qc3, rfl, _, _⟩ := hQ3.form
      obtain ⟨lo3, lc3, rfl, _, _⟩ := (Rd.of_own hL3).form
      have hz3 := hb3.size
      have hA3 := HR2.out.box.below hb3 (by omega)
      have hR3 := HR2.out.ret.below hb3 (by omega)
      obtain ⟨a0, a1, a2, a3, a4, a5⟩ := hA3.three
      obtain ⟨w4, hw4⟩ : ∃ w4, w4 = ((w3.setCell ⟨w.heap.size, 0, none⟩ (.int .i64 R.1.last)).setCell ⟨w.heap.size, 1, none⟩ (.slice fo3 R.1.F.length fc3)).setCell ⟨w.heap.size, 2, none⟩ (.slice qo3 R.1.Q.length qc3) := ⟨_, rfl⟩
      have hl4 : Left [w.heap.size] w3 w4 := hw4 ▸ (((Left.refl _ w3).setCell (Or.inl (by simp)) _).setCell (Or.inl (by simp)) _).setCell (Or.inl (by simp)) _
      have hA4 : Whole w4 w.heap.size 25 [.int .i64 R.1.last, .slice fo3 R.1.F.length fc3, .slice qo3 R.1.Q.length qc3] := by rw [hw4]; exact ((hA3.put 0 _).put 1 _).put 2 _
      have hR4 := hR3.left hl4 (by simp)
      have hz4 := hl4.size
      have hOR : OR w4 (.agg #[.int .i64 R.1.last, .slice fo3 R.1.F.length fc3, .slice qo3 R.1.Q.length qc3]) R.1 := ⟨_, _, rfl, Rd.of_own (own_left hF3 hl4 (by simp; omega)), (hQ3.left hl4 (fun k hk e => by simp only [List.mem_singleton] at hk; subst hk; have := (hQ3.lt e).1; omega)).rd⟩
      have HO4 := Lib.hid (Own_any w4 _ _ hOR (by have := HRS.out; exact ⟨by omega, by omega⟩))
      have HL4 := Lib.hid (own_left hL3 hl4 (by simp; omega))
      have hLA3 := own_below HLA.out (HB2.out.trans hb3)
      have HLA4 := Lib.hid (own_left hLA3 hl4 (by simp))
      have HB4 := Lib.hid ((HR2.out.bel.trans (hb3.mono (by omega))).trans (hl4.belowB (B := w.heap.size) (by omega) (by simp)))
      have HW4 := Lib.hid hw4
      have HR4 := Lib.hid hR4
      have HA4 := Lib.hid hA4
      clear hF3 hQ3 hL3 hb3 hA3 hR3 hl4 hA4 hR4 hOR hw4 hLA3
      go_upto_region 12 with fail
      rw [← HW4.out]
      clear a0 a1 a2 a3 a4 a5
      obtain ⟨a0, a1, a2, a3, a4, a5⟩ := HA4.out.three
      go_wp2_with fail
      refine HO4.out.mono ?_
      rintro e w5 ⟨v5, rfl, ⟨fv5, qv5, rfl, hF5, hQ5⟩, hb5⟩
      obtain ⟨fo5, fc5, rfl, _, _⟩ := (Rd.of_own hF5).form
      obtain ⟨qo5, qc5, rfl, _, _⟩ := (Rd.of_own hQ5).form
      have hz5 := hb5.size
      have HR5 := Lib.hid (HR4.out.belowH hb5)
      have HLA5 := Lib.hid (own_below HLA4.out hb5)
      have HRD := Lib.hid (Rd.of_own (own_below HL4.out hb5))
      have HF5 := Lib.hid hF5
      have HQ5 := Lib.hid hQ5
      have HB5 := Lib.hid (b_tr HB4.out hb5)
      clear hF5 hQ5 hb5 a0 a1 a2 a3 a4 a5
      go_wp2_with (at_builtin; refine wpList_app _ rfl (.tmp 42) (.tmp 43) _ rfl (w.heap.size + 2) 50 (pkV ⟨0, ⟨#[]⟩, ⟨#[]⟩, 0, false, 0, false⟩) 24 288 Try.underlying32 inf_P zP_size (by omega) _ F.length (eP.cells (agL F)) rfl HLA5.out _ _ R.2.length (eP.cells (pub0 R.2)) rfl HRD.out (eP.cells_oneCell _) ?_ ?_ ?_ ?_)
      · unfold maxLen; omega
      · omega
      · omega
      intro v6 w6 hrow hg6 _
      have hl6 := left_of_grown hg6
      obtain ⟨lo6, lc6, rfl, _, _⟩ := (Rd.of_own hrow).form
      have hlt : ∀ j ∈ Value.ownL (.slice lo F.length lc), w.heap.size + 2 ≤ j := fun j hj => (HLA5.out.lt j (mem_ownL.1 hj)).1
      have hpt := fun {k : Nat} (hk : k ∈ Value.ownL (.slice lo F.length lc)) => own_ty HLA5.out (mem_ownL.1 hk)
      have hR6 := HR5.out.left hl6 (fun hm => by have := hlt _ hm; omega)
      have hF6 := own_leftB HF5.out hl6 (fun k hk e => (own_ty HF5.out e).ne (hpt hk) (by decide) rfl)
      have hQ6 := own_leftB HQ5.out hl6 (fun k hk e => (own_ty HQ5.out e).ne (hpt hk) (by decide) rfl)
      have hz6 := hl6.size
      have hB6 := HB5.out.trans (hl6.belowB (B := w.heap.size) (by omega) (fun j hj => by have := hlt _ hj; omega))
      obtain ⟨r0, r1, r2, r3, r4, r5⟩ := hR6.three
      have hl7 : Left [w.heap.size + 1] w6 (((w6.setCell ⟨w.heap.size + 1, 0, none⟩ (.int .i64 R.1.last)).setCell ⟨w.heap.size + 1, 1, none⟩ (.slice fo5 R.1.F.length fc5)).setCell ⟨w.heap.size + 1, 2, none⟩ (.slice qo5 R.1.Q.length qc5)) := (((Left.refl _ w6).setCell (Or.inl (by simp)) _).setCell (Or.inl (by simp)) _).setCell (Or.inl (by simp)) _
      have HRET := Lib.hid (((hR6.put 0 (.int .i64 R.1.last)).put 1 (.slice fo5 R.1.F.length fc5)).put 2 (.slice qo5 R.1.Q.length qc5))
      have HFF := Lib.hid (own_base (base' := w.heap.size) (own_left hF6 hl7 (by simp; omega)) (by omega))
      have HQQ := Lib.hid (own_base (base' := w.heap.size) (own_left hQ6 hl7 (by simp; omega)) (by omega))
      have HLL := Lib.hid (own_base (base' := w.heap.size) (own_left hrow hl7 (by simp)) (by omega))
      have HBB := Lib.hid (hB6.trans (hl7.belowB (B := w.heap.size) (by omega) (by simp)))
      clear hF6 hQ6 hrow hg6 hl6 hlt hpt hR6 hB6 hl7
      go_wp2
      (try simp only [Exit.inBlock, Exit.then])
      refine bodyPost_ret (results_row_tmp2 (P := Try.prog) (p := 2) (u := 3) (x := 4) (ty := 25) rfl _ _ (w.heap.size + 1) 25 _ (0, 0) _ rfl HRET.out Try.underlying25 rfl (by kernel_rfl)) rfl ?_
      exact ⟨_, _, rfl, ⟨_, _, rfl, HFF.out, HQQ.out⟩, by rw [eP.cells_app]; exact HLL.out, HBB.out⟩
end Go.Proofs.Ytndidkaoigjbiaa
