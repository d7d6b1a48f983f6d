/- The outbox: one is taken out of Flight, and it is filled. -/



import Derived.Test.YtndidkaoigjbiaaObFill
import Derived.Deep.RegionLaw
import Derived.Lib.SliceRun
import Derived.Shelf.RegionOpenPlain
import Derived.Deep.DrawnRows
namespace Go.Proofs.Ytndidkaoigjbiaa
open Go.RowKit Go.Shelf Go.Proofs
def zl_df : List Value := [.int .i64 0, .string ⟨#[]⟩, .string ⟨#[]⟩, .int .i64 0, .bool false, .bool false]
theorem cl_df (L : List Fl) : (eF.cells L).length = L.length * 6 := eF.cells_length L
theorem zero_df (w : World) : (zeroValue 61).run Try.prog w = .ok (.agg #[.int .i64 0, .string ⟨#[]⟩, .string ⟨#[]⟩, .int .i64 0, .bool false, .bool false]) w := by kernel_rfl
theorem run_clear1_df (w : World) (ty : TypeId) (b o c : Nat) (hc : ∀ j, j < 6 → (w.cell? ⟨b, o + j, none⟩).isSome = true) (hf : ∀ j, j < 6 → w.frozen? ⟨b, o + j, none⟩ = false) :
    (Builtin.clear_ #[22] ty #[.slice (some ⟨b, o, none⟩) 1 c]).run Try.prog w = .ok (.tuple #[]) (w.setCells b o zl_df) := by
  have hzc : (Builtin.zeroCells (Value.agg #[.int .i64 0, .string ⟨#[]⟩, .string ⟨#[]⟩, .int .i64 0, .bool false, .bool false]).cells 1).toList = zl_df := by simp [Builtin.zeroCells, zl_df, Value.cells]; rfl
  have hst := run_storeCells_cells (P := Try.prog) b o zl_df 0 w (by simpa [zl_df] using hc) (by simpa [zl_df] using hf) (by simp [zl_df, Value.oneCell'])
  simp only [Nat.add_zero] at hst
  simp [Builtin.clear_, run_underlying Try.underlying22, zero_df, hzc, hst]

set_option maxRecDepth 100000 in
set_option maxHeartbeats 1000000 in
theorem DeleteF_any (w : World) (B : Nat) (v : Value) (L : List Fl) (i m : Nat) (h : w.ownsRow B 61 6 v L.length (eF.cells L)) (hi : L.length = i + 1 + m) (hB : B ≤ w.heap.size) (hn : L.length ≤ 1000000000000) :
    Calls Try.prog 31 #[v, .int .i64 i, .int .i64 ((i : Int) + 1)] w fun e w' => ∃ v', e = .returned v' ∧ w'.ownsRow B 61 6 v' (i + m) (eF.cells (L.take i ++ L.drop (i + 1))) ∧ Below B w w' ∧ v'.ownBlock = v.ownBlock ∧ ∀ g, v.ownBlock = some g → Left [g] w w' := by
  obtain ⟨i0, hi0, hz0, hz1, hz2⟩ := info_parts inf_F
  obtain ⟨g, cap, rfl, hBg, hgl, hnc, hcm⟩ := Enc.own_form h (by omega)
  have hm' : cap ≤ 9223372036854775807 := by unfold maxLen at hcm; omega
  have hsp : eF.cells L = eF.cells (L.take (i + 1)) ++ eF.cells (L.drop (i + 1)) := by rw [← eF.cells_app, List.take_append_drop]
  have hsp2 : eF.cells L = eF.cells (L.take i) ++ eF.cells (L.drop i) := by rw [← eF.cells_app, List.take_append_drop]
  have l1 : (eF.cells (L.take (i + 1))).length = (i + 1) * 6 := by rw [cl_df, List.length_take]; omega
  have l2 : (eF.cells (L.take i)).length = i * 6 := by rw [cl_df, List.length_take]; omega
  have l3 : (eF.cells (L.drop i)).length = (m + 1) * 6 := by rw [cl_df, List.length_drop]; omega
  obtain ⟨news, hnews⟩ : ∃ news, news = eF.cells (L.drop (i + 1)) := ⟨_, rfl⟩
  have hlen : news.length = m * 6 := by rw [hnews, cl_df, List.length_drop]; omega
  have hca := h.cellAt
  have hfr := h.frozenAt
  obtain ⟨A, hA, hsrc⟩ : ∃ A : Addr, (if cap = i + 1 then some (⟨g, 0, none⟩ : Addr) else some ⟨g, (i + 1) * 6, none⟩) = some A ∧ Hid (∀ t u, news[t]? = some u → w.drew.cell? (A.add t) = some u) := by
    by_cases hcp : cap = i + 1
    · refine ⟨⟨g, 0, none⟩, by simp [hcp], fun t u hu => ?_⟩
      have := (List.getElem?_eq_some_iff.1 hu).1
      omega
    · refine ⟨⟨g, (i + 1) * 6, none⟩, by simp [hcp], fun t u hu => ?_⟩
      have ht := (List.getElem?_eq_some_iff.1 hu).1
      rw [add_flat]
      show w.cell? _ = _
      rw [hca _ (by omega), hsp, List.getElem?_append_right (by omega), l1, ← hnews]
      rw [show (i + 1) * 6 + t - (i + 1) * 6 = t by omega]
      exact hu
  have s1 : Hid (news.length = m * 6) := hlen
  have s2 : Hid (∀ u ∈ news, u.oneCell' = true) := by rw [hnews]; exact eF.cells_oneCell _
  have s3 : Hid (∀ t, t < news.length → (w.drew.cell? ⟨g, 0 + i * 6 + t, none⟩).isSome = true ∧ w.drew.frozen? ⟨g, 0 + i * 6 + t, none⟩ = false) := by
    intro t ht
    refine ⟨?_, hfr _⟩
    show (w.cell? _).isSome = true
    rw [hca _ (by omega), List.getElem?_eq_getElem (by rw [h.1]; omega)]
    rfl
  obtain ⟨W1, hW1⟩ : ∃ W1, W1 = w.drew.setCells g (0 + i * 6) news := ⟨_, rfl⟩
  have o1 := Enc.own_setCells news (i * 6) (eF.cells L) w.drew h.drew
  rw [show i * 6 = 0 + i * 6 by omega, ← hW1] at o1
  have e1 : Enc.layL (eF.cells L) (0 + i * 6) news = eF.cells (L.take i) ++ news ++ (eF.cells (L.drop i)).drop (m * 6) := by
    have := Enc.layL_app news (eF.cells (L.take i)) ((eF.cells (L.drop i)).drop (m * 6)) ((eF.cells (L.drop i)).take (m * 6)) (by rw [List.length_take]; omega)
    rw [List.append_assoc, List.take_append_drop, ← hsp2, l2] at this
    rw [Nat.zero_add]
    exact this
  rw [e1] at o1
  obtain ⟨o1, g1⟩ := o1
  have hca1 := o1.cellAt
  have hfr1 := o1.frozenAt
  have hcl : ∀ ty c, (Builtin.clear_ #[22] ty #[.slice (some ⟨g, (i + m) * 6, none⟩) 1 c]).run Try.prog W1 = .ok (.tuple #[]) (W1.setCells g ((i + m) * 6) zl_df) := fun ty c => run_clear1_df W1 ty g _ c (fun j hj => by
    rw [hca1 _ (by omega), List.getElem?_eq_getElem (by rw [o1.1]; omega)]
    rfl) (fun j hj => hfr1 _)
  have o2 := Enc.own_setCells zl_df ((i + m) * 6) _ W1 o1
  have e2 : Enc.layL (eF.cells (L.take i) ++ news ++ (eF.cells (L.drop i)).drop (m * 6)) ((i + m) * 6) zl_df = eF.cells (L.take i) ++ news ++ zl_df := by
    have := Enc.layL_app zl_df (eF.cells (L.take i) ++ news) [] ((eF.cells (L.drop i)).drop (m * 6)) (by rw [List.length_drop, l3]; simp [zl_df]; omega)
    rw [List.length_append, l2, hlen, List.append_nil, List.append_nil, show i * 6 + m * 6 = (i + m) * 6 by omega] at this
    exact this
  rw [e2] at o2
  obtain ⟨o2, g2⟩ := o2
  have o3 := Enc.own_cut (m := i + m) o2 (by omega)
  rw [List.take_append_of_le_length (by rw [List.length_append, l2, hlen]; omega), List.take_of_length_le (by rw [List.length_append, l2, hlen]; omega), hnews, ← eF.cells_app] at o3
  have hbb : Below B w (W1.setCells g ((i + m) * 6) zl_df) := (((Below.refl B w).drew).grown g1 (by simpa using hB) (fun k hk => by injection hk with hk; omega)).grown g2 (by have := g1.size; simp at this; omega) (fun k hk => by injection hk with hk; omega)
  have hLL : Left [g] w (W1.setCells g ((i + m) * 6) zl_df) := by
    have t1 : Left [g] w W1 := (Left.refl [g] w).drew.trans (T := [g]) ⟨g1.os, g1.tape, g1.output, g1.size, fun k hk hn => g1.block k hk (fun e => hn (by injection e with e; simp [e]))⟩ (by simp)
    exact t1.trans (T := [g]) ⟨g2.os, g2.tape, g2.output, g2.size, fun k hk hn => g2.block k hk (fun e => hn (by injection e with e; simp [e]))⟩ (by simp)
  have HLL := Lib.hid hLL
  clear hLL
  have HO := Lib.hid o3
  have HB := Lib.hid hbb
  have hW : Hid (W1 = w.drew.setCells g (0 + i * 6) news) := hW1
  have hic : i ≤ cap := by omega
  have hic1 : i + 1 ≤ cap := by omega
  have q1 : i + 1 + m - (i + 1) = m := by omega
  have q2 : i + 1 + m - (i + m) = 1 := by omega
  have mixed : Try.prog.follows Departure.mixedOrders = true := by kernel_rfl
  have b1 : (0 : Int) ≤ (i : Int) + 1 := by omega
  have b2 : (i : Int) + 1 ≤ (i : Int) + 1 + (m : Int) := by omega
  rw [hi] at *
  clear hca hfr hca1 hfr1 o1 o2 o3 g1 g2 e1 e2 hbb hsp hsp2 l1 l2 l3 hW1 h hcm hlen hnews
  go_enter Try.func31, Try.ntmps31
  go_wp2_with fail
  go_region_law_o (refine step_append_room rfl (.tmp 22) (.tmp 25) 22 rfl 61 i0 6 Try.underlying22 hi0 hz1 g 0 i cap (by simp [Act.eval, Act.put]) A m (cap - (i + 1)) news (by simp [Act.eval, Act.put]) s1.out hsrc.out s2.out (by omega) s3.out ?_; rw [← hW.out])
  go_wp2
  go_ret
  exact ⟨_, rfl, HO.out, HB.out, rfl, fun g' e => by simp only [Value.ownBlock] at e; injection e with e; subst e; exact HLL.out⟩
theorem fillO_small : ∀ (Q : List Msg) (last : Int) (F : List Fl), (fillO last F Q).1.F.length ≤ F.length + 4 ∧ (fillO last F Q).1.Q.length ≤ Q.length ∧ (F.length ≤ 4 → (fillO last F Q).1.F.length ≤ 4)
  | [], last, F => by simp [fillO]
  | m :: Q, last, F => by
    unfold fillO
    split
    · rename_i hlt
      have := fillO_small Q (nid (ids F) (F.length + 1) last) (F ++ [⟨nid (ids F) (F.length + 1) last, m, false⟩])
      simp only [List.length_append, List.length_cons, List.length_nil] at this ⊢
      have h3 := this.2.2 (by omega)
      exact ⟨by omega, by omega, fun _ => h3⟩
    · simp
set_option maxRecDepth 20000 in
set_option maxHeartbeats 4000000 in
theorem gone_any (w : World) (v : Value) (o : OB) (h : OR w v o) (hs : o.F.length ≤ 50000 ∧ o.Q.length ≤ 50000) (i m : Nat) (hi : o.F.length = i + 1 + m) (hl : 0 ≤ o.last ∧ o.last ≤ 65535) :
    Calls Try.prog 21 #[v, .int .i64 i] w fun e w' => ∃ v' lv, e = .returned (.tuple #[v', lv, .int .i64 0]) ∧ OO w' w.heap.size v' (fillO o.last (o.F.take i ++ o.F.drop (i + 1)) o.Q).1 ∧
      w'.ownsRow w.heap.size 50 24 lv (fillO o.last (o.F.take i ++ o.F.drop (i + 1)) o.Q).2.length (eP.cells (pub0 (fillO o.last (o.F.take i ++ o.F.drop (i + 1)) o.Q).2)) ∧ Below w.heap.size w w' := by
  obtain ⟨R, hR⟩ : ∃ R, fillO o.last (o.F.take i ++ o.F.drop (i + 1)) o.Q = R := ⟨_, rfl⟩
  rw [hR]
  have HRR := Lib.hid hR
  clear hR
  obtain ⟨last, F, Q⟩ := o
  simp only at hs
  have h0 := h
  obtain ⟨fv, qv, rfl, hF, hQ⟩ := h
  simp only at hF hQ hi hl HRR ⊢
  obtain ⟨fo, fc, rfl, _, _⟩ := hF.form
  obtain ⟨qo, qc, rfl, _, _⟩ := hQ.form
  obtain ⟨w0, hw0⟩ : ∃ w0, w0 = ((w.alloc (.cells #[.int .i64 last, .slice fo F.length fc, .slice qo Q.length qc] 25)).alloc (.cells #[.int .i64 0, .slice none 0 0, .slice none 0 0] 25)) := ⟨_, rfl⟩
  have hb0 : Below w.heap.size w w0 := by rw [hw0]; go_grown
  have hz0 : w.heap.size + 2 ≤ w0.heap.size := by rw [hw0]; simp
  have hA : Whole w0 w.heap.size 25 [.int .i64 last, .slice fo F.length fc, .slice qo Q.length qc] := by rw [hw0]; exact (Whole.new w 25 _).alloc _
  have hR : Whole w0 (w.heap.size + 1) 25 [.int .i64 0, .slice none 0 0, .slice none 0 0] := by
    rw [hw0]
    have := Whole.new (w.alloc (.cells #[.int .i64 last, .slice fo F.length fc, .slice qo Q.length qc] 25)) 25 [.int .i64 0, .slice none 0 0, .slice none 0 0]
    simpa using this
  have HO := Lib.hid (Own_any w0 _ _ (h0.below hb0) ⟨show F.length ≤ 100000 by omega, show Q.length ≤ 100000 by omega⟩)
  have HW := Lib.hid hw0
  have HHI := Lib.hid hi
  have HSS := Lib.hid hs
  have hib : i ≤ 100000 := by omega
  clear hF hQ hw0 h0 hi hs
  go_enter Try.func21, Try.ntmps21
  go_wp2_with fail
  rw [← HW.out]
  refine HO.out.mono ?_
  rintro e w1 ⟨v1, rfl, ⟨fv1, qv1, rfl, hF1, hQ1⟩, hb1⟩
  simp only at hF1 hQ1 ⊢
  obtain ⟨fo1, fc1, rfl, _, _⟩ := (Rd.of_own hF1).form
  obtain ⟨qo1, qc1, rfl, _, _⟩ := (Rd.of_own hQ1).form
  have hA1 := hA.belowH hb1
  have hR1 := hR.belowH hb1
  obtain ⟨a0, a1, a2, a3, a4, a5⟩ := hA1.three
  have hz1 := hb1.size
  obtain ⟨w2, hw2⟩ : ∃ w2, w2 = ((w1.setCell ⟨w.heap.size, 0, none⟩ (.int .i64 last)).setCell ⟨w.heap.size, 1, none⟩ (.slice fo1 F.length fc1)).setCell ⟨w.heap.size, 2, none⟩ (.slice qo1 Q.length qc1) := ⟨_, rfl⟩
  have hl2 : Left [w.heap.size] w1 w2 := hw2 ▸ (((Left.refl _ w1).setCell (Or.inl (by simp)) _).setCell (Or.inl (by simp)) _).setCell (Or.inl (by simp)) _
  have hA2 : Whole w2 w.heap.size 25 [.int .i64 last, .slice fo1 F.length fc1, .slice qo1 Q.length qc1] := by rw [hw2]; exact ((hA1.put 0 _).put 1 _).put 2 _
  have hR2 := hR1.left hl2 (by simp)
  have hF2 := own_left hF1 hl2 (by simp; omega)
  have hQ2 := own_left hQ1 hl2 (by simp; omega)
  have hz2 := hl2.size
  have HB2 := Lib.hid ((hb0.trans (hb1.mono (by omega))).trans (hl2.belowB (B := w.heap.size) (by omega) (by simp)))
  have HD := Lib.hid (DeleteF_any w2 w0.heap.size _ F i m hF2 HHI.out (by omega) (by have := HSS.out.1; omega))
  have HQ2 := Lib.hid hQ2
  have HA2 := Lib.hid hA2
  have HR2 := Lib.hid hR2
  have HF2 := Lib.hid hF2
  have HW2 := Lib.hid hw2
  obtain ⟨b0, b1, b2, b3, b4, b5⟩ := hA2.three
  clear hA hR hF1 hQ1 hb1 hA1 hR1 hl2 hF2 hQ2 hA2 hR2 hw2
  go_upto_region 2 with fail
  rw [← HW2.out]
  clear a0 a1 a2 a3 a4 a5
  go_wp2_with fail
  refine HD.out.mono ?_
  rintro e w3 ⟨v3, rfl, hF3, hb3, _, hL3⟩
  obtain ⟨fo3, fc3, rfl, _, _⟩ := (Rd.of_own hF3).form
  obtain ⟨g1, cap1, hgv, hg1B, hg1l, _, _⟩ := Enc.own_form HF2.out (by have := HHI.out; omega)
  have hL := hL3 g1 (by rw [hgv]; rfl)
  have hgG : w.heap.size ∉ [g1] ∧ w.heap.size + 1 ∉ [g1] := by simp; omega
  have hA3 := HA2.out.left hL hgG.1
  have hR3 := HR2.out.left hL hgG.2
  have hgt := own_ty HF2.out (k := g1) (by rw [hgv]; rfl)
  have hQ3 := own_leftB HQ2.out hL (fun k hk e => by simp only [List.mem_singleton] at hk; subst hk; exact (own_ty HQ2.out e).ne hgt (by decide) rfl)
  obtain ⟨c0, c1, c2, c3, c4, c5⟩ := hA3.three
  obtain ⟨F', hF'⟩ : ∃ F', F.take i ++ F.drop (i + 1) = F' := ⟨_, rfl⟩
  have hFl : F'.length = i + m := by rw [← hF', List.length_append, List.length_take, List.length_drop]; have := HHI.out; omega
  rw [hF'] at hF3
  have hFl2 := Lib.hid hFl
  obtain ⟨w4, hw4⟩ : ∃ w4, w4 = w3.setCell ⟨w.heap.size, 1, none⟩ (.slice fo3 (i + m) fc3) := ⟨_, rfl⟩
  have hl4 : Left [w.heap.size] w3 w4 := hw4 ▸ (Left.refl _ w3).setCell (Or.inl (by simp)) _
  have hA4 : Whole w4 w.heap.size 25 [.int .i64 last, .slice fo3 (i + m) fc3, .slice qo1 Q.length qc1] := by rw [hw4]; exact hA3.put 1 _
  have hR4 := hR3.left hl4 (by simp)
  have hO4 : OO w4 w0.heap.size (.agg #[.int .i64 last, .slice fo3 (i + m) fc3, .slice qo1 Q.length qc1]) ⟨last, F', Q⟩ := ⟨_, _, rfl, by rw [hFl]; exact own_left hF3 hl4 (by simp; omega), own_left hQ3 hl4 (by simp; omega)⟩
  have hz3 := hb3.size
  have hz4 := hl4.size
  have hFI := fill_any w4 w0.heap.size _ ⟨last, F', Q⟩ hO4 (by omega) ⟨show F'.length ≤ 100000 by have := HSS.out.1; have := HHI.out; omega, show Q.length ≤ 100000 by have := HSS.out.2; omega⟩ hl
  have HRR2 : Hid (fillO last F' Q = R) := Lib.hid (by rw [← hF']; exact HRR.out)
  rw [HRR2.out] at hFI
  have HFI := Lib.hid hFI
  have HB4 := Lib.hid ((HB2.out.trans (hb3.mono (by omega))).trans (hl4.belowB (B := w.heap.size) (by omega) (by simp)))
  have HW4 := Lib.hid hw4
  have HR4 := Lib.hid hR4
  have HA4 := Lib.hid hA4
  obtain ⟨d0, d1, d2, d3, d4, d5⟩ := hA4.three
  clear hF3 hb3 hL3 hL hgv hA3 hR3 hgt hQ3 hF' hFl hl4 hA4 hR4 hO4 hFI hw4 b0 b1 b2 b3 b4 b5
  go_upto_region 3 with fail
  rw [← HW4.out]
  clear c0 c1 c2 c3 c4 c5
  go_wp2_with fail
  refine HFI.out.mono ?_
  rintro e w5 ⟨v5, lv, rfl, ⟨fv5, qv5, rfl, hF5, hQ5⟩, hL5, hb5⟩
  obtain ⟨fo5, fc5, rfl, _, _⟩ := (Rd.of_own hF5).form
  obtain ⟨qo5, qc5, rfl, _, _⟩ := hQ5.form
  obtain ⟨lo5, lc5, rfl, _, _⟩ := (Rd.of_own hL5).form
  have hz5 := hb5.size
  have hA5 := HA4.out.below hb5 (by omega)
  have hR5 := HR4.out.below hb5 (by omega)
  obtain ⟨e0, e1, e2, e3, e4, e5⟩ := hA5.three
  obtain ⟨w6, hw6⟩ : ∃ w6, w6 = ((w5.setCell ⟨w.heap.size, 0, none⟩ (.int .i64 R.1.last)).setCell ⟨w.heap.size, 1, none⟩ (.slice fo5 R.1.F.length fc5)).setCell ⟨w.heap.size, 2, none⟩ (.slice qo5 R.1.Q.length qc5) := ⟨_, rfl⟩
  have hl6 : Left [w.heap.size] w5 w6 := hw6 ▸ (((Left.refl _ w5).setCell (Or.inl (by simp)) _).setCell (Or.inl (by simp)) _).setCell (Or.inl (by simp)) _
  have hA6 : Whole w6 w.heap.size 25 [.int .i64 R.1.last, .slice fo5 R.1.F.length fc5, .slice qo5 R.1.Q.length qc5] := by rw [hw6]; exact ((hA5.put 0 _).put 1 _).put 2 _
  have hR6 := hR5.left hl6 (by simp)
  have hz6 := hl6.size
  have hOR : OR w6 (.agg #[.int .i64 R.1.last, .slice fo5 R.1.F.length fc5, .slice qo5 R.1.Q.length qc5]) R.1 := ⟨_, _, rfl, Rd.of_own (own_left hF5 hl6 (by simp; omega)), (hQ5.left hl6 (fun k hk e => by simp only [List.mem_singleton] at hk; subst hk; have := (hQ5.lt e).1; omega)).rd⟩
  have HO6 := Lib.hid (Own_any w6 _ _ hOR (by have hh := fillO_small Q last F'; rw [HRR2.out] at hh; have h1 := HSS.out; have h2 := HHI.out; rw [hFl2.out] at hh; exact ⟨by omega, by omega⟩))
  have HL6 := Lib.hid (own_left hL5 hl6 (by simp; omega))
  have HB6 := Lib.hid ((HB4.out.trans (hb5.mono (by omega))).trans (hl6.belowB (B := w.heap.size) (by omega) (by simp)))
  have HW6 := Lib.hid hw6
  have HR6 := Lib.hid hR6
  obtain ⟨f0, f1, f2, f3, f4, f5⟩ := hA6.three
  clear hF5 hQ5 hL5 hb5 hA5 hR5 hl6 hA6 hR6 hOR hw6 d0 d1 d2 d3 d4 d5
  go_upto_region 4 with fail
  rw [← HW6.out]
  clear e0 e1 e2 e3 e4 e5
  go_wp2_with fail
  refine HO6.out.mono ?_
  rintro e w7 ⟨v7, rfl, ⟨fv7, qv7, rfl, hF7, hQ7⟩, hb7⟩
  obtain ⟨fo7, fc7, rfl, _, _⟩ := (Rd.of_own hF7).form
  obtain ⟨qo7, qc7, rfl, _, _⟩ := (Rd.of_own hQ7).form
  have hR7 := HR6.out.belowH hb7
  have hz7 := hb7.size
  obtain ⟨r0, r1, r2, r3, r4, r5⟩ := hR7.three
  have hl8 : Left [w.heap.size + 1] w7 (((w7.setCell ⟨w.heap.size + 1, 0, none⟩ (.int .i64 R.1.last)).setCell ⟨w.heap.size + 1, 1, none⟩ (.slice fo7 R.1.F.length fc7)).setCell ⟨w.heap.size + 1, 2, none⟩ (.slice qo7 R.1.Q.length qc7)) := (((Left.refl _ w7).setCell (Or.inl (by simp)) _).setCell (Or.inl (by simp)) _).setCell (Or.inl (by simp)) _
  have HRET := Lib.hid (((hR7.put 0 (.int .i64 R.1.last)).put 1 (.slice fo7 R.1.F.length fc7)).put 2 (.slice qo7 R.1.Q.length qc7))
  have HFF := Lib.hid (own_base (base' := w.heap.size) (own_left hF7 hl8 (by simp; omega)) (by omega))
  have HQQ := Lib.hid (own_base (base' := w.heap.size) (own_left hQ7 hl8 (by simp; omega)) (by omega))
  have HLL := Lib.hid (own_base (base' := w.heap.size) (own_left (own_below HL6.out hb7) hl8 (by simp; omega)) (by omega))
  have HBB := Lib.hid ((HB6.out.trans (hb7.mono (by omega))).trans (hl8.belowB (B := w.heap.size) (by omega) (by simp)))
  clear hF7 hQ7 hb7 hR7 hl8
  go_wp2
  (try simp only [Exit.inBlock, Exit.then])
  refine bodyPost_ret (results_row_tmp2 (P := Try.prog) (p := 4) (u := 5) (x := 6) (ty := 25) rfl _ _ (w.heap.size + 1) 25 _ (0, 0) _ rfl HRET.out Try.underlying25 rfl (by kernel_rfl)) rfl ?_
  exact ⟨_, _, rfl, ⟨_, _, rfl, HFF.out, HQQ.out⟩, HLL.out, HBB.out⟩
end Go.Proofs.Ytndidkaoigjbiaa
