/- The outbox: May, of one that may be. -/



import Derived.Test.YtndidkaoigjbiaaObMay
import Derived.Test.YtndidkaoigjbiaaTpScope
import Derived.Test.YtndidkaoigjbiaaRng
import Derived.Test.YtndidkaoigjbiaaSplit
namespace Go.Proofs.Ytndidkaoigjbiaa
open Go.RowKit
theorem zero_bool (w : World) : (zeroValue 4).run Try.prog w = .ok (.bool false) w := by kernel_rfl
theorem short_ok {m : Msg} (h : okM m = true) : ShortM m := by
  simp only [okM, Bool.and_eq_true, decide_eq_true_eq] at h
  unfold ShortM
  omega
def seenL (F : List Fl) (k : Nat) : List (Int × Value) := (F.take k).map fun f => (f.id, .bool true)
theorem seen_new {F : List Fl} {k : Nat} {f : Fl} (hn : (ids F).Nodup) (hf : F[k]? = some f) : look (seenL F k) f.id = none := by
  unfold look seenL
  rw [Option.map_eq_none_iff, List.find?_eq_none]
  intro p hp
  obtain ⟨g, hg, rfl⟩ := List.mem_map.1 hp
  obtain ⟨j, hj, hje⟩ := List.getElem_of_mem hg
  simp only [beq_iff_eq]
  intro e
  rw [List.length_take] at hj
  rw [List.getElem_take] at hje
  have hkl := (List.getElem?_eq_some_iff.1 hf).1
  have hke := (List.getElem?_eq_some_iff.1 hf).2
  have h1 : (ids F)[j]? = some f.id := by rw [ids_at (f := g) (by rw [List.getElem?_eq_getElem (by omega), hje]), e]
  have h2 : (ids F)[k]? = some f.id := ids_at hf
  have := (List.getElem?_inj (by rw [ids_len]; omega) hn).1 (h1.trans h2.symm)
  omega
theorem seen_next {F : List Fl} {k : Nat} {f : Fl} (hf : F[k]? = some f) : seenL F (k + 1) = seenL F k ++ [(f.id, .bool true)] := by
  unfold seenL
  rw [List.take_add_one, hf]
  simp
/-- At the label 'next'. -/
def MNext (w : World) (v fv qv : Value) (o : OB) (a' : Act) (w' : World) : Prop :=
  ∃ k : Nat, k ≤ o.F.length ∧ Below w.heap.size w w' ∧ Whole w' w.heap.size 25 [.int .i64 o.last, fv, qv] ∧ IMap w' (w.heap.size + 1) (seenL o.F k) ∧
    ∃ u5 u6 u7 u8 u9 u10 u11 u12 u13 u14 u15 u16 u17 u18 u19 u20 u21 u22 u23 u24 u25 u26 u27 u28 u29 u30 u31 u32 u33 u34 u35 u36 u37 u38 u39 u40 u41 u42 u43 u44 u45 u46 u47 u48 u49 u50 u51 u52 u53 u54 u55 u56 u57 u58 u59 u60 u61 u62 u63 u64 u65 u66 u67 u68 u69 u70 u71 u72 u73 u74 u75 u76 : Value, a' = { tmps := #[v, .pointer (some ⟨w.heap.size, 0, none⟩), .bool false, .int .i64 k, .map (some (w.heap.size + 1)), u5, u6, u7, u8, u9, u10, u11, u12, u13, u14, u15, u16, u17, u18, u19, u20, u21, u22, u23, u24, u25, u26, u27, u28, u29, u30, u31, u32, u33, u34, u35, u36, u37, u38, u39, u40, u41, u42, u43, u44, u45, u46, u47, u48, u49, u50, u51, u52, u53, u54, u55, u56, u57, u58, u59, u60, u61, u62, u63, u64, u65, u66, u67, u68, u69, u70, u71, u72, u73, u74, u75, u76], defers := [] }
set_option maxRecDepth 20000 in
set_option maxHeartbeats 4000000 in
theorem May_ok (w : World) (v : Value) (o : OB) (h : OR w v o) (hk : okO o) :
    Calls Try.prog 15 #[v] w fun e w' => e = .returned (.bool true) ∧ Below w.heap.size w w' := by
  obtain ⟨last, F, Q⟩ := o
  obtain ⟨fv, qv, rfl, hF, hQ⟩ := h
  obtain ⟨hk1, hk2, hk3, hk4, hk5, hk6, hk7⟩ := hk
  simp only at hF hQ hk1 hk2 hk3 hk4 hk5 hk6 hk7
  obtain ⟨fo, fc, rfl, _, _⟩ := hF.form
  obtain ⟨qo, qc, rfl, _, _⟩ := hQ.form
  have HF := Lib.hid hF
  have HQ := Lib.hid hQ
  have H5 := Lib.hid hk5
  have H6 := Lib.hid hk6
  have H7 := Lib.hid hk7
  have g1 : ¬ (last < 0) := by omega
  have g2 : ¬ (65535 < last) := by omega
  have g3 : ¬ (4 < (F.length : Int)) := by omega
  have g4 : ¬ (8 < (Q.length : Int)) := by omega
  clear hF hQ hk5 hk6 hk7
  go_enter Try.func15, Try.ntmps15
  go_wp2
  refine wp_scope_falls2 1 (fun l a' w' => l = 1 ∧ MNext w (.agg #[.int .i64 last, .slice fo F.length fc, .slice qo Q.length qc]) (.slice fo F.length fc) (.slice qo Q.length qc) ⟨last, F, Q⟩ a' w') (fun l a' _ => F.length + 1 - (intOf (a'.tmps.getD 3 undef)).toNat) ?_ ?_
  · rintro l a' w' ⟨rfl, k, hkl, hb, hW, hM, u5, u6, u7, u8, u9, u10, u11, u12, u13, u14, u15, u16, u17, u18, u19, u20, u21, u22, u23, u24, u25, u26, u27, u28, u29, u30, u31, u32, u33, u34, u35, u36, u37, u38, u39, u40, u41, u42, u43, u44, u45, u46, u47, u48, u49, u50, u51, u52, u53, u54, u55, u56, u57, u58, u59, u60, u61, u62, u63, u64, u65, u66, u67, u68, u69, u70, u71, u72, u73, u74, u75, u76, rfl⟩
    refine ⟨_, rfl, ?_⟩
    simp only at hkl hM hW ⊢
    obtain ⟨a0, a1, a2, a3, a4, a5⟩ := hW.three
    by_cases hlt : k < F.length
    · obtain ⟨f, hf⟩ : ∃ f, F[k]? = some f := ⟨_, List.getElem?_eq_getElem hlt⟩
      obtain ⟨b2, off, rfl, hbl, hcs⟩ := Enc.rd_cell (E := eF) (HF.out.below hb) rfl hf
      obtain ⟨c0, c1, c2, c3, c4, c5⟩ := fl_cells (show w'.rangeAt b2 (off + k * 6) (eF.c f) from hcs)
      have hne : ((k : Int) == (F.length : Int)) = false := beq_eq_false_iff_ne.2 (by omega)
      have HM := Lib.hid hM
      have HW := Lib.hid hW
      have HFF := Lib.hid hf
      clear hM hW hcs hf
      have hok := H5.out f (List.mem_of_getElem? HFF.out)
      simp only [okF, Bool.and_eq_true, decide_eq_true_eq, Bool.or_eq_true, Bool.not_eq_true'] at hok
      obtain ⟨⟨⟨p1, p2⟩, pm⟩, p4⟩ := hok
      have HSH := short_ok pm
      have HMS := Lib.hid (fun wx => message_any f.m wx HSH.1 HSH.2)
      rw [pm] at HMS
      have HLK := seen_new H6.out HFF.out
      obtain ⟨wa, hwa⟩ : ∃ wa, wa = w'.alloc (.cells #[.int .i64 f.id, .string f.m.t, .string f.m.p, .int .i64 f.m.q, .bool f.m.r, .bool f.rc] 61) := ⟨_, rfl⟩
      have hba : Below w'.heap.size w' wa := by rw [hwa]; go_grown
      have hWf : Whole wa w'.heap.size 61 [.int .i64 f.id, .string f.m.t, .string f.m.p, .int .i64 f.m.q, .bool f.m.r, .bool f.rc] := by rw [hwa]; exact Whole.new w' 61 _
      have f0 : wa.cell? ⟨w'.heap.size, 0, none⟩ = some (.int .i64 f.id) := hWf.cell 0
      have f1 : wa.cell? ⟨w'.heap.size, 1, none⟩ = some (.string f.m.t) := hWf.cell 1
      have f2 : wa.cell? ⟨w'.heap.size, 2, none⟩ = some (.string f.m.p) := hWf.cell 2
      have f3 : wa.cell? ⟨w'.heap.size, 3, none⟩ = some (.int .i64 f.m.q) := hWf.cell 3
      have f4 : wa.cell? ⟨w'.heap.size, 4, none⟩ = some (.bool f.m.r) := hWf.cell 4
      have f5 : wa.cell? ⟨w'.heap.size, 5, none⟩ = some (.bool f.rc) := hWf.cell 5
      have hzb := hb.size
      have hMa : IMap wa (w.heap.size + 1) (seenL F k) := HM.out.keep (hba.block _ HM.out.lt)
      have hrun := run_look (P := Try.prog) (w := wa) (t := 66) hMa Try.underlying66 Try.underlying3 (zero_bool wa) f.id
      rw [HLK] at hrun
      simp only [Option.getD_none] at hrun
      have HLKN := Lib.hid HLK
      have HWA := Lib.hid hwa
      have HMA := Lib.hid hMa
      have HWF := Lib.hid hWf
      have HBA := Lib.hid hba
      clear HLK hwa hMa hWf hba pm
      go_upto_region 7 with fail
      rw [← HWA.out]
      clear c0 c1 c2 c3 c4 c5
      have HP4 := Lib.hid p4
      clear p4
      have HB := Lib.hid hb
      have HUP := Lib.hid (fun (w1 : World) (hb1 : Below wa.heap.size wa w1) => run_update_imap (P := Try.prog) (w := w1) (t := 66) (HMA.out.keep (hb1.block _ HMA.out.lt)) Try.underlying66 Try.underlying3 f.id (.bool true))
      have HFIN : Hid (∀ w1 w2 : World, Below wa.heap.size wa w1 → Left [w.heap.size + 1] w1 w2 → ((look (seenL F k) f.id = none ∧ IMap w2 (w.heap.size + 1) (seenL F k ++ [(f.id, .bool true)])) ∨ ∃ (j : Nat) (v0 : Value), (seenL F k)[j]? = some (f.id, v0) ∧ IMap w2 (w.heap.size + 1) ((seenL F k).set j (f.id, .bool true))) →
          Below w.heap.size w w2 ∧ Whole w2 w.heap.size 25 [.int .i64 last, .slice (some ⟨b2, off, none⟩) F.length fc, .slice qo Q.length qc] ∧ IMap w2 (w.heap.size + 1) (seenL F (k + 1))) := Lib.hid (by
        intro w1 w2 hb1 hl hc
        have hzw := HW.out.lt
        have hza := HBA.out.size
        have hz1 := hb1.size
        have hbb := HB.out.trans ((HBA.out.mono (by omega : w.heap.size ≤ w'.heap.size)).trans (hb1.mono (by omega)))
        refine ⟨hbb.trans (hl.belowB (by omega) (by simp)), ((HW.out.belowH HBA.out).belowH hb1).left hl (by simp), ?_⟩
        rcases hc with ⟨_, hc⟩ | ⟨j, v0, hj, _⟩
        · rw [seen_next HFF.out]; exact hc
        · exact absurd rfl (look_none HLKN.out _ (List.mem_of_getElem? hj)))
      clear hb
      cases hrc : f.rc
      · rw [hrc] at f5
        have HRC := Lib.hid hrc
        clear hrc
        go_wp2_with (go_at_call 16; refine (HMS.out _).mono ?_; rintro e w1 ⟨rfl, hb1⟩; have g0 := b_cell hb1 f0; have g5 := b_cell hb1 f5; have g3' := b_cell hb1 f3; obtain ⟨w2, hrun2, hl2, hc2⟩ := HUP.out w1 hb1; have HF2 := Lib.hid (HFIN.out w1 w2 hb1 hl2 hc2); clear hl2 hc2)
        go_step3
        exact ⟨⟨rfl, k + 1, by simp; omega, HF2.out.1, HF2.out.2.1, HF2.out.2.2, _, _, _, _, _, _, _, _, _, _, _, _, _, _, _, _, _, _, _, _, _, _, _, _, _, _, _, _, _, _, _, _, _, _, _, _, _, _, _, _, _, _, _, _, _, _, _, _, _, _, _, _, _, _, _, _, _, _, _, _, _, _, _, _, _, _, _, _, _, _, _, _, rfl⟩, by simp [intOf]; omega⟩
      · rw [hrc] at f5
        have HRC := Lib.hid hrc
        have hq2 : (f.m.q == 2) = true := beq_iff_eq.2 (by have := HP4.out; rw [hrc] at this; simpa using this)
        clear hrc
        go_wp2_with (go_at_call 16; refine (HMS.out _).mono ?_; rintro e w1 ⟨rfl, hb1⟩; have g0 := b_cell hb1 f0; have g5 := b_cell hb1 f5; have g3' := b_cell hb1 f3; obtain ⟨w2, hrun2, hl2, hc2⟩ := HUP.out w1 hb1; have HF2 := Lib.hid (HFIN.out w1 w2 hb1 hl2 hc2); clear hl2 hc2)
        go_step3
        exact ⟨⟨rfl, k + 1, by simp; omega, HF2.out.1, HF2.out.2.1, HF2.out.2.2, _, _, _, _, _, _, _, _, _, _, _, _, _, _, _, _, _, _, _, _, _, _, _, _, _, _, _, _, _, _, _, _, _, _, _, _, _, _, _, _, _, _, _, _, _, _, _, _, _, _, _, _, _, _, _, _, _, _, _, _, _, _, _, _, _, _, _, _, _, _, _, _, rfl⟩, by simp [intOf]; omega⟩
    · have e : k = F.length := by omega
      subst e
      have HC := Lib.hid (ContM_any w' _ Q w.heap.size (HQ.out.below hb) hb.size (by omega) (fun m hm => short_ok (H7.out m hm)))
      have hall : Q.all okM = true := List.all_eq_true.2 H7.out
      rw [hall] at HC
      clear hM hW hall
      go_wp2_with fail
      refine HC.out.mono ?_
      rintro e w1 ⟨rfl, hb1⟩
      have hb2 := b_tr hb hb1
      go_wp2
      simp only [exitJumps]
      go_ret
      exact ⟨rfl, hb2⟩
  · intro hgo
    have HGO := Lib.hid hgo
    clear hgo
    have hrun := @run_makeMap Try.prog
    go_wp2_with fail
    go_step3
    refine (by assumption : ∀ (a : Act) (w : World), Code.wp _ _ _ a w → _) _ _ ?_
    refine HGO.out _ _ _ rfl ⟨by trivial, 0, by simp, by go_grown, (Whole.new w 25 _).alloc _, by simpa [seenL] using IMap.new (w.alloc (.cells #[.int .i64 last, .slice fo F.length fc, .slice qo Q.length qc] 25)), _, _, _, _, _, _, _, _, _, _, _, _, _, _, _, _, _, _, _, _, _, _, _, _, _, _, _, _, _, _, _, _, _, _, _, _, _, _, _, _, _, _, _, _, _, _, _, _, _, _, _, _, _, _, _, _, _, _, _, _, _, _, _, _, _, _, _, _, _, _, _, _, rfl⟩
end Go.Proofs.Ytndidkaoigjbiaa
