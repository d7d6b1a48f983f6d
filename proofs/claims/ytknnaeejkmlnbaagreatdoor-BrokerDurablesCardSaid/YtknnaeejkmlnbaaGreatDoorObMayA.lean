/- The outbox: May, of any. -/



import Derived.Test.YtknnaeejkmlnbaaGreatDoorGb
import Derived.Test.YtknnaeejkmlnbaaGreatDoorGa
namespace Go.Proofs.YtknnaeejkmlnbaaGreatDoor
open Go.RowKit
/-- No text too long, not too many. -/
def ShO (o : OB) : Prop := o.F.length ≤ 1000000 ∧ o.Q.length ≤ 1000000 ∧ (∀ f ∈ o.F, ShortM f.m) ∧ ∀ m ∈ o.Q, ShortM m
theorem seen_old {F : List Fl} {k : Nat} {i : Int} (h : i ∈ ids (F.take k)) : look (seenL F k) i = some (.bool true) := by
  unfold look seenL
  obtain ⟨f, hf, rfl⟩ := List.mem_map.1 h
  have : ((F.take k).map fun f => (f.id, Value.bool true)).find? (fun p => p.1 == f.id) ≠ none := by
    intro hn
    rw [List.find?_eq_none] at hn
    exact hn (f.id, .bool true) (List.mem_map.2 ⟨f, hf, rfl⟩) (by simp)
  obtain ⟨p, hp⟩ := Option.ne_none_iff_exists'.1 this
  have hm := List.mem_of_find?_eq_some hp
  obtain ⟨g, _, rfl⟩ := List.mem_map.1 hm
  rw [hp]
  rfl
theorem seen_not {F : List Fl} {k : Nat} {i : Int} (h : i ∉ ids (F.take k)) : look (seenL F k) i = none := by
  unfold look seenL
  rw [Option.map_eq_none_iff, List.find?_eq_none]
  intro p hp
  obtain ⟨g, hg, rfl⟩ := List.mem_map.1 hp
  simp only [beq_iff_eq]
  intro e
  exact h (List.mem_map.2 ⟨g, hg, e⟩)
/-- At the label 'next': all so far may be. -/
def MNextA (w : World) (v fv qv : Value) (o : OB) (a' : Act) (w' : World) : Prop :=
  ∃ k : Nat, k ≤ o.F.length ∧ Below w.heap.size w w' ∧ Whole w' w.heap.size 59 [.int .i64 o.last, fv, qv] ∧ IMap w' (w.heap.size + 1) (seenL o.F k) ∧ Hid ((∀ f ∈ o.F.take k, okF f = true) ∧ (ids (o.F.take k)).Nodup) ∧
    ∃ u : Nat → Value, a' = { tmps := #[v, .pointer (some ⟨w.heap.size, 0, none⟩), .bool false, .int .i64 k, .map (some (w.heap.size + 1)), u 5, u 6, u 7, u 8, u 9, u 10, u 11, u 12, u 13, u 14, u 15, u 16, u 17, u 18, u 19, u 20, u 21, u 22, u 23, u 24, u 25, u 26, u 27, u 28, u 29, u 30, u 31, u 32, u 33, u 34, u 35, u 36, u 37, u 38, u 39, u 40, u 41, u 42, u 43, u 44, u 45, u 46, u 47, u 48, u 49, u 50, u 51, u 52, u 53, u 54, u 55, u 56, u 57, u 58, u 59, u 60, u 61, u 62, u 63, u 64, u 65, u 66, u 67, u 68, u 69, u 70, u 71, u 72, u 73, u 74, u 75, u 76], defers := [] }
def MBadA (w : World) (o : OB) (a' : Act) (w' : World) : Prop := Below w.heap.size w w' ∧ Hid (yes (okO o) = false) ∧ ∃ u : Nat → Value, a' = { tmps := #[u 0, u 1, u 2, u 3, u 4, u 5, u 6, u 7, u 8, u 9, u 10, u 11, u 12, u 13, u 14, u 15, u 16, u 17, u 18, u 19, u 20, u 21, u 22, u 23, u 24, u 25, u 26, u 27, u 28, u 29, u 30, u 31, u 32, u 33, u 34, u 35, u 36, u 37, u 38, u 39, u 40, u 41, u 42, u 43, u 44, u 45, u 46, u 47, u 48, u 49, u 50, u 51, u 52, u 53, u 54, u 55, u 56, u 57, u 58, u 59, u 60, u 61, u 62, u 63, u 64, u 65, u 66, u 67, u 68, u 69, u 70, u 71, u 72, u 73, u 74, u 75, u 76], defers := [] }
set_option maxRecDepth 20000 in
set_option maxHeartbeats 4000000 in
theorem omay_any (w : World) (v : Value) (o : OB) (h : OR w v o) (hs : ShO o) :
    Calls Tryz.prog 64 #[v] w fun e w' => e = .returned (.bool (yes (okO o))) ∧ Below w.heap.size w w' := by
  obtain ⟨last, F, Q⟩ := o
  obtain ⟨fv, qv, rfl, hF, hQ⟩ := h
  obtain ⟨hs1, hs2, hs3, hs4⟩ := hs
  simp only at hF hQ hs1 hs2 hs3 hs4
  obtain ⟨fo, fc, rfl, _, _⟩ := hF.form
  obtain ⟨qo, qc, rfl, _, _⟩ := hQ.form
  have HF := Lib.hid hF
  have HQ := Lib.hid hQ
  have HS3 := Lib.hid hs3
  have HS4 := Lib.hid hs4
  clear hF hQ hs3 hs4
  go_enter Tryz.func64, Tryz.ntmps64
  go_wp2
  refine wp_scope_falls2 1 (fun l a' w' => (l = 1 ∧ MNextA w (.agg #[.int .i64 last, .slice fo F.length fc, .slice qo Q.length qc]) (.slice fo F.length fc) (.slice qo Q.length qc) ⟨last, F, Q⟩ a' w' ∧ 0 ≤ last ∧ last ≤ 65535 ∧ F.length ≤ 4 ∧ Q.length ≤ 8) ∨ (l = 0 ∧ MBadA w ⟨last, F, Q⟩ a' w')) (fun l a' _ => if l = 1 then F.length + 2 - (intOf (a'.tmps.getD 3 undef)).toNat else 0) ?_ ?_
  · rintro l a' w' (⟨rfl, ⟨k, hkl, hb, hW, hM, HP, u, rfl⟩, hl1, hl2, hl3, hl4⟩ | ⟨rfl, hb, HB, u, rfl⟩)
    · refine ⟨_, rfl, ?_⟩
      simp only at hkl hM hW HP ⊢
      obtain ⟨a0, a1, a2, a3, a4, a5⟩ := hW.three
      by_cases hlt : k < F.length
      · obtain ⟨f, hf⟩ : ∃ f, F[k]? = some f := ⟨_, List.getElem?_eq_getElem hlt⟩
        obtain ⟨b2, off, rfl, hbl, hcs⟩ := Enc.rd_cell (E := eF) (HF.out.below hb) rfl hf
        obtain ⟨c0, c1, c2, c3, c4, c5⟩ := fl_cells (show w'.rangeAt b2 (off + k * 6) (eF.c f) from hcs)
        have hne : ((k : Int) == (F.length : Int)) = false := beq_eq_false_iff_ne.2 (by omega)
        have HM := Lib.hid hM
        have HW := Lib.hid hW
        have HFF := Lib.hid hf
        have hmem := List.mem_of_getElem? hf
        have HSH := Lib.hid (HS3.out f hmem)
        have HMS := Lib.hid (fun wx => message_any f.m wx HSH.out.1 HSH.out.2)
        have HBAD : Hid (¬ (okF f = true ∧ f.id ∉ ids (F.take k)) → yes (okO ⟨last, F, Q⟩) = false) := Lib.hid (fun hn => yes_false (fun hy => hn ⟨hy.2.2.2.2.1 f hmem, by
          intro hm
          have hnd := hy.2.2.2.2.2.1
          simp only at hnd
          have h1 : (ids (F.take (k + 1))).Nodup := List.Nodup.sublist (List.Sublist.map _ (List.take_sublist _ _)) hnd
          have h2 : ids (F.take (k + 1)) = ids (F.take k) ++ [f.id] := by unfold ids; rw [List.take_add_one, hf]; simp
          rw [h2, List.nodup_append] at h1
          exact h1.2.2 _ hm _ (by simp) rfl⟩))
        have HGOOD : Hid (okF f = true → f.id ∉ ids (F.take k) → (∀ f ∈ F.take (k + 1), okF f = true) ∧ (ids (F.take (k + 1))).Nodup) := Lib.hid (fun h1 h2 => by
          have e1 : F.take (k + 1) = F.take k ++ [f] := by rw [List.take_add_one, hf]; rfl
          rw [e1]
          refine ⟨fun g hg => ?_, ?_⟩
          · rcases List.mem_append.1 hg with h | h
            · exact HP.out.1 g h
            · rw [List.mem_singleton.1 h]; exact h1
          · have e2 : ids (F.take k ++ [f]) = ids (F.take k) ++ [f.id] := by simp [ids]
            rw [e2, List.nodup_append]
            exact ⟨HP.out.2, by simp, fun a ha b hb e => by
              simp only [List.mem_singleton] at hb
              rw [← hb, ← e] at h2
              exact h2 ha⟩)
        clear hM hW hcs hf hmem
        obtain ⟨wa, hwa⟩ : ∃ wa, wa = w'.alloc (.cells #[.int .i64 f.id, .string f.m.t, .string f.m.p, .int .i64 f.m.q, .bool f.m.r, .bool f.rc] 108) := ⟨_, rfl⟩
        have hba : Below w'.heap.size w' wa := by rw [hwa]; go_grown
        have hWf : Whole wa w'.heap.size 108 [.int .i64 f.id, .string f.m.t, .string f.m.p, .int .i64 f.m.q, .bool f.m.r, .bool f.rc] := by rw [hwa]; exact Whole.new w' 108 _
        have f0 : wa.cell? ⟨w'.heap.size, 0, none⟩ = some (.int .i64 f.id) := hWf.cell 0
        have f1 : wa.cell? ⟨w'.heap.size, 1, none⟩ = some (.string f.m.t) := hWf.cell 1
        have f2 : wa.cell? ⟨w'.heap.size, 2, none⟩ = some (.string f.m.p) := hWf.cell 2
        have f3 : wa.cell? ⟨w'.heap.size, 3, none⟩ = some (.int .i64 f.m.q) := hWf.cell 3
        have f4 : wa.cell? ⟨w'.heap.size, 4, none⟩ = some (.bool f.m.r) := hWf.cell 4
        have f5 : wa.cell? ⟨w'.heap.size, 5, none⟩ = some (.bool f.rc) := hWf.cell 5
        have hzb := hb.size
        have hMa : IMap wa (w.heap.size + 1) (seenL F k) := HM.out.keep (hba.block _ HM.out.lt)
        have hrun := run_look (P := Tryz.prog) (w := wa) (t := 84) hMa Tryz.underlying84 Tryz.underlying3 (zero_bool wa) f.id
        have hbwa := hb.trans (hba.mono hb.size)
        go_upto_region 7 with fail
        clear c0 c1 c2 c3 c4 c5
        rw [← hwa]
        have HWA := Lib.hid hwa
        have HMA := Lib.hid hMa
        have HWF := Lib.hid hWf
        have HBA := Lib.hid hba
        have HB0 := Lib.hid hb
        clear hwa hMa hWf hba hb
        have HUP := Lib.hid (fun (w1 : World) (hb1 : Below wa.heap.size wa w1) => run_update_imap (P := Tryz.prog) (w := w1) (t := 84) (HMA.out.keep (hb1.block _ HMA.out.lt)) Tryz.underlying84 Tryz.underlying3 f.id (.bool true))
        have HFIN : Hid (∀ w1 w2 : World, f.id ∉ ids (F.take k) → Below wa.heap.size wa w1 → Left [w.heap.size + 1] w1 w2 → ((look (seenL F k) f.id = none ∧ IMap w2 (w.heap.size + 1) (seenL F k ++ [(f.id, .bool true)])) ∨ ∃ (j : Nat) (v0 : Value), (seenL F k)[j]? = some (f.id, v0) ∧ IMap w2 (w.heap.size + 1) ((seenL F k).set j (f.id, .bool true))) →
            Below w.heap.size w w2 ∧ Whole w2 w.heap.size 59 [.int .i64 last, .slice (some ⟨b2, off, none⟩) F.length fc, .slice qo Q.length qc] ∧ IMap w2 (w.heap.size + 1) (seenL F (k + 1))) := Lib.hid (by
          intro w1 w2 hni hb1 hl hc
          have hzw := HW.out.lt
          have hza := HBA.out.size
          have hz1 := hb1.size
          have hbb := HB0.out.trans ((HBA.out.mono (by omega : w.heap.size ≤ w'.heap.size)).trans (hb1.mono (by omega)))
          refine ⟨hbb.trans (hl.belowB (by omega) (by simp)), ((HW.out.belowH HBA.out).belowH hb1).left hl (by simp), ?_⟩
          rcases hc with ⟨_, hc⟩ | ⟨j, v0, hj, _⟩
          · rw [seen_next HFF.out]; exact hc
          · exact absurd rfl (look_none (seen_not hni) _ (List.mem_of_getElem? hj)))
        have hsz77 : Hid (∀ w2, Below wa.heap.size wa w2 → Below w.heap.size w w2) := Lib.hid (fun w2 h2 => hbwa.trans (h2.mono hbwa.size))
        have HOK : Hid (∀ g, okF f = g → (decide (1 ≤ f.id) && decide (f.id ≤ 65535) && okM f.m && (!f.rc || decide (f.m.q = 2))) = g) := Lib.hid (fun g h => h)
        by_cases p1 : 1 ≤ f.id
        · by_cases p2 : f.id ≤ 65535
          · have e12 : (decide (1 ≤ f.id) && decide (f.id ≤ 65535)) = true := by simp [p1, p2]
            by_cases p3 : f.id ∈ ids (F.take k)
            · have HB := Lib.hid (HBAD.out (fun h => h.2 p3))
              rw [seen_old p3] at hrun
              simp only [Option.getD_some] at hrun
              clear p3 e12
              go_wp2
              go_step3
              refine (by assumption : ∀ (a : Act) (w : World), Code.wp _ _ _ a w → _) _ _ ?_
              go_wp2
              simp only [exitJumps]
              go_ret
              exact ⟨by rw [HB.out]; rfl, hbwa⟩
            · have hlk := seen_not p3
              rw [hlk] at hrun
              simp only [Option.getD_none] at hrun
              clear hlk
              cases pm : okM f.m
              · have HB := Lib.hid (HBAD.out (fun h => by have := HOK.out _ h.1; rw [pm] at this; simp at this))
                rw [pm] at HMS
                clear p3 e12 pm
                go_wp2_with (go_at_call 106; refine (HMS.out _).mono ?_; rintro e w1 ⟨rfl, hb1⟩; have g0 := b_cell hb1 f0; have g5 := b_cell hb1 f5; have g3' := b_cell hb1 f3; have hbw1 := hsz77.out _ hb1)
                go_step3
                refine (by assumption : ∀ (a : Act) (w : World), Code.wp _ _ _ a w → _) _ _ ?_
                go_wp2
                simp only [exitJumps]
                go_ret
                exact ⟨by rw [HB.out]; rfl, hbw1⟩
              · rw [pm] at HMS
                cases hrc : f.rc
                · rw [hrc] at f5
                  have hokf : okF f = true := by unfold okF; rw [e12, pm, hrc]; rfl
                  have HG := Lib.hid (HGOOD.out hokf p3)
                  have HP3 := Lib.hid p3
                  clear p3 e12 pm hrc hokf
                  go_wp2_with (go_at_call 106; refine (HMS.out _).mono ?_; rintro e w1 ⟨rfl, hb1⟩; have g0 := b_cell hb1 f0; have g5 := b_cell hb1 f5; have g3' := b_cell hb1 f3; obtain ⟨w2, hrun2, hl2, hc2⟩ := HUP.out w1 hb1; have HF2 := Lib.hid (HFIN.out w1 w2 HP3.out hb1 hl2 hc2); clear hl2 hc2)
                  go_step3
                  exact ⟨Or.inl ⟨rfl, ⟨k + 1, by simp; omega, HF2.out.1, HF2.out.2.1, HF2.out.2.2, HG, frm_any (by go_num)⟩, hl1, hl2, hl3, hl4⟩, by simp [intOf]; omega⟩
                · rw [hrc] at f5
                  by_cases p5 : f.m.q = 2
                  · have hokf : okF f = true := by unfold okF; rw [e12, pm, hrc, decide_eq_true p5]; rfl
                    have HG := Lib.hid (HGOOD.out hokf p3)
                    have HP3 := Lib.hid p3
                    have hq2 : (f.m.q == 2) = true := beq_iff_eq.2 p5
                    clear p3 e12 pm hrc hokf p5
                    go_wp2_with (go_at_call 106; refine (HMS.out _).mono ?_; rintro e w1 ⟨rfl, hb1⟩; have g0 := b_cell hb1 f0; have g5 := b_cell hb1 f5; have g3' := b_cell hb1 f3; obtain ⟨w2, hrun2, hl2, hc2⟩ := HUP.out w1 hb1; have HF2 := Lib.hid (HFIN.out w1 w2 HP3.out hb1 hl2 hc2); clear hl2 hc2)
                    go_step3
                    exact ⟨Or.inl ⟨rfl, ⟨k + 1, by simp; omega, HF2.out.1, HF2.out.2.1, HF2.out.2.2, HG, frm_any (by go_num)⟩, hl1, hl2, hl3, hl4⟩, by simp [intOf]; omega⟩
                  · have hokf : ¬ okF f = true := by unfold okF; rw [e12, pm, hrc, decide_eq_false p5]; simp
                    have HB := Lib.hid (HBAD.out (fun h => hokf h.1))
                    have hq2 : (f.m.q == 2) = false := beq_eq_false_iff_ne.2 p5
                    clear p3 e12 pm hrc hokf p5
                    go_wp2_with (go_at_call 106; refine (HMS.out _).mono ?_; rintro e w1 ⟨rfl, hb1⟩; have g0 := b_cell hb1 f0; have g5 := b_cell hb1 f5; have g3' := b_cell hb1 f3; have hbw1 := hsz77.out _ hb1)
                    go_step3
                    refine (by assumption : ∀ (a : Act) (w : World), Code.wp _ _ _ a w → _) _ _ ?_
                    go_wp2
                    simp only [exitJumps]
                    go_ret
                    exact ⟨by rw [HB.out]; rfl, hbw1⟩
          · have HB := Lib.hid (HBAD.out (fun h => by have := HOK.out _ h.1; simp [p2] at this))
            go_wp2
            go_step3
            refine (by assumption : ∀ (a : Act) (w : World), Code.wp _ _ _ a w → _) _ _ ?_
            go_wp2
            simp only [exitJumps]
            go_ret
            exact ⟨by rw [HB.out]; rfl, hbwa⟩
        · have HB := Lib.hid (HBAD.out (fun h => by have := HOK.out _ h.1; simp [p1] at this))
          go_wp2
          go_step3
          refine (by assumption : ∀ (a : Act) (w : World), Code.wp _ _ _ a w → _) _ _ ?_
          go_wp2
          simp only [exitJumps]
          go_ret
          exact ⟨by rw [HB.out]; rfl, hbwa⟩
      · have e : k = F.length := by omega
        subst e
        have HC := Lib.hid (ContM_any w' _ Q w.heap.size (HQ.out.below hb) hb.size (by omega) HS4.out)
        have HE : Hid (yes (okO ⟨last, F, Q⟩) = Q.all okM) := Lib.hid (by
          have h1 := HP.out.1
          have h2 := HP.out.2
          rw [List.take_length] at h1 h2
          cases hq : Q.all okM
          · refine yes_false (fun h => ?_)
            rw [List.all_eq_false] at hq
            obtain ⟨m, hm, hf⟩ := hq
            exact hf (h.2.2.2.2.2.2 m hm)
          · exact yes_true ⟨hl1, hl2, hl3, hl4, h1, h2, List.all_eq_true.1 hq⟩)
        obtain ⟨z, hz⟩ : ∃ z, Q.all okM = z := ⟨_, rfl⟩
        rw [hz] at HC HE
        clear hM hW hz
        cases z
        all_goals
          go_wp2_with fail
          refine HC.out.mono ?_
          rintro e w1 ⟨rfl, hb1⟩
          have hb2 := b_tr hb hb1
          go_wp2
          simp only [exitJumps]
          go_ret
          exact ⟨by rw [HE.out]; rfl, hb2⟩
    · refine ⟨_, rfl, ?_⟩
      go_wp2
      simp only [exitJumps]
      go_ret
      exact ⟨by rw [HB.out]; rfl, hb⟩
  · intro hgo
    have HGO := Lib.hid hgo
    clear hgo
    have hrun := @run_makeMap Tryz.prog
    have hbA : Hid (Below w.heap.size w ((w.alloc (.cells #[.int .i64 last, .slice fo F.length fc, .slice qo Q.length qc] 59)).alloc (.map #[] 0))) := Lib.hid (by go_grown)
    by_cases g1 : last < 0
    · have HB : Hid (yes (okO ⟨last, F, Q⟩) = false) := Lib.hid (yes_false (fun h => by have := h.1; simp only at this; omega))
      go_wp2
      go_step3
      exact Or.inr ⟨rfl, hbA.out, HB, frm_any rfl⟩
    · by_cases g2 : 65535 < last
      · have HB : Hid (yes (okO ⟨last, F, Q⟩) = false) := Lib.hid (yes_false (fun h => by have := h.2.1; simp only at this; omega))
        go_wp2
        go_step3
        exact Or.inr ⟨rfl, hbA.out, HB, frm_any rfl⟩
      · by_cases g3 : 4 < (F.length : Int)
        · have HB : Hid (yes (okO ⟨last, F, Q⟩) = false) := Lib.hid (yes_false (fun h => by have := h.2.2.1; simp only at this; omega))
          have g3' : 4 < F.length := by omega
          go_wp2
          go_step3
          exact Or.inr ⟨rfl, hbA.out, HB, frm_any rfl⟩
        · have g3' : ¬ (4 < F.length) := by omega
          by_cases g4 : 8 < (Q.length : Int)
          · have HB : Hid (yes (okO ⟨last, F, Q⟩) = false) := Lib.hid (yes_false (fun h => by have := h.2.2.2.1; simp only at this; omega))
            have g4' : 8 < Q.length := by omega
            go_wp2
            go_step3
            exact Or.inr ⟨rfl, hbA.out, HB, frm_any rfl⟩
          · have g4' : ¬ (8 < Q.length) := by omega
            go_wp2_with fail
            go_step3
            refine (by assumption : ∀ (a : Act) (w : World), Code.wp _ _ _ a w → _) _ _ ?_
            refine HGO.out _ _ _ rfl (Or.inl ⟨by trivial, ⟨0, by simp, hbA.out, (Whole.new w 59 _).alloc _, by simpa [seenL] using IMap.new (w.alloc (.cells #[.int .i64 last, .slice fo F.length fc, .slice qo Q.length qc] 59)), Lib.hid ⟨by simp, by simp [ids]⟩, frm_any rfl⟩, by omega, by omega, by omega, by omega⟩)
end Go.Proofs.YtknnaeejkmlnbaaGreatDoor
