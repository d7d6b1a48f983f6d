/- OutboxOnce: the walk. -/



import Derived.Test.YtndidkaoigjbiaaObTail
import Derived.Deep.LoopGhost
import Derived.Deep.CutBlock
import Derived.Test.YtndidkaoigjbiaaObChk
import Derived.BigRegion
import Derived.Deep.QuietTactic
namespace Go.Proofs.Ytndidkaoigjbiaa
open Go.RowKit
set_option maxRecDepth 40000 in
set_option maxHeartbeats 8000000 in
theorem OutboxOnce_any (w : World) (last : Int) (fv qv lv : Value) (F : List Fl) (Q : List Msg) (A : List AC) (hF : Rd w w.heap.size 6 fv F.length (eF.cells F)) (hQ : Rd w w.heap.size 4 qv Q.length (eM.cells Q)) (hA : Rd w w.heap.size 8 lv A.length (eA.cells A)) :
    Calls Try.prog 3 #[.agg #[.int .i64 last, fv, qv, lv]] w fun e w' => e = .returned (.bool true) ∧ Below w.heap.size w w' := by
  obtain ⟨fo, fc, rfl, _, _⟩ := hF.form
  obtain ⟨qo, qc, rfl, _, _⟩ := hQ.form
  obtain ⟨ao, cap, rfl, hcc, hm⟩ := hA.form
  have hm' : cap ≤ 9223372036854775807 := by unfold maxLen at hm; omega
  obtain ⟨w0, hw0⟩ : ∃ w0, w0 = w.alloc (.cells #[.int .i64 last, .slice fo F.length fc, .slice qo Q.length qc, .slice ao A.length cap] 28) := ⟨_, rfl⟩
  have hb0 : Below w.heap.size w w0 := by rw [hw0]; go_grown
  have hW0 : Whole w0 w.heap.size 28 [.int .i64 last, .slice fo F.length fc, .slice qo Q.length qc, .slice ao A.length cap] := by rw [hw0]; exact Whole.new w 28 _
  have HH := Lib.hid (heavy_any w0 last _ _ _ F Q A ((hF.below hb0).more hb0.size) ((hQ.below hb0).more hb0.size) ((hA.below hb0).more hb0.size))
  have a0 : w0.cell? ⟨w.heap.size, 0, none⟩ = some (.int .i64 last) := hW0.cell 0
  have a1 : w0.cell? ⟨w.heap.size, 1, none⟩ = some (.slice fo F.length fc) := hW0.cell 1
  have a2 : w0.cell? ⟨w.heap.size, 2, none⟩ = some (.slice qo Q.length qc) := hW0.cell 2
  have a3 : w0.cell? ⟨w.heap.size, 3, none⟩ = some (.slice ao A.length cap) := hW0.cell 3
  have HAA := Lib.hid hA
  have HW0 := Lib.hid hW0
  have HB0 := Lib.hid hb0
  have HW := Lib.hid hw0
  clear hF hQ hA hm hw0 hb0 hW0
  go_enter Try.func3, Try.ntmps3
  go_upto_region 1 with fail
  rw [← HW.out]
  go_wp2_with fail
  refine HH.out.mono ?_
  rintro e w1 ⟨b, rfl, hb1⟩
  have HB1 := Lib.hid (b_tr HB0.out hb1)
  have HW1 := Lib.hid (HW0.out.belowH hb1)
  clear a0 a1 a2 a3 hb1
  cases b
  · obtain ⟨Zs, hZs⟩ : ∃ Z : Array Value, Z = (List.replicate 65 (Value.int .i64 0)).toArray := ⟨_, rfl⟩
    obtain ⟨Zr, hZr⟩ : ∃ Z : Array Value, Z = (List.replicate 65 (Value.bool false)).toArray := ⟨_, rfl⟩
    have hz1 : ∀ w, (zeroValue 30).run Try.prog w = .ok (.agg Zs) w := by rw [hZs]; exact fun w => by kernel_rfl
    have hz2 : ∀ w, (zeroValue 31).run Try.prog w = .ok (.agg Zr) w := by rw [hZr]; exact fun w => by kernel_rfl
    have HZS := Lib.hid hZs
    have HZR := Lib.hid hZr
    obtain ⟨O, hO⟩ : ∃ O, w1.heap.size = O := ⟨_, rfl⟩
    have hOw : w.heap.size < O := by have := HW1.out.lt; omega
    have HO := Lib.hid hO
    clear hZs hZr
    go_upto_block 0 with fail
    clear hz1 hz2
    have HI0 : Hid (LF w O [Value.int .i64 last, .slice fo F.length fc, .slice qo Q.length qc, .slice ao A.length cap] (((w1.alloc (.cells #[.int .i64 0, .slice none 0 0, .slice none 0 0] 25)).alloc (.cells Zs 30)).alloc (.cells Zr 31)) ⟨0, [], []⟩ [] (.slice none 0 0) ∧ LA O (((w1.alloc (.cells #[.int .i64 0, .slice none 0 0, .slice none 0 0] 25)).alloc (.cells Zs 30)).alloc (.cells Zr 31)) (List.replicate 65 0) (List.replicate 65 false)) := Lib.hid (by
      subst hO
      have hO1 := (((Whole.new w1 25 [.int .i64 0, .slice none 0 0, .slice none 0 0]).alloc (.cells Zs 30)).alloc (.cells Zr 31))
      refine ⟨⟨((HW1.out.alloc _).alloc _).alloc _, ⟨_, _, hO1, World.ownsRow_nil _ _ _ _, World.ownsRow_nil _ _ _ _⟩, Row.nil_ _ _ _ _, HB1.out.trans (by go_grown), hOw, by simp; omega⟩, ?_, ?_⟩
      · have h1 := (Whole.new (w1.alloc (.cells #[.int .i64 0, .slice none 0 0, .slice none 0 0] 25)) 30 (List.replicate 65 (.int .i64 0))).alloc (.cells Zr 31)
        rw [HZS.out, List.map_replicate]
        simpa using h1
      · have h1 := Whole.new ((w1.alloc (.cells #[.int .i64 0, .slice none 0 0, .slice none 0 0] 25)).alloc (.cells Zs 30)) 31 (List.replicate 65 (.bool false))
        rw [HZR.out, List.map_replicate]
        simpa using h1)
    go_cut [4, 5, 6, 9] (fun tk cm u wv wx => ∃ (o : OB) (taken came : Nat) (up : Bool) (seen : List Int) (recd : List Bool) (wait : List Pk), tk = .int .i64 taken ∧ cm = .int .i64 came ∧ u = .bool up ∧ Hid (LF w O [Value.int .i64 last, .slice fo F.length fc, .slice qo Q.length qc, .slice ao A.length cap] wx o wait wv) ∧ Hid (Inv o taken came seen recd up wait))
    case first => as_aux_lemma =>
      go_wp2_with fail
      go_loopg [4, 5, 6, 9, 10] A.length (fun g tk cm u wv i wr => Turn w O [Value.int .i64 last, .slice fo F.length fc, .slice qo Q.length qc, .slice ao A.length cap] A.length g tk cm u wv i wr)
      case atStart => exact ⟨⟨0, [], []⟩, 0, 0, true, _, _, [], 0, rfl, rfl, rfl, rfl, by omega, by omega, by omega, HI0, Lib.hid Inv.start⟩
      case round => as_aux_lemma =>
        obtain ⟨o, taken, came, up, seen, recd, wait, n, rfl, rfl, rfl, rfl, hn, hn60, htn, HR, HI⟩ := hrel
        have c3 : wr.cell? ⟨w.heap.size, 3, none⟩ = some (.slice ao A.length cap) := HR.out.1.arg.cell 3
        by_cases hlt : n < A.length ∧ n < 60
        · obtain ⟨hlt1, hlt2⟩ := hlt
          obtain ⟨a, ha⟩ : ∃ a, A[n]? = some a := ⟨_, List.getElem?_eq_getElem hlt1⟩
          obtain ⟨b2, off, rfl, hbl, hcs⟩ := Enc.rd_cell (E := eA) (HAA.out.below HR.out.1.bel) rfl ha
          have d0 : wr.cell? ⟨b2, off + n * 8, none⟩ = some (.int .i64 a.d) := hcs 0 _ rfl
          have d1 : wr.cell? ⟨b2, off + n * 8 + 1, none⟩ = some (.int .i64 a.id) := hcs 1 _ rfl
          have d2 : wr.cell? ⟨b2, off + n * 8 + 2, none⟩ = some (.string a.m.t) := hcs 2 _ rfl
          have d3 : wr.cell? ⟨b2, off + n * 8 + 3, none⟩ = some (.string a.m.p) := hcs 3 _ rfl
          have d4 : wr.cell? ⟨b2, off + n * 8 + 4, none⟩ = some (.int .i64 a.m.q) := hcs 4 _ rfl
          have d5 : wr.cell? ⟨b2, off + n * 8 + 5, none⟩ = some (.bool a.m.r) := hcs 5 _ rfl
          have d6 : wr.cell? ⟨b2, off + n * 8 + 6, none⟩ = some (.bool a.up) := hcs 6 _ rfl
          have d7 : wr.cell? ⟨b2, off + n * 8 + 7, none⟩ = some (.bool a.fit) := hcs 7 _ rfl
          have hnl : (n : Int) < (A.length : Int) := by omega
          have hn6 : (n : Int) < 60 := by omega
          obtain ⟨wa, hwa⟩ : ∃ wa, wa = (wr.alloc (.cells #[.int .i64 a.d, .int .i64 a.id, .string a.m.t, .string a.m.p, .int .i64 a.m.q, .bool a.m.r, .bool a.up, .bool a.fit] 36)).alloc (.cells #[.int .i64 0, .slice none 0 0, .slice none 0 0] 25) := ⟨_, rfl⟩
          obtain ⟨N, hN⟩ : ∃ N, wr.heap.size = N := ⟨_, rfl⟩
          have hba : Below wr.heap.size wr wa := by rw [hwa]; go_grown
          have hAa : Whole wa N 36 [.int .i64 a.d, .int .i64 a.id, .string a.m.t, .string a.m.p, .int .i64 a.m.q, .bool a.m.r, .bool a.up, .bool a.fit] := by rw [hwa, ← hN]; exact (Whole.new wr 36 _).alloc _
          have hXa : Whole wa (N + 1) 25 [.int .i64 0, .slice none 0 0, .slice none 0 0] := by
            rw [hwa, ← hN]
            have := Whole.new (wr.alloc (.cells #[.int .i64 a.d, .int .i64 a.id, .string a.m.t, .string a.m.p, .int .i64 a.m.q, .bool a.m.r, .bool a.up, .bool a.fit] 36)) 25 [.int .i64 0, .slice none 0 0, .slice none 0 0]
            simpa using this
          have e0 : wa.cell? ⟨N, 0, none⟩ = some (.int .i64 a.d) := hAa.cell 0
          have e1 : wa.cell? ⟨N, 1, none⟩ = some (.int .i64 a.id) := hAa.cell 1
          have HWI := Lib.hid (Within_any wa a.d 4 (by omega) (by omega))
          obtain ⟨q, hq⟩ : ∃ q, within a.d 4 = q := ⟨_, rfl⟩
          have hq0 : 0 ≤ q := hq ▸ within_nn a.d 4 (by omega)
          have hq4 : q < 4 := hq ▸ within_lt a.d 4 (by omega)
          rw [hq] at HWI
          have HRA := Lib.hid (And.intro (HR.out.1.below hba) (HR.out.2.below hba))
          have HXA := Lib.hid hXa
          have HAA2 := Lib.hid hAa
          have HNN := Lib.hid (show w.heap.size < O ∧ O < N by have := HR.out.1.hO; rw [hN] at this; exact this)
          have HNZ := Lib.hid (show N + 2 = wa.heap.size by rw [hwa, ← hN]; simp)
          have HWA := Lib.hid hwa
          clear hcs ha hba hAa hXa hwa hq
          go_upto_region 16 with fail
          clear d0 d1 d2 d3 d4 d5 d6 d7 c3
          rw [← HWA.out]
          go_upto_block 2 with (go_at_call 5; refine HWI.out.mono ?_; rintro e w' ⟨rfl, rfl⟩)
          rw [show O + 1 + 1 = O + 2 from rfl]
          go_cut [4, 6, 9, 12, 14] (fun tk u wv lv e wx => Meet w O (N + 1) [Value.int .i64 last, .slice fo F.length fc, .slice qo Q.length qc, .slice (some ⟨b2, off, none⟩) A.length cap] o came seen n tk u wv lv e wx)
          case first => as_aux_lemma =>
            obtain ⟨fo1, qo1, fc1, qc1, hOb, hOr⟩ := HRA.out.1.open_
            have HOB := Lib.hid hOb
            have HOR := Lib.hid hOr
            obtain ⟨o0, o1, o2, o3, o4, o5⟩ := hOb.three
            clear hOb hOr
            have hqc : q = 0 ∨ q = 1 ∨ q = 2 ∨ q = 3 := by omega
            clear hq0 hq4
            rcases hqc with rfl | rfl | rfl | rfl
            · as_aux_lemma =>
                have ht59 : taken ≤ 59 := by omega
                have u1 : IntKind.i64.wrap (33 + (taken : Int)) = 33 + (taken : Int) := IntWalk.i64_in _ ⟨by omega, by omega⟩
                have u2 : IntKind.u8.wrap (33 + (taken : Int)) = 33 + (taken : Int) := by rw [IntKind.wrap_u8]; omega
                obtain ⟨q2, hq2⟩ : ∃ q, within a.id 2 = q := ⟨_, rfl⟩
                have hq20 : 0 ≤ q2 := hq2 ▸ within_nn a.id 2 (by omega)
                have hq22 : q2 < 2 := hq2 ▸ within_lt a.id 2 (by omega)
                have u3 : IntKind.i64.wrap (1 + q2) = 1 + q2 := IntWalk.i64_in _ ⟨by omega, by omega⟩
                have HWI2 := Lib.hid (fun wx => Within_any wx a.id 2 (by omega) (by omega))
                rw [hq2] at HWI2
                have HMN : Hid (MN ⟨tT, pl taken, 1 + q2, false⟩ taken) := Lib.hid ⟨rfl, rfl, rfl, by simp only; omega⟩
                have HOFF := Lib.hid (fun wx (hx : Below wa.heap.size wa wx) => offer_law (HOR.out.below hx) HI.out HMN.out (by omega))
                unfold msgV tT at HOFF
                simp only at HOFF
                obtain ⟨wb, hch⟩ : ∃ wb, (wa.alloc (.cells #[.int .u8 (33 + (taken : Int))] 5)).drew = wb := ⟨_, rfl⟩
                have HBW : Hid (Below wa.heap.size wa wb) := Lib.hid (by rw [← hch]; go_grown)
                have hconv : (convert 41 9 (.slice (some ⟨wa.heap.size, 0, none⟩) 1 1)).run Try.prog wb = .ok (.string (pl taken)) wb := by
                  rw [← hch]
                  refine run_convert_bytes_back _ _ _ 5 ⟨wa.heap.size, 0, none⟩ 1 [UInt8.ofNat (33 + taken)] Try.underlying41 Try.underlying5 Try.underlying9 (fun j hj => ?_)
                  have : j = 0 := by simp at hj; omega
                  subst this
                  have e : (UInt8.ofNat (33 + taken)).toNat = 33 + taken := by rw [UInt8.toNat_ofNat']; omega
                  simp only [List.getElem_cons_zero, e]
                  simp [add_flat]
                have g0 := b_cell HBW.out o0
                have g1 := b_cell HBW.out o1
                have g2 := b_cell HBW.out o2
                have g3 := b_cell HBW.out e1
                clear hq2 hq20 hq22
                go_upto_region 27 with fail
                refine wp_region_held_drew (S := fun wx => wx.cell? ⟨O, 0, none⟩ = some (.int .i64 o.last) ∧ wx.cell? ⟨O, 1, none⟩ = some (.slice fo1 o.F.length fc1) ∧ wx.cell? ⟨O, 2, none⟩ = some (.slice qo1 o.Q.length qc1) ∧ wx.cell? ⟨N, 1, none⟩ = some (.int .i64 a.id)) (by kernel_rfl) ⟨o0, o1, o2, e1⟩ (fun hHeld => ?_)
                refine take_h 0 ⟨?_, ?_, ?_, by kernel_rfl, by kernel_rfl, by kernel_rfl, ?_, ?_, by assumption, ?_⟩
                rotate_left 2
                · (simp only [List.getElem?_toArray, List.getElem?_cons_zero]; exact rfl)
                · exact fun _ _ _ h => h
                · first
                    | (refine Or.inr ⟨by rfl, ?_⟩; exact rfl)
                    | (refine Or.inl ⟨by rfl, ?_⟩
                       intro w hSw
                       (try dsimp only at hSw)
                       (try go_split_ands)
                       go_simp
                       (first | done | with_reducible rfl))
                try simp only [Act.put, List.setIfInBounds_toArray, List.set_cons_zero, List.set_cons_succ]
                refine take_h 1 ⟨?_, ?_, ?_, by kernel_rfl, by kernel_rfl, by kernel_rfl, ?_, ?_, by assumption, ?_⟩
                rotate_left 2
                · (simp only [List.getElem?_toArray, List.getElem?_cons_succ, List.getElem?_cons_zero]; exact rfl)
                · exact fun _ _ _ h => h
                · first
                    | (refine Or.inr ⟨by rfl, ?_⟩; exact rfl)
                    | (refine Or.inl ⟨by rfl, ?_⟩
                       intro w hSw
                       (try dsimp only at hSw)
                       (try go_split_ands)
                       go_simp
                       (first | done | with_reducible rfl))
                try simp only [Act.put, List.setIfInBounds_toArray, List.set_cons_zero, List.set_cons_succ]
                refine take_h 2 ⟨?_, ?_, ?_, by kernel_rfl, by kernel_rfl, by kernel_rfl, ?_, ?_, by assumption, ?_⟩
                rotate_left 2
                · (simp only [List.getElem?_toArray, List.getElem?_cons_succ, List.getElem?_cons_zero]; exact rfl)
                · exact fun _ _ _ h => h
                · first
                    | (refine Or.inr ⟨by rfl, ?_⟩; exact rfl)
                    | (refine Or.inl ⟨by rfl, ?_⟩
                       intro w hSw
                       (try dsimp only at hSw)
                       (try go_split_ands)
                       go_simp
                       (first | done | with_reducible rfl))
                try simp only [Act.put, List.setIfInBounds_toArray, List.set_cons_zero, List.set_cons_succ]
                refine take_h 3 ⟨?_, ?_, ?_, by kernel_rfl, by kernel_rfl, by kernel_rfl, ?_, ?_, by assumption, ?_⟩
                rotate_left 2
                · (simp only [List.getElem?_toArray, List.getElem?_cons_succ, List.getElem?_cons_zero]; exact rfl)
                · exact fun _ _ _ h => h
                · first
                    | (refine Or.inr ⟨by rfl, ?_⟩; exact rfl)
                    | (refine Or.inl ⟨by rfl, ?_⟩
                       intro w hSw
                       (try dsimp only at hSw)
                       (try go_split_ands)
                       go_simp
                       (first | done | with_reducible rfl))
                try simp only [Act.put, List.setIfInBounds_toArray, List.set_cons_zero, List.set_cons_succ]
                refine take_h 6 ⟨?_, ?_, ?_, by kernel_rfl, by kernel_rfl, by kernel_rfl, ?_, ?_, by assumption, ?_⟩
                rotate_left 2
                · (simp only [List.getElem?_toArray, List.getElem?_cons_succ, List.getElem?_cons_zero]; exact rfl)
                · exact fun _ _ _ h => h
                · first
                    | (refine Or.inr ⟨by rfl, ?_⟩; exact rfl)
                    | (refine Or.inl ⟨by rfl, ?_⟩
                       intro w hSw
                       (try dsimp only at hSw)
                       (try go_split_ands)
                       go_simp
                       (first | done | with_reducible rfl))
                try simp only [Act.put, List.setIfInBounds_toArray, List.set_cons_zero, List.set_cons_succ]
                refine take_h 7 ⟨?_, ?_, ?_, by kernel_rfl, by kernel_rfl, by kernel_rfl, ?_, ?_, by assumption, ?_⟩
                rotate_left 2
                · (simp only [List.getElem?_toArray, List.getElem?_cons_succ, List.getElem?_cons_zero]; exact rfl)
                · exact fun _ _ _ h => h
                · first
                    | (refine Or.inr ⟨by rfl, ?_⟩; exact rfl)
                    | (refine Or.inl ⟨by rfl, ?_⟩
                       intro w hSw
                       (try dsimp only at hSw)
                       (try go_split_ands)
                       go_simp
                       (first | done | with_reducible rfl))
                try simp only [Act.put, List.setIfInBounds_toArray, List.set_cons_zero, List.set_cons_succ]
                refine take_h 11 ⟨?_, ?_, ?_, by kernel_rfl, by kernel_rfl, by kernel_rfl, ?_, ?_, by assumption, ?_⟩
                rotate_left 2
                · (simp only [List.getElem?_toArray, List.getElem?_cons_succ, List.getElem?_cons_zero]; exact rfl)
                · exact fun _ _ _ h => h
                · first
                    | (refine Or.inr ⟨by rfl, ?_⟩; exact rfl)
                    | (refine Or.inl ⟨by rfl, ?_⟩
                       intro w hSw
                       (try dsimp only at hSw)
                       (try go_split_ands)
                       go_simp
                       (first | done | with_reducible rfl))
                try simp only [Act.put, List.setIfInBounds_toArray, List.set_cons_zero, List.set_cons_succ]
                refine wpAnyH_ready (rs := [4, 8]) (by kernel_rfl) (by simp) ?_
                refine two_h 4 8 ⟨?_, ?_, fun K hK => ?_⟩ ⟨?_, ?_, fun K hK => ?_⟩
                rotate_left 1
                · (simp only [List.getElem?_toArray, List.getElem?_cons_succ, List.getElem?_cons_zero]; exact rfl)
                · as_aux_lemma =>
                    go_simp
                    go_wp2_with fail
                    refine hK.out _ _ ⟨g0, g1, g2, g3⟩ (fun hHeld => ?_)
                    clear hK K
                    (try simp only [Act.put, List.setIfInBounds_toArray, List.set_cons_zero, List.set_cons_succ])
                    refine wpAnyH_ready (rs := [5, 8]) (by kernel_rfl) (by simp) ?_
                    refine two_h 5 8 ⟨?_, ?_, fun K hK => ?_⟩ ⟨?_, ?_, fun K hK => ?_⟩
                    rotate_left 1
                    · (simp only [List.getElem?_toArray, List.getElem?_cons_succ, List.getElem?_cons_zero]; exact rfl)
                    · as_aux_lemma =>
                        go_simp
                        go_wp2_with fail
                        refine hK.out _ _ ⟨g0, g1, g2, g3⟩ (fun hHeld => ?_)
                        clear hK K
                        (try simp only [Act.put, List.setIfInBounds_toArray, List.set_cons_zero, List.set_cons_succ])
                        refine wpAnyH_ready (rs := [8]) (by kernel_rfl) (by simp) ?_
                        refine call_h 8 ⟨?_, ?_, fun K hK => ?_⟩
                        rotate_left 1
                        · (simp only [List.getElem?_toArray, List.getElem?_cons_succ, List.getElem?_cons_zero]; exact rfl)
                        go_simp
                        (go_at_call 5; refine (HWI2.out _).mono ?_; rintro e w' ⟨rfl, rfl⟩)
                        go_wp2_with fail
                        refine hK.out _ _ ⟨g0, g1, g2, g3⟩ (fun hHeld => ?_)
                        clear hK K
                        (try simp only [Act.put, List.setIfInBounds_toArray, List.set_cons_zero, List.set_cons_succ])
                        refine take_h 9 ⟨?_, ?_, ?_, by kernel_rfl, by kernel_rfl, by kernel_rfl, ?_, ?_, by assumption, ?_⟩
                        rotate_left 2
                        · (simp only [List.getElem?_toArray, List.getElem?_cons_succ, List.getElem?_cons_zero]; exact rfl)
                        · exact fun _ _ _ h => h
                        · first
                            | (refine Or.inr ⟨by rfl, ?_⟩; exact rfl)
                            | (refine Or.inl ⟨by rfl, ?_⟩
                               intro w hSw
                               (try dsimp only at hSw)
                               (try go_split_ands)
                               go_simp
                               (first | done | with_reducible rfl))
                        try simp only [Act.put, List.setIfInBounds_toArray, List.set_cons_zero, List.set_cons_succ]
                        refine take_h 10 ⟨?_, ?_, ?_, by kernel_rfl, by kernel_rfl, by kernel_rfl, ?_, ?_, by assumption, ?_⟩
                        rotate_left 2
                        · (simp only [List.getElem?_toArray, List.getElem?_cons_succ, List.getElem?_cons_zero]; exact rfl)
                        · exact fun _ _ _ h => h
                        · first
                            | (refine Or.inr ⟨by rfl, ?_⟩; exact rfl)
                            | (refine Or.inl ⟨by rfl, ?_⟩
                               intro w hSw
                               (try dsimp only at hSw)
                               (try go_split_ands)
                               go_simp
                               (first | done | with_reducible rfl))
                        try simp only [Act.put, List.setIfInBounds_toArray, List.set_cons_zero, List.set_cons_succ]
                        refine wpAnyH_ready (rs := [12]) (by kernel_rfl) (by simp) ?_
                        refine call_h 12 ⟨?_, ?_, fun K hK => ?_⟩
                        rotate_left 1
                        · (simp only [List.getElem?_toArray, List.getElem?_cons_succ, List.getElem?_cons_zero]; exact rfl)
                        go_simp
                        (go_at_call 6; refine (HOFF.out _ HBW.out).mono ?_; rintro e w5 ⟨o', l, er, fo5, qo5, lo5, fc5, qc5, lc5, rfl, hO5, hl5, hb5, hPr⟩)
                        go_wp2_with fail
                        have hbb := b_tr HBW.out hb5
                        have hX5 := HXA.out.belowH hbb
                        obtain ⟨r0, r1, r2, r3, r4, r5⟩ := hX5.three
                        have hEX := EX.of (X := N + 1) (HRA.out.1.below hbb) (HRA.out.2.below hbb) hX5 (by have := HNN.out; omega) hO5 hl5 (by have := HNN.out; have := HNZ.out; have := HBW.out.size; omega) (fun k hk => Nat.lt_of_lt_of_le (HRA.out.1.wt.lt hk).2 HBW.out.size)
                        obtain ⟨w6, hw6⟩ : ∃ w6, (((w5.setCell ⟨N + 1, 0, none⟩ (.int .i64 o'.last)).setCell ⟨N + 1, 1, none⟩ (.slice fo5 o'.F.length fc5)).setCell ⟨N + 1, 2, none⟩ (.slice qo5 o'.Q.length qc5)) = w6 := ⟨_, rfl⟩
                        have hl6 : Left [N + 1] w5 w6 := hw6 ▸ (((Left.refl _ w5).setCell (Or.inl (by simp)) _).setCell (Or.inl (by simp)) _).setCell (Or.inl (by simp)) _
                        rw [hw6] at hEX
                        have HEX := Lib.hid hEX
                        have HPR := Lib.hid hPr
                        have v0 := b_cell hbb o0
                        have v1 := b_cell hbb o1
                        have v2 := b_cell hbb o2
                        have v3 := b_cell hbb e1
                        have x0 := cell_left' v0 hl6 (by have := HNN.out; simp; omega)
                        have x1 := cell_left' v1 hl6 (by have := HNN.out; simp; omega)
                        have x2 := cell_left' v2 hl6 (by have := HNN.out; simp; omega)
                        have x3 := cell_left' v3 hl6 (by simp)
                        clear hO5 hl5 hb5 hX5 hPr hEX hl6 hbb
                        refine hK.out _ _ ⟨v0, v1, v2, v3⟩ (fun hHeld => ?_)
                        clear hK K
                        (try simp only [Act.put, List.setIfInBounds_toArray, List.set_cons_zero, List.set_cons_succ])
                        refine take_h 13 ⟨?_, ?_, ?_, by kernel_rfl, by kernel_rfl, by kernel_rfl, ?_, ?_, by assumption, ?_⟩
                        rotate_left 2
                        · (simp only [List.getElem?_toArray, List.getElem?_cons_succ, List.getElem?_cons_zero]; exact rfl)
                        · exact fun _ _ _ h => h
                        · first
                            | (refine Or.inr ⟨by rfl, ?_⟩; exact rfl)
                            | (refine Or.inl ⟨by rfl, ?_⟩
                               intro w hSw
                               (try dsimp only at hSw)
                               (try go_split_ands)
                               go_simp
                               (first | done | with_reducible rfl))
                        try simp only [Act.put, List.setIfInBounds_toArray, List.set_cons_zero, List.set_cons_succ]
                        refine take_h 14 ⟨?_, ?_, ?_, by kernel_rfl, by kernel_rfl, by kernel_rfl, ?_, ?_, by assumption, ?_⟩
                        rotate_left 2
                        · (simp only [List.getElem?_toArray, List.getElem?_cons_succ, List.getElem?_cons_zero]; exact rfl)
                        · exact fun _ _ _ h => h
                        · first
                            | (refine Or.inr ⟨by rfl, ?_⟩; exact rfl)
                            | (refine Or.inl ⟨by rfl, ?_⟩
                               intro w hSw
                               (try dsimp only at hSw)
                               (try go_split_ands)
                               go_simp
                               (first | done | with_reducible rfl))
                        try simp only [Act.put, List.setIfInBounds_toArray, List.set_cons_zero, List.set_cons_succ]
                        refine take_h 15 ⟨?_, ?_, ?_, by kernel_rfl, by kernel_rfl, by kernel_rfl, ?_, ?_, by assumption, ?_⟩
                        rotate_left 2
                        · (simp only [List.getElem?_toArray, List.getElem?_cons_succ, List.getElem?_cons_zero]; exact rfl)
                        · exact fun _ _ _ h => h
                        · first
                            | (refine Or.inr ⟨by rfl, ?_⟩; exact rfl)
                            | (refine Or.inl ⟨by rfl, ?_⟩
                               intro w hSw
                               (try dsimp only at hSw)
                               (try go_split_ands)
                               go_simp
                               (first | done | with_reducible rfl))
                        try simp only [Act.put, List.setIfInBounds_toArray, List.set_cons_zero, List.set_cons_succ]
                        refine take_h 16 ⟨?_, ?_, ?_, by kernel_rfl, by kernel_rfl, by kernel_rfl, ?_, ?_, by assumption, ?_⟩
                        rotate_left 2
                        · (simp only [List.getElem?_toArray, List.getElem?_cons_succ, List.getElem?_cons_zero]; exact rfl)
                        · exact fun _ _ _ h => h
                        · first
                            | (refine Or.inr ⟨by rfl, ?_⟩; exact rfl)
                            | (refine Or.inl ⟨by rfl, ?_⟩
                               intro w hSw
                               (try dsimp only at hSw)
                               (try go_split_ands)
                               go_simp
                               (first | done | with_reducible rfl))
                        try simp only [Act.put, List.setIfInBounds_toArray, List.set_cons_zero, List.set_cons_succ]
                        refine wpAnyH_ready (rs := [17]) (by kernel_rfl) (by simp) ?_
                        refine call_h 17 ⟨?_, ?_, fun K hK => ?_⟩
                        rotate_left 1
                        · (simp only [List.getElem?_toArray, List.getElem?_cons_succ, List.getElem?_cons_zero]; exact rfl)
                        go_simp
                        skip
                        go_wp2_with fail
                        refine hK.out _ _ ⟨x0, x1, x2, x3⟩ (fun hHeld => ?_)
                        clear hK K
                        (try simp only [Act.put, List.setIfInBounds_toArray, List.set_cons_zero, List.set_cons_succ])
                        refine take_h 18 ⟨?_, ?_, ?_, by kernel_rfl, by kernel_rfl, by kernel_rfl, ?_, ?_, by assumption, ?_⟩
                        rotate_left 2
                        · (simp only [List.getElem?_toArray, List.getElem?_cons_succ, List.getElem?_cons_zero]; exact rfl)
                        · exact fun _ _ _ h => h
                        · first
                            | (refine Or.inr ⟨by rfl, ?_⟩; exact rfl)
                            | (refine Or.inl ⟨by rfl, ?_⟩
                               intro w hSw
                               (try dsimp only at hSw)
                               (try go_split_ands)
                               go_simp
                               (first | done | with_reducible rfl))
                        try simp only [Act.put, List.setIfInBounds_toArray, List.set_cons_zero, List.set_cons_succ]
                        refine take_h 19 ⟨?_, ?_, ?_, by kernel_rfl, by kernel_rfl, by kernel_rfl, ?_, ?_, by assumption, ?_⟩
                        rotate_left 2
                        · (simp only [List.getElem?_toArray, List.getElem?_cons_succ, List.getElem?_cons_zero]; exact rfl)
                        · exact fun _ _ _ h => h
                        · first
                            | (refine Or.inr ⟨by rfl, ?_⟩; exact rfl)
                            | (refine Or.inl ⟨by rfl, ?_⟩
                               intro w hSw
                               (try dsimp only at hSw)
                               (try go_split_ands)
                               go_simp
                               (first | done | with_reducible rfl))
                        try simp only [Act.put, List.setIfInBounds_toArray, List.set_cons_zero, List.set_cons_succ]
                        refine wpAnyH_done (by kernel_rfl) ?_ _
                        clear hHeld v0 v1 v2 v3 x0 x1 x2 x3 r0 r1 r2 r3 r4 r5 hw6
                        clear o0 o1 o2 o3 o4 o5 e0 e1
                        rcases HPR.out with rfl | ⟨rfl, hAf⟩
                        · as_aux_lemma =>
                            go_wp2_with (go_at_call 7; refine (num_any _ _).mono ?_; rintro e w' ⟨rfl, rfl⟩)
                            go_roundg (A.length - (n + 1))
                            case rel => exact ⟨o, taken, came, up, seen, recd, wait, n + 1, rfl, rfl, rfl, by go_num, by omega, by omega, by omega, Lib.hid ⟨HEX.out.lf, HEX.out.la⟩, HI⟩
                            case measure => omega
                        · as_aux_lemma =>
                            have HAF := Lib.hid hAf
                            clear hAf
                            go_wp2_with (go_at_call 7; refine (num_any _ _).mono ?_; rintro e w' ⟨rfl, rfl⟩)
                            go_meet
                            exact ⟨o', taken + 1, up, recd, wait, l, _, _, by go_num, rfl, rfl, by omega, HEX, HAF⟩
                    rotate_left 1
                    · (simp only [List.getElem?_toArray, List.getElem?_cons_succ, List.getElem?_cons_zero]; exact rfl)
                    · as_aux_lemma =>
                        go_simp
                        go_at_call 5
                        refine (HWI2.out _).mono ?_
                        rintro e w' ⟨rfl, rfl⟩
                        go_wp2_with fail
                        refine hK.out _ _ ⟨g0, g1, g2, g3⟩ (fun hHeld => ?_)
                        clear hK K
                        (try simp only [Act.put, List.setIfInBounds_toArray, List.set_cons_zero, List.set_cons_succ])
                        refine take_h 9 ⟨?_, ?_, ?_, by kernel_rfl, by kernel_rfl, by kernel_rfl, ?_, ?_, by assumption, ?_⟩
                        rotate_left 2
                        · (simp only [List.getElem?_toArray, List.getElem?_cons_succ, List.getElem?_cons_zero]; exact rfl)
                        · exact fun _ _ _ h => h
                        · first
                            | (refine Or.inr ⟨by rfl, ?_⟩; exact rfl)
                            | (refine Or.inl ⟨by rfl, ?_⟩
                               intro w hSw
                               (try dsimp only at hSw)
                               (try go_split_ands)
                               go_simp
                               (first | done | with_reducible rfl))
                        try simp only [Act.put, List.setIfInBounds_toArray, List.set_cons_zero, List.set_cons_succ]
                        refine wpAnyH_ready (rs := [5]) (by kernel_rfl) (by simp) ?_
                        refine call_h 5 ⟨?_, ?_, fun K hK => ?_⟩
                        rotate_left 1
                        · (simp only [List.getElem?_toArray, List.getElem?_cons_succ, List.getElem?_cons_zero]; exact rfl)
                        go_simp
                        skip
                        go_wp2_with fail
                        refine hK.out _ _ ⟨g0, g1, g2, g3⟩ (fun hHeld => ?_)
                        clear hK K
                        (try simp only [Act.put, List.setIfInBounds_toArray, List.set_cons_zero, List.set_cons_succ])
                        refine take_h 10 ⟨?_, ?_, ?_, by kernel_rfl, by kernel_rfl, by kernel_rfl, ?_, ?_, by assumption, ?_⟩
                        rotate_left 2
                        · (simp only [List.getElem?_toArray, List.getElem?_cons_succ, List.getElem?_cons_zero]; exact rfl)
                        · exact fun _ _ _ h => h
                        · first
                            | (refine Or.inr ⟨by rfl, ?_⟩; exact rfl)
                            | (refine Or.inl ⟨by rfl, ?_⟩
                               intro w hSw
                               (try dsimp only at hSw)
                               (try go_split_ands)
                               go_simp
                               (first | done | with_reducible rfl))
                        try simp only [Act.put, List.setIfInBounds_toArray, List.set_cons_zero, List.set_cons_succ]
                        refine wpAnyH_ready (rs := [12]) (by kernel_rfl) (by simp) ?_
                        refine call_h 12 ⟨?_, ?_, fun K hK => ?_⟩
                        rotate_left 1
                        · (simp only [List.getElem?_toArray, List.getElem?_cons_succ, List.getElem?_cons_zero]; exact rfl)
                        go_simp
                        (go_at_call 6; refine (HOFF.out _ HBW.out).mono ?_; rintro e w5 ⟨o', l, er, fo5, qo5, lo5, fc5, qc5, lc5, rfl, hO5, hl5, hb5, hPr⟩)
                        go_wp2_with fail
                        have hbb := b_tr HBW.out hb5
                        have hX5 := HXA.out.belowH hbb
                        obtain ⟨r0, r1, r2, r3, r4, r5⟩ := hX5.three
                        have hEX := EX.of (X := N + 1) (HRA.out.1.below hbb) (HRA.out.2.below hbb) hX5 (by have := HNN.out; omega) hO5 hl5 (by have := HNN.out; have := HNZ.out; have := HBW.out.size; omega) (fun k hk => Nat.lt_of_lt_of_le (HRA.out.1.wt.lt hk).2 HBW.out.size)
                        obtain ⟨w6, hw6⟩ : ∃ w6, (((w5.setCell ⟨N + 1, 0, none⟩ (.int .i64 o'.last)).setCell ⟨N + 1, 1, none⟩ (.slice fo5 o'.F.length fc5)).setCell ⟨N + 1, 2, none⟩ (.slice qo5 o'.Q.length qc5)) = w6 := ⟨_, rfl⟩
                        have hl6 : Left [N + 1] w5 w6 := hw6 ▸ (((Left.refl _ w5).setCell (Or.inl (by simp)) _).setCell (Or.inl (by simp)) _).setCell (Or.inl (by simp)) _
                        rw [hw6] at hEX
                        have HEX := Lib.hid hEX
                        have HPR := Lib.hid hPr
                        have v0 := b_cell hbb o0
                        have v1 := b_cell hbb o1
                        have v2 := b_cell hbb o2
                        have v3 := b_cell hbb e1
                        have x0 := cell_left' v0 hl6 (by have := HNN.out; simp; omega)
                        have x1 := cell_left' v1 hl6 (by have := HNN.out; simp; omega)
                        have x2 := cell_left' v2 hl6 (by have := HNN.out; simp; omega)
                        have x3 := cell_left' v3 hl6 (by simp)
                        clear hO5 hl5 hb5 hX5 hPr hEX hl6 hbb
                        refine hK.out _ _ ⟨v0, v1, v2, v3⟩ (fun hHeld => ?_)
                        clear hK K
                        (try simp only [Act.put, List.setIfInBounds_toArray, List.set_cons_zero, List.set_cons_succ])
                        refine take_h 13 ⟨?_, ?_, ?_, by kernel_rfl, by kernel_rfl, by kernel_rfl, ?_, ?_, by assumption, ?_⟩
                        rotate_left 2
                        · (simp only [List.getElem?_toArray, List.getElem?_cons_succ, List.getElem?_cons_zero]; exact rfl)
                        · exact fun _ _ _ h => h
                        · first
                            | (refine Or.inr ⟨by rfl, ?_⟩; exact rfl)
                            | (refine Or.inl ⟨by rfl, ?_⟩
                               intro w hSw
                               (try dsimp only at hSw)
                               (try go_split_ands)
                               go_simp
                               (first | done | with_reducible rfl))
                        try simp only [Act.put, List.setIfInBounds_toArray, List.set_cons_zero, List.set_cons_succ]
                        refine take_h 14 ⟨?_, ?_, ?_, by kernel_rfl, by kernel_rfl, by kernel_rfl, ?_, ?_, by assumption, ?_⟩
                        rotate_left 2
                        · (simp only [List.getElem?_toArray, List.getElem?_cons_succ, List.getElem?_cons_zero]; exact rfl)
                        · exact fun _ _ _ h => h
                        · first
                            | (refine Or.inr ⟨by rfl, ?_⟩; exact rfl)
                            | (refine Or.inl ⟨by rfl, ?_⟩
                               intro w hSw
                               (try dsimp only at hSw)
                               (try go_split_ands)
                               go_simp
                               (first | done | with_reducible rfl))
                        try simp only [Act.put, List.setIfInBounds_toArray, List.set_cons_zero, List.set_cons_succ]
                        refine take_h 15 ⟨?_, ?_, ?_, by kernel_rfl, by kernel_rfl, by kernel_rfl, ?_, ?_, by assumption, ?_⟩
                        rotate_left 2
                        · (simp only [List.getElem?_toArray, List.getElem?_cons_succ, List.getElem?_cons_zero]; exact rfl)
                        · exact fun _ _ _ h => h
                        · first
                            | (refine Or.inr ⟨by rfl, ?_⟩; exact rfl)
                            | (refine Or.inl ⟨by rfl, ?_⟩
                               intro w hSw
                               (try dsimp only at hSw)
                               (try go_split_ands)
                               go_simp
                               (first | done | with_reducible rfl))
                        try simp only [Act.put, List.setIfInBounds_toArray, List.set_cons_zero, List.set_cons_succ]
                        refine take_h 16 ⟨?_, ?_, ?_, by kernel_rfl, by kernel_rfl, by kernel_rfl, ?_, ?_, by assumption, ?_⟩
                        rotate_left 2
                        · (simp only [List.getElem?_toArray, List.getElem?_cons_succ, List.getElem?_cons_zero]; exact rfl)
                        · exact fun _ _ _ h => h
                        · first
                            | (refine Or.inr ⟨by rfl, ?_⟩; exact rfl)
                            | (refine Or.inl ⟨by rfl, ?_⟩
                               intro w hSw
                               (try dsimp only at hSw)
                               (try go_split_ands)
                               go_simp
                               (first | done | with_reducible rfl))
                        try simp only [Act.put, List.setIfInBounds_toArray, List.set_cons_zero, List.set_cons_succ]
                        refine wpAnyH_ready (rs := [17]) (by kernel_rfl) (by simp) ?_
                        refine call_h 17 ⟨?_, ?_, fun K hK => ?_⟩
                        rotate_left 1
                        · (simp only [List.getElem?_toArray, List.getElem?_cons_succ, List.getElem?_cons_zero]; exact rfl)
                        go_simp
                        skip
                        go_wp2_with fail
                        refine hK.out _ _ ⟨x0, x1, x2, x3⟩ (fun hHeld => ?_)
                        clear hK K
                        (try simp only [Act.put, List.setIfInBounds_toArray, List.set_cons_zero, List.set_cons_succ])
                        refine take_h 18 ⟨?_, ?_, ?_, by kernel_rfl, by kernel_rfl, by kernel_rfl, ?_, ?_, by assumption, ?_⟩
                        rotate_left 2
                        · (simp only [List.getElem?_toArray, List.getElem?_cons_succ, List.getElem?_cons_zero]; exact rfl)
                        · exact fun _ _ _ h => h
                        · first
                            | (refine Or.inr ⟨by rfl, ?_⟩; exact rfl)
                            | (refine Or.inl ⟨by rfl, ?_⟩
                               intro w hSw
                               (try dsimp only at hSw)
                               (try go_split_ands)
                               go_simp
                               (first | done | with_reducible rfl))
                        try simp only [Act.put, List.setIfInBounds_toArray, List.set_cons_zero, List.set_cons_succ]
                        refine take_h 19 ⟨?_, ?_, ?_, by kernel_rfl, by kernel_rfl, by kernel_rfl, ?_, ?_, by assumption, ?_⟩
                        rotate_left 2
                        · (simp only [List.getElem?_toArray, List.getElem?_cons_succ, List.getElem?_cons_zero]; exact rfl)
                        · exact fun _ _ _ h => h
                        · first
                            | (refine Or.inr ⟨by rfl, ?_⟩; exact rfl)
                            | (refine Or.inl ⟨by rfl, ?_⟩
                               intro w hSw
                               (try dsimp only at hSw)
                               (try go_split_ands)
                               go_simp
                               (first | done | with_reducible rfl))
                        try simp only [Act.put, List.setIfInBounds_toArray, List.set_cons_zero, List.set_cons_succ]
                        refine wpAnyH_done (by kernel_rfl) ?_ _
                        clear hHeld v0 v1 v2 v3 x0 x1 x2 x3 r0 r1 r2 r3 r4 r5 hw6
                        clear o0 o1 o2 o3 o4 o5 e0 e1
                        rcases HPR.out with rfl | ⟨rfl, hAf⟩
                        · as_aux_lemma =>
                            go_wp2_with (go_at_call 7; refine (num_any _ _).mono ?_; rintro e w' ⟨rfl, rfl⟩)
                            go_roundg (A.length - (n + 1))
                            case rel => exact ⟨o, taken, came, up, seen, recd, wait, n + 1, rfl, rfl, rfl, by go_num, by omega, by omega, by omega, Lib.hid ⟨HEX.out.lf, HEX.out.la⟩, HI⟩
                            case measure => omega
                        · as_aux_lemma =>
                            have HAF := Lib.hid hAf
                            clear hAf
                            go_wp2_with (go_at_call 7; refine (num_any _ _).mono ?_; rintro e w' ⟨rfl, rfl⟩)
                            go_meet
                            exact ⟨o', taken + 1, up, recd, wait, l, _, _, by go_num, rfl, rfl, by omega, HEX, HAF⟩
                rotate_left 1
                · (simp only [List.getElem?_toArray, List.getElem?_cons_succ, List.getElem?_cons_zero]; exact rfl)
                · as_aux_lemma =>
                    go_simp
                    go_at_call 5
                    refine (HWI2.out _).mono ?_
                    rintro e w' ⟨rfl, rfl⟩
                    go_wp2_with fail
                    refine hK.out _ _ ⟨o0, o1, o2, e1⟩ (fun hHeld => ?_)
                    clear hK K
                    (try simp only [Act.put, List.setIfInBounds_toArray, List.set_cons_zero, List.set_cons_succ])
                    refine take_h 9 ⟨?_, ?_, ?_, by kernel_rfl, by kernel_rfl, by kernel_rfl, ?_, ?_, by assumption, ?_⟩
                    rotate_left 2
                    · (simp only [List.getElem?_toArray, List.getElem?_cons_succ, List.getElem?_cons_zero]; exact rfl)
                    · exact fun _ _ _ h => h
                    · first
                        | (refine Or.inr ⟨by rfl, ?_⟩; exact rfl)
                        | (refine Or.inl ⟨by rfl, ?_⟩
                           intro w hSw
                           (try dsimp only at hSw)
                           (try go_split_ands)
                           go_simp
                           (first | done | with_reducible rfl))
                    try simp only [Act.put, List.setIfInBounds_toArray, List.set_cons_zero, List.set_cons_succ]
                    refine wpAnyH_ready (rs := [4]) (by kernel_rfl) (by simp) ?_
                    refine call_h 4 ⟨?_, ?_, fun K hK => ?_⟩
                    rotate_left 1
                    · (simp only [List.getElem?_toArray, List.getElem?_cons_succ, List.getElem?_cons_zero]; exact rfl)
                    go_simp
                    skip
                    go_wp2_with fail
                    refine hK.out _ _ ⟨g0, g1, g2, g3⟩ (fun hHeld => ?_)
                    clear hK K
                    (try simp only [Act.put, List.setIfInBounds_toArray, List.set_cons_zero, List.set_cons_succ])
                    refine wpAnyH_ready (rs := [5]) (by kernel_rfl) (by simp) ?_
                    refine call_h 5 ⟨?_, ?_, fun K hK => ?_⟩
                    rotate_left 1
                    · (simp only [List.getElem?_toArray, List.getElem?_cons_succ, List.getElem?_cons_zero]; exact rfl)
                    go_simp
                    skip
                    go_wp2_with fail
                    refine hK.out _ _ ⟨g0, g1, g2, g3⟩ (fun hHeld => ?_)
                    clear hK K
                    (try simp only [Act.put, List.setIfInBounds_toArray, List.set_cons_zero, List.set_cons_succ])
                    refine take_h 10 ⟨?_, ?_, ?_, by kernel_rfl, by kernel_rfl, by kernel_rfl, ?_, ?_, by assumption, ?_⟩
                    rotate_left 2
                    · (simp only [List.getElem?_toArray, List.getElem?_cons_succ, List.getElem?_cons_zero]; exact rfl)
                    · exact fun _ _ _ h => h
                    · first
                        | (refine Or.inr ⟨by rfl, ?_⟩; exact rfl)
                        | (refine Or.inl ⟨by rfl, ?_⟩
                           intro w hSw
                           (try dsimp only at hSw)
                           (try go_split_ands)
                           go_simp
                           (first | done | with_reducible rfl))
                    try simp only [Act.put, List.setIfInBounds_toArray, List.set_cons_zero, List.set_cons_succ]
                    refine wpAnyH_ready (rs := [12]) (by kernel_rfl) (by simp) ?_
                    refine call_h 12 ⟨?_, ?_, fun K hK => ?_⟩
                    rotate_left 1
                    · (simp only [List.getElem?_toArray, List.getElem?_cons_succ, List.getElem?_cons_zero]; exact rfl)
                    go_simp
                    (go_at_call 6; refine (HOFF.out _ HBW.out).mono ?_; rintro e w5 ⟨o', l, er, fo5, qo5, lo5, fc5, qc5, lc5, rfl, hO5, hl5, hb5, hPr⟩)
                    go_wp2_with fail
                    have hbb := b_tr HBW.out hb5
                    have hX5 := HXA.out.belowH hbb
                    obtain ⟨r0, r1, r2, r3, r4, r5⟩ := hX5.three
                    have hEX := EX.of (X := N + 1) (HRA.out.1.below hbb) (HRA.out.2.below hbb) hX5 (by have := HNN.out; omega) hO5 hl5 (by have := HNN.out; have := HNZ.out; have := HBW.out.size; omega) (fun k hk => Nat.lt_of_lt_of_le (HRA.out.1.wt.lt hk).2 HBW.out.size)
                    obtain ⟨w6, hw6⟩ : ∃ w6, (((w5.setCell ⟨N + 1, 0, none⟩ (.int .i64 o'.last)).setCell ⟨N + 1, 1, none⟩ (.slice fo5 o'.F.length fc5)).setCell ⟨N + 1, 2, none⟩ (.slice qo5 o'.Q.length qc5)) = w6 := ⟨_, rfl⟩
                    have hl6 : Left [N + 1] w5 w6 := hw6 ▸ (((Left.refl _ w5).setCell (Or.inl (by simp)) _).setCell (Or.inl (by simp)) _).setCell (Or.inl (by simp)) _
                    rw [hw6] at hEX
                    have HEX := Lib.hid hEX
                    have HPR := Lib.hid hPr
                    have v0 := b_cell hbb o0
                    have v1 := b_cell hbb o1
                    have v2 := b_cell hbb o2
                    have v3 := b_cell hbb e1
                    have x0 := cell_left' v0 hl6 (by have := HNN.out; simp; omega)
                    have x1 := cell_left' v1 hl6 (by have := HNN.out; simp; omega)
                    have x2 := cell_left' v2 hl6 (by have := HNN.out; simp; omega)
                    have x3 := cell_left' v3 hl6 (by simp)
                    clear hO5 hl5 hb5 hX5 hPr hEX hl6 hbb
                    refine hK.out _ _ ⟨v0, v1, v2, v3⟩ (fun hHeld => ?_)
                    clear hK K
                    (try simp only [Act.put, List.setIfInBounds_toArray, List.set_cons_zero, List.set_cons_succ])
                    refine take_h 13 ⟨?_, ?_, ?_, by kernel_rfl, by kernel_rfl, by kernel_rfl, ?_, ?_, by assumption, ?_⟩
                    rotate_left 2
                    · (simp only [List.getElem?_toArray, List.getElem?_cons_succ, List.getElem?_cons_zero]; exact rfl)
                    · exact fun _ _ _ h => h
                    · first
                        | (refine Or.inr ⟨by rfl, ?_⟩; exact rfl)
                        | (refine Or.inl ⟨by rfl, ?_⟩
                           intro w hSw
                           (try dsimp only at hSw)
                           (try go_split_ands)
                           go_simp
                           (first | done | with_reducible rfl))
                    try simp only [Act.put, List.setIfInBounds_toArray, List.set_cons_zero, List.set_cons_succ]
                    refine take_h 14 ⟨?_, ?_, ?_, by kernel_rfl, by kernel_rfl, by kernel_rfl, ?_, ?_, by assumption, ?_⟩
                    rotate_left 2
                    · (simp only [List.getElem?_toArray, List.getElem?_cons_succ, List.getElem?_cons_zero]; exact rfl)
                    · exact fun _ _ _ h => h
                    · first
                        | (refine Or.inr ⟨by rfl, ?_⟩; exact rfl)
                        | (refine Or.inl ⟨by rfl, ?_⟩
                           intro w hSw
                           (try dsimp only at hSw)
                           (try go_split_ands)
                           go_simp
                           (first | done | with_reducible rfl))
                    try simp only [Act.put, List.setIfInBounds_toArray, List.set_cons_zero, List.set_cons_succ]
                    refine take_h 15 ⟨?_, ?_, ?_, by kernel_rfl, by kernel_rfl, by kernel_rfl, ?_, ?_, by assumption, ?_⟩
                    rotate_left 2
                    · (simp only [List.getElem?_toArray, List.getElem?_cons_succ, List.getElem?_cons_zero]; exact rfl)
                    · exact fun _ _ _ h => h
                    · first
                        | (refine Or.inr ⟨by rfl, ?_⟩; exact rfl)
                        | (refine Or.inl ⟨by rfl, ?_⟩
                           intro w hSw
                           (try dsimp only at hSw)
                           (try go_split_ands)
                           go_simp
                           (first | done | with_reducible rfl))
                    try simp only [Act.put, List.setIfInBounds_toArray, List.set_cons_zero, List.set_cons_succ]
                    refine take_h 16 ⟨?_, ?_, ?_, by kernel_rfl, by kernel_rfl, by kernel_rfl, ?_, ?_, by assumption, ?_⟩
                    rotate_left 2
                    · (simp only [List.getElem?_toArray, List.getElem?_cons_succ, List.getElem?_cons_zero]; exact rfl)
                    · exact fun _ _ _ h => h
                    · first
                        | (refine Or.inr ⟨by rfl, ?_⟩; exact rfl)
                        | (refine Or.inl ⟨by rfl, ?_⟩
                           intro w hSw
                           (try dsimp only at hSw)
                           (try go_split_ands)
                           go_simp
                           (first | done | with_reducible rfl))
                    try simp only [Act.put, List.setIfInBounds_toArray, List.set_cons_zero, List.set_cons_succ]
                    refine wpAnyH_ready (rs := [17]) (by kernel_rfl) (by simp) ?_
                    refine call_h 17 ⟨?_, ?_, fun K hK => ?_⟩
                    rotate_left 1
                    · (simp only [List.getElem?_toArray, List.getElem?_cons_succ, List.getElem?_cons_zero]; exact rfl)
                    go_simp
                    skip
                    go_wp2_with fail
                    refine hK.out _ _ ⟨x0, x1, x2, x3⟩ (fun hHeld => ?_)
                    clear hK K
                    (try simp only [Act.put, List.setIfInBounds_toArray, List.set_cons_zero, List.set_cons_succ])
                    refine take_h 18 ⟨?_, ?_, ?_, by kernel_rfl, by kernel_rfl, by kernel_rfl, ?_, ?_, by assumption, ?_⟩
                    rotate_left 2
                    · (simp only [List.getElem?_toArray, List.getElem?_cons_succ, List.getElem?_cons_zero]; exact rfl)
                    · exact fun _ _ _ h => h
                    · first
                        | (refine Or.inr ⟨by rfl, ?_⟩; exact rfl)
                        | (refine Or.inl ⟨by rfl, ?_⟩
                           intro w hSw
                           (try dsimp only at hSw)
                           (try go_split_ands)
                           go_simp
                           (first | done | with_reducible rfl))
                    try simp only [Act.put, List.setIfInBounds_toArray, List.set_cons_zero, List.set_cons_succ]
                    refine take_h 19 ⟨?_, ?_, ?_, by kernel_rfl, by kernel_rfl, by kernel_rfl, ?_, ?_, by assumption, ?_⟩
                    rotate_left 2
                    · (simp only [List.getElem?_toArray, List.getElem?_cons_succ, List.getElem?_cons_zero]; exact rfl)
                    · exact fun _ _ _ h => h
                    · first
                        | (refine Or.inr ⟨by rfl, ?_⟩; exact rfl)
                        | (refine Or.inl ⟨by rfl, ?_⟩
                           intro w hSw
                           (try dsimp only at hSw)
                           (try go_split_ands)
                           go_simp
                           (first | done | with_reducible rfl))
                    try simp only [Act.put, List.setIfInBounds_toArray, List.set_cons_zero, List.set_cons_succ]
                    refine wpAnyH_done (by kernel_rfl) ?_ _
                    clear hHeld v0 v1 v2 v3 x0 x1 x2 x3 r0 r1 r2 r3 r4 r5 hw6
                    clear o0 o1 o2 o3 o4 o5 e0 e1
                    rcases HPR.out with rfl | ⟨rfl, hAf⟩
                    · as_aux_lemma =>
                        go_wp2_with (go_at_call 7; refine (num_any _ _).mono ?_; rintro e w' ⟨rfl, rfl⟩)
                        go_roundg (A.length - (n + 1))
                        case rel => exact ⟨o, taken, came, up, seen, recd, wait, n + 1, rfl, rfl, rfl, by go_num, by omega, by omega, by omega, Lib.hid ⟨HEX.out.lf, HEX.out.la⟩, HI⟩
                        case measure => omega
                    · as_aux_lemma =>
                        have HAF := Lib.hid hAf
                        clear hAf
                        go_wp2_with (go_at_call 7; refine (num_any _ _).mono ?_; rintro e w' ⟨rfl, rfl⟩)
                        go_meet
                        exact ⟨o', taken + 1, up, recd, wait, l, _, _, by go_num, rfl, rfl, by omega, HEX, HAF⟩
            · as_aux_lemma =>
                go_wp2
                go_roundg (A.length - (n + 1))
                case rel => exact ⟨o, taken, came, false, seen, recd, [], n + 1, rfl, rfl, rfl, by go_num, by omega, by omega, by omega, Lib.hid ⟨HRA.out.1.wait_ (Row.nil_ _ _ _ _), HRA.out.2⟩, Lib.hid HI.out.down⟩
                case measure => omega
            · as_aux_lemma =>
                cases up
                · have HRS := Lib.hid (resume_law HOR.out HI.out)
                  go_wp2_with fail
                  refine HRS.out.mono ?_
                  rintro e w5 ⟨o', l, er, fo5, qo5, lo5, fc5, qc5, lc5, rfl, hO5, hl5, hb5, rfl, hPr⟩
                  have hX5 := HXA.out.belowH hb5
                  obtain ⟨r0, r1, r2, r3, r4, r5⟩ := hX5.three
                  have HEX := Lib.hid (EX.of (X := N + 1) (HRA.out.1.below hb5) (HRA.out.2.below hb5) hX5 (by have := HNN.out; omega) hO5 hl5 (by have := HNN.out; have := HNZ.out; omega) (fun k hk => (HRA.out.1.wt.lt hk).2))
                  have HPR := Lib.hid hPr
                  clear hO5 hl5 hb5 hX5 hPr
                  go_wp2
                  go_meet
                  refine ⟨o', taken, true, recd, wait, l, _, _, rfl, rfl, rfl, by omega, HEX, Lib.hid ?_⟩
                  obtain ⟨seen', b1, b2⟩ := HPR.out
                  exact ⟨seen', _, b1, by rw [HI.out.dnw rfl]; exact b2⟩
                · go_wp2
                  go_roundg (A.length - (n + 1))
                  case rel => exact ⟨o, taken, came, true, seen, recd, wait, n + 1, rfl, rfl, rfl, by go_num, by omega, by omega, by omega, HRA, HI⟩
                  case measure => omega
            · as_aux_lemma =>
                obtain ⟨wo, wc2, rfl, hwc1, hwc2⟩ := HRA.out.1.wt.form
                cases up
                · as_aux_lemma =>
                    go_wp2
                    go_roundg (A.length - (n + 1))
                    case rel => exact ⟨o, taken, came, false, seen, recd, wait, n + 1, rfl, rfl, rfl, by go_num, by omega, by omega, by omega, HRA, HI⟩
                    case measure => omega
                · cases hwt : wait with
                  | nil => as_aux_lemma =>
                    subst hwt
                    go_wp2
                    go_roundg (A.length - (n + 1))
                    case rel => exact ⟨o, taken, came, true, seen, recd, [], n + 1, rfl, rfl, rfl, by go_num, by omega, by omega, by omega, HRA, HI⟩
                    case measure => omega
                  | cons k r => as_aux_lemma =>
                    subst hwt
                    obtain ⟨g, goff, gcap, tp, hwv, hkr, hcap1, hcap2, htp, hrow⟩ := Row.pop HRA.out.1.wt
                    injection hwv with hwv1 hwv2 hwv3
                    subst hwv1
                    subst hwv3
                    have hq1 : (1 : Int) ≤ (r.length : Int) + 1 := by omega
                    obtain ⟨kc, hkc⟩ : ∃ kc, kc = pkC k := ⟨_, rfl⟩
                    have hkr' : wa.rangeAt g goff kc := by rw [hkc]; exact hkr
                    have HKI : Hid ((Try.prog.info? 50).map (·.size) = some kc.length) := Lib.hid (by rw [hkc]; kernel_rfl)
                    have HKI2 : Hid ((Try.prog.info? 50).map (·.size) = some kc.toArray.size) := Lib.hid (by rw [hkc]; kernel_rfl)
                    have HK1 : Hid (∀ u ∈ kc, u.oneCell' = true) := Lib.hid (by rw [hkc]; exact eP.one _)
                    obtain ⟨wz, hwz⟩ : ∃ wz, wz = wa.alloc (.cells (pkC ⟨0, ⟨#[]⟩, ⟨#[]⟩, 0, false, 0, false⟩).toArray 50) := ⟨_, rfl⟩
                    have hbz : Below wa.heap.size wa wz := by rw [hwz]; go_grown
                    have hWz : Whole wz wa.heap.size 50 (pkC ⟨0, ⟨#[]⟩, ⟨#[]⟩, 0, false, 0, false⟩) := by rw [hwz]; exact Whole.new wa 50 _
                    obtain ⟨hWq, hlq⟩ := hWz.setAll (vs := kc) (by rw [hkc]; rfl)
                    have hth := hWz.there
                    rw [show (pkC ⟨0, ⟨#[]⟩, ⟨#[]⟩, 0, false, 0, false⟩).length = kc.toArray.size by rw [hkc]; rfl] at hth
                    have HTH := Lib.hid hth
                    obtain ⟨wq, hwq⟩ : ∃ wq, wz.setCells wa.heap.size 0 kc = wq := ⟨_, rfl⟩
                    rw [hwq] at hWq hlq
                    have hbq : Below wa.heap.size wa wq := hbz.trans (hlq.belowB hbz.size (by simp))
                    have hzq := hbq.size
                    have q0 : wq.cell? ⟨wa.heap.size, 0, none⟩ = some (.int .i64 k.kind) := by rw [hWq.cell, hkc]; rfl
                    have q17 : wq.cell? ⟨wa.heap.size, 17, none⟩ = some (.int .i64 k.q) := by rw [hWq.cell, hkc]; rfl
                    have q20 : wq.cell? ⟨wa.heap.size, 20, none⟩ = some (.int .i64 k.id) := by rw [hWq.cell, hkc]; rfl
                    have q21 : wq.cell? ⟨wa.heap.size, 21, none⟩ = some (.string k.p) := by rw [hWq.cell, hkc]; rfl
                    have HRQ := Lib.hid (And.intro ((HRA.out.1.wait_ (wait' := r) hrow).below hbq) (HRA.out.2.below hbq))
                    have HXQ := Lib.hid (HXA.out.belowH hbq)
                    rw [hkc] at hWq
                    have HWQ := Lib.hid hWq
                    have HKR := Lib.hid hkr'
                    have HOB2 := Lib.hid (HOB.out.belowH hbq)
                    have HOR2 := Lib.hid (HOR.out.below hbq)
                    have hwtl : (k :: r).length = r.length + 1 := rfl
                    obtain ⟨p0, p1, p2, p3, p4, p5⟩ := HOB2.out.three
                    simp only [pkC] at hwz
                    have hch := hwz.symm
                    clear hkr hkr' hrow hbq hWq hwz hcap2 hbz hWz hlq hth hkc
                    go_upto_block 3 with (first | (refine wpList_load_mid rfl 50 (.tmp 56) rfl g goff rfl kc _ HKR.out Try.underlying50 rfl HKI.out ?_) | (refine wpList_store_mid rfl 50 (.tmp 15) (.tmp 57) rfl wa.heap.size 0 kc.toArray rfl rfl HTH.out HKI2.out (all_oneCell_toArray HK1.out) ?_))
                    clear o0 o1 o2 o3 o4 o5 htp hch hwq
                    by_cases hk6 : k.kind = 6
                    · as_aux_lemma =>
                        have hk6b : (k.kind == 6) = true := beq_iff_eq.2 hk6
                        have HCO := Lib.hid (comp_law HOR2.out HI.out hk6)
                        clear hk6
                        go_wp2_with fail
                        refine HCO.out.mono ?_
                        rintro e w5 ⟨o', l, er, fo5, qo5, lo5, fc5, qc5, lc5, rfl, hO5, hl5, hb5, rfl, hPr⟩
                        have hX5 := HXQ.out.belowH hb5
                        obtain ⟨r0, r1, r2, r3, r4, r5⟩ := hX5.three
                        have HEX := Lib.hid (EX.of (X := N + 1) (HRQ.out.1.below hb5) (HRQ.out.2.below hb5) hX5 (by have := HNN.out; omega) hO5 hl5 (by have := HNN.out; have := HNZ.out; omega) (fun k hk => (HRQ.out.1.wt.lt hk).2))
                        have HPR := Lib.hid hPr
                        clear hO5 hl5 hb5 hX5 hPr
                        go_wp2
                        go_meet
                        exact ⟨o', taken, true, recd, r, l, _, _, rfl, rfl, rfl, by omega, HEX, Lib.hid HPR.out.after⟩
                    · have hk6b : (k.kind == 6) = false := beq_eq_false_iff_ne.2 hk6
                      by_cases hkq : k.q = 1
                      · as_aux_lemma =>
                          have hkqb : (k.q == 1) = true := beq_iff_eq.2 hkq
                          have HCO := Lib.hid (ack_law HOR2.out HI.out hk6 hkq)
                          clear hk6 hkq
                          go_wp2_with fail
                          refine HCO.out.mono ?_
                          rintro e w5 ⟨o', l, er, fo5, qo5, lo5, fc5, qc5, lc5, rfl, hO5, hl5, hb5, rfl, hPr⟩
                          have hX5 := HXQ.out.belowH hb5
                          obtain ⟨r0, r1, r2, r3, r4, r5⟩ := hX5.three
                          have HEX := Lib.hid (EX.of (X := N + 1) (HRQ.out.1.below hb5) (HRQ.out.2.below hb5) hX5 (by have := HNN.out; omega) hO5 hl5 (by have := HNN.out; have := HNZ.out; omega) (fun k hk => (HRQ.out.1.wt.lt hk).2))
                          have HPR := Lib.hid hPr
                          clear hO5 hl5 hb5 hX5 hPr
                          go_wp2
                          go_meet
                          exact ⟨o', taken, true, recd, r, l, _, _, rfl, rfl, rfl, by omega, HEX, Lib.hid HPR.out.after⟩
                      · as_aux_lemma =>
                          have hkqb : (k.q == 1) = false := beq_eq_false_iff_ne.2 hkq
                          obtain ⟨nn, hnn, hpl, hrl⟩ := rec_num HI.out hk6 hkq
                          have HCO := Lib.hid (hrl wq _ HOR2.out)
                          clear hk6 hkq hrl
                          go_wp2_with fail
                          refine HCO.out.mono ?_
                          rintro e w5 ⟨o', l, er, fo5, qo5, lo5, fc5, qc5, lc5, rfl, hO5, hl5, hb5, rfl, hPr⟩
                          have hX5 := HXQ.out.belowH hb5
                          obtain ⟨r0, r1, r2, r3, r4, r5⟩ := hX5.three
                          have hEX := EX.of (X := N + 1) (HRQ.out.1.below hb5) (HRQ.out.2.below hb5) hX5 (by have := HNN.out; omega) hO5 hl5 (by have := HNN.out; have := HNZ.out; omega) (fun k hk => (HRQ.out.1.wt.lt hk).2)
                          obtain ⟨w6, hw6⟩ : ∃ w6, w6 = (((w5.setCell ⟨N + 1, 0, none⟩ (.int .i64 o'.last)).setCell ⟨N + 1, 1, none⟩ (.slice fo5 o'.F.length fc5)).setCell ⟨N + 1, 2, none⟩ (.slice qo5 o'.Q.length qc5)) := ⟨_, rfl⟩
                          rw [← hw6] at hEX
                          have hl6 : Left [N + 1] w5 w6 := hw6 ▸ (((Left.refl _ w5).setCell (Or.inl (by simp)) _).setCell (Or.inl (by simp)) _).setCell (Or.inl (by simp)) _
                          have hW6 := (HWQ.out.belowH hb5).left hl6 (by have := HNZ.out; simp; omega)
                          have s21 : w6.cell? ⟨wa.heap.size, 21, none⟩ = some (.string k.p) := hW6.cell 21
                          obtain ⟨PB, X, hPB, hpb1, hpb2, hx1, hx2⟩ := pl_x nn (by omega)
                          have HX := Lib.hid (And.intro hx1 hx2)
                          clear hx1 hx2
                          rw [hpl, ← hPB] at s21
                          have z1 : ∃ zb : Bool, w6.cell? ⟨O + 2, nn, none⟩ = some (.bool zb) := by
                            rw [hEX.la.rc.cell, List.getElem?_map, List.getElem?_eq_getElem (by have := HI.out.core.r65; omega)]
                            exact ⟨_, rfl⟩
                          have z2 : w6.frozen? ⟨O + 2, nn, none⟩ = false := hEX.la.rc.free _
                          obtain ⟨zv, z1⟩ := z1
                          have HEX2 := Lib.hid (hEX.setrc nn)
                          have HPR := Lib.hid hPr
                          have HW6 := Lib.hid hw6
                          clear hO5 hl5 hb5 hX5 hPr hl6 hW6 hEX hw6 hpl hPB
                          go_upto_region 21 with fail
                          rw [← HW6.out]
                          have hnn2 : (nn : Int) < 65 := by omega
                          obtain ⟨hw1, hw2⟩ := HX.out
                          go_wp2
                          clear hw1 hw2
                          go_meet
                          exact ⟨o', taken, true, recd.set nn true, r, l, _, _, rfl, rfl, rfl, by omega, HEX2, Lib.hid HPR.out.after⟩
          case rest => as_aux_lemma =>
            obtain ⟨o', taken', up', recd', wait', l, fx, qx, rfl, rfl, rfl, htn', HEX, HAF⟩ := hcut
            obtain ⟨fo2, fc2, rfl, _, _⟩ := (Rd.of_own HEX.out.xf).form
            obtain ⟨qo2, qc2, rfl, _, _⟩ := (Rd.of_own HEX.out.xq).form
            obtain ⟨lo2, lc2, rfl, hlc1, hlc2⟩ := (Rd.of_own HEX.out.lr).form
            obtain ⟨seenF, cameF, hokL, hInvF⟩ := HAF.out
            have HINV := Lib.hid hInvF
            have hll : l.length ≤ 1000 := by have := hInvF.small; rw [List.length_append] at this; omega
            have hRO := rO_ok wc _ o' (⟨_, _, rfl, Rd.of_own HEX.out.xf, Rd.of_own HEX.out.xq⟩ : OR wc (.agg #[.int .i64 o'.last, .slice fo2 o'.F.length fc2, .slice qo2 o'.Q.length qc2]) o') hInvF.core.ok
            have HRO := Lib.hid hRO
            have HOKL := Lib.hid hokL
            obtain ⟨x0, x1, x2, x3, x4, x5⟩ := HEX.out.xb.three
            clear hokL hInvF hRO
            go_wp2_with (go_at_call 7; refine (num_any _ _).mono ?_; rintro e w' ⟨rfl, rfl⟩)
            refine HRO.out.mono ?_
            rintro e w7 ⟨rfl, hb7⟩
            obtain ⟨fq, qq, hOq, _, _⟩ := (HEX.out.lf.below hb7).ob
            have hOq' := hOq
            obtain ⟨y0, y1, y2, y3, y4, y5⟩ := hOq.three
            have hX7 := HEX.out.xb.belowH hb7
            clear x0 x1 x2 x3 x4 x5
            obtain ⟨x0, x1, x2, x3, x4, x5⟩ := hX7.three
            obtain ⟨w8, hw8⟩ : ∃ w8, w8 = ((w7.setCell ⟨O, 0, none⟩ (.int .i64 o'.last)).setCell ⟨O, 1, none⟩ (.slice fo2 o'.F.length fc2)).setCell ⟨O, 2, none⟩ (.slice qo2 o'.Q.length qc2) := ⟨_, rfl⟩
            have hl8 : Left [O] w7 w8 := hw8 ▸ (((Left.refl _ w7).setCell (Or.inl (by simp)) _).setCell (Or.inl (by simp)) _).setCell (Or.inl (by simp)) _
            have hO8 : Whole w8 O 25 [.int .i64 o'.last, .slice fo2 o'.F.length fc2, .slice qo2 o'.Q.length qc2] := by rw [hw8]; exact ((hOq'.put 0 _).put 1 _).put 2 _
            have hLF8 := (HEX.out.lf.below hb7).setO hl8 hO8 (own_below HEX.out.xf hb7) (own_below HEX.out.xq hb7)
            have hLA8 := (HEX.out.la.below hb7).setO hOq' hl8
            have hlr8 := own_leftB (own_below HEX.out.lr hb7) hl8 (fun k hk e => by simp only [List.mem_singleton] at hk; subst hk; exact (own_ty (own_below HEX.out.lr hb7) e).ne hOq'.ty (by decide) rfl)
            have H8 : Hid (InL w O [Value.int .i64 last, .slice fo F.length fc, .slice qo Q.length qc, .slice (some ⟨b2, off, none⟩) A.length cap] o' taken' recd' wait' l (.slice lo2 l.length lc2) 0 came seen (seenF, cameF) u9 w8) := Lib.hid ⟨by rw [List.take_zero, List.append_nil]; exact hLF8, hLA8, hlr8, HEX.out.ne, HOKL.out, HINV.out.small⟩
            have HW8 := Lib.hid hw8
            clear hb7 hOq hOq' hX7 hl8 hO8 hLF8 hLA8 hlr8 hw8
            go_upto_block 4 with (go_at_call 7; refine (num_any _ _).mono ?_; rintro e w' ⟨rfl, rfl⟩)
            rw [← HW8.out]
            clear x0 x1 x2 x3 x4 x5 y0 y1 y2 y3 y4 y5
            go_wp2_with fail
            go_loopg [5, 9, 16] l.length (fun g cm wv s wx => ∃ (k c : Nat) (sn : List Int), cm = .int .i64 c ∧ s = .int .i64 k ∧ k + g = l.length ∧ Hid (InL w O [Value.int .i64 last, .slice fo F.length fc, .slice qo Q.length qc, .slice (some ⟨b2, off, none⟩) A.length cap] o' taken' recd' wait' l (.slice lo2 l.length lc2) k c sn (seenF, cameF) wv wx))
            case atStart => exact ⟨0, came, seen, rfl, rfl, by omega, H8⟩
            case round => as_aux_lemma =>
              obtain ⟨k, c, sn, rfl, rfl, hkg, HL⟩ := hrel
              by_cases hkl : k < l.length
              · as_aux_lemma =>
                  go_upto_block 5 with fail
                  go_cut [5, 9] (fun cm wv wx => ∃ (c' : Nat) (sn' : List Int), cm = .int .i64 c' ∧ Hid (InL w O [Value.int .i64 last, .slice fo F.length fc, .slice qo Q.length qc, .slice (some ⟨b2, off, none⟩) A.length cap] o' taken' recd' wait' l (.slice lo2 l.length lc2) (k + 1) c' sn' (seenF, cameF) wv wx))
                  case first => as_aux_lemma =>
                    refine chk_at w wr O (by have := HNN.out; omega) [Value.int .i64 last, .slice fo F.length fc, .slice qo Q.length qc, .slice (some ⟨b2, off, none⟩) A.length cap] o' taken' c (by have := HINV.out.core.t; omega) recd' wait' l lo2 lc2 k sn seenF cameF _ HL hkl _ _ ?_ (fun A c' sn' wv' wx hA h => ?_)
                    · kernel_rfl
                    · obtain ⟨v, rfl⟩ := frame_u hA
                      clear hA
                      unfold ChkG
                      go_step
                      go_step
                      go_meet
                      exact ⟨c', sn', rfl, Lib.hid h⟩
                  case rest => as_aux_lemma =>
                    obtain ⟨c', sn', rfl, HL2⟩ := hcut
                    go_wp2
                    go_roundg (l.length - (k + 1))
                    case rel => exact ⟨k + 1, c', sn', rfl, by go_num, by omega, HL2⟩
                    case measure => omega
              · as_aux_lemma =>
                  have HLE := Lib.hid (HL.out.fin (by omega))
                  have hce : c = cameF := HLE.out.1
                  subst hce
                  go_wp2
                  go_roundg (A.length - (n + 1))
                  case rel => exact ⟨o', taken', c, up', seenF, recd', wait' ++ l, n + 1, rfl, rfl, rfl, by go_num, by omega, by omega, by omega, Lib.hid HLE.out.2, HINV⟩
                  case measure => omega
        · as_aux_lemma =>
            have HIO := Lib.hid (And.intro HR.out.1 HI.out)
            by_cases h1 : n < A.length
            · have h2 : ¬ n < 60 := by omega
              clear hlt
              go_wp2
              go_meet
              exact ⟨o, taken, came, up, seen, recd, wait, rfl, rfl, rfl, Lib.hid HIO.out.1, Lib.hid HIO.out.2⟩
            · clear hlt
              go_wp2
              go_meet
              exact ⟨o, taken, came, up, seen, recd, wait, rfl, rfl, rfl, Lib.hid HIO.out.1, Lib.hid HIO.out.2⟩
    case rest => as_aux_lemma =>
      obtain ⟨o, taken, came, up, seen, recd, wait, rfl, rfl, rfl, HLF, HI⟩ := hcut
      refine (by assumption : ∀ (a : Act) (w : World), Code.wp _ _ _ a w → _) _ _ ?_
      refine tail_law w wc O [Value.int .i64 last, .slice fo F.length fc, .slice qo Q.length qc, .slice ao A.length cap] o taken came up seen recd wait _ HLF HI _ ?_
      kernel_rfl
  · as_aux_lemma =>
      go_wp2
      go_ret
      exact ⟨rfl, HB1.out⟩
end Go.Proofs.Ytndidkaoigjbiaa
