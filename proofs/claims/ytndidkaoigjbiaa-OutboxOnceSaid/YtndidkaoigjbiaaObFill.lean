/- The outbox: it is filled. -/



import Derived.Test.YtndidkaoigjbiaaObOwn
import Derived.Test.YtndidkaoigjbiaaOps
import Derived.Test.YtndidkaoigjbiaaSplit
import Derived.Deep.LoopGhost
import Derived.Deep.CutBlock
namespace Go.Proofs.Ytndidkaoigjbiaa
open Go.RowKit
theorem inf_P : (Try.prog.info? 50).map (fun i => (i.zero, i.size, i.bytes)) = some (some (pkV ⟨0, ⟨#[]⟩, ⟨#[]⟩, 0, false, 0, false⟩), 24, 288) := by kernel_rfl
theorem one_newF (w : World) (f : Fl) : Rd (w.alloc (.cells #[.int .i64 f.id, .string f.m.t, .string f.m.p, .int .i64 f.m.q, .bool f.m.r, .bool f.rc] 61)).drew (w.heap.size + 1) 6 (.slice (some ⟨w.heap.size, 0, none⟩) 1 1) 1 (flC f) := by
  refine ⟨rfl, _, _, rfl, by omega, by unfold maxLen; omega, (fun e => by cases e), fun _ => ⟨_, _, rfl, by omega, fun j u hu => ?_⟩⟩
  have hW := Whole.new w 61 (flC f)
  rw [Nat.zero_add]
  show World.cell? (w.alloc (.cells (flC f).toArray 61)) _ = _
  rw [hW.cell]
  exact hu
theorem zP_size : (pkV ⟨0, ⟨#[]⟩, ⟨#[]⟩, 0, false, 0, false⟩).cells.size = 24 := rfl
theorem one_newP (w : World) (k : Pk) : Rd (w.alloc (.cells (pkC k).toArray 50)) (w.heap.size + 1) 24 (.slice (some ⟨w.heap.size, 0, none⟩) 1 1) 1 (pkC k) := by
  refine ⟨rfl, _, _, rfl, by omega, by unfold maxLen; omega, (fun e => by cases e), fun _ => ⟨_, _, rfl, by omega, fun j u hu => ?_⟩⟩
  have hW := Whole.new w 50 (pkC k)
  rw [Nat.zero_add, hW.cell]
  exact hu
def pub0 (S : List Fl) : List Pk := S.map (pub · false)
theorem atI_neg {I : List Int} {i : Int} : (0 ≤ atI I i) ↔ i ∈ I := by
  unfold atI posI
  by_cases h : I.findIdx (· == i) < I.length
  · rw [if_pos h]
    have h2 := List.findIdx_getElem (w := h)
    exact ⟨fun _ => by simp at h2; exact h2 ▸ List.getElem_mem h, fun _ => by omega⟩
  · rw [if_neg h]
    refine ⟨fun h => by omega, fun hm => absurd (List.findIdx_lt_length.2 ⟨i, hm, by simp⟩) h⟩
theorem nid_is {I : List Int} : ∀ (k m : Nat) (l : Int), k < m → (∀ i, i < k → nxs (i + 1) l ∈ I) → nxs (k + 1) l ∉ I → nid I m l = nxs (k + 1) l
  | 0, m + 1, l, _, _, h => by
    unfold nid
    rw [if_neg (by simpa [nxs] using h)]
    rfl
  | k + 1, m + 1, l, hk, hm, h => by
    unfold nid
    rw [if_pos (by simpa [nxs] using hm 0 (by omega))]
    exact nid_is k m (nx l) (by omega) (fun i hi => hm (i + 1) (by omega)) h
/-- Rows of one's own, the queue's one maybe cut at the front. -/
def OQ (w : World) (B : Nat) (v : Value) (o : OB) : Prop := ∃ fv qv, v = .agg #[.int .i64 o.last, fv, qv] ∧ w.ownsRow B 61 6 fv o.F.length (eF.cells o.F) ∧ Row w B 34 4 qv o.Q.length (eM.cells o.Q)
theorem OQ.rd {w : World} {B : Nat} {v : Value} {o : OB} (h : OQ w B v o) : OR w v o := by
  obtain ⟨fv, qv, e, h1, h2⟩ := h
  exact ⟨fv, qv, e, Rd.of_own h1, h2.rd⟩
structure FB (w wr : World) (B : Nat) (last : Int) (F : List Fl) (Q : List Msg) (S : List Fl) (fv qv lv : Value) : Prop where
  box : Whole wr w.heap.size 25 [.int .i64 last, fv, qv]
  ret : Whole wr (w.heap.size + 1) 25 [.int .i64 0, .slice none 0 0, .slice none 0 0]
  fr : wr.ownsRow B 61 6 fv F.length (eF.cells F)
  qr : Row wr B 34 4 qv Q.length (eM.cells Q)
  lr : wr.ownsRow w.heap.size 50 24 lv S.length (eP.cells (pub0 S))
  bel : Below B w wr
  sm : F.length ≤ 100000 ∧ Q.length ≤ 100000 ∧ S.length ≤ F.length ∧ S.length ≤ 4
  ls : 0 ≤ last ∧ last ≤ 65535
section
variable {w wr wx : World} {B : Nat} {last : Int} {F S : List Fl} {Q : List Msg} {fv qv lv : Value}
theorem FB.below (h : FB w wr B last F Q S fv qv lv) (hb : Below wr.heap.size wr wx) (hB : B ≤ w.heap.size) : FB w wx B last F Q S fv qv lv := by
  have hz := h.bel.size
  exact ⟨h.box.belowH hb, h.ret.belowH hb, own_below h.fr hb, h.qr.left (Left.of_below hb []) (by simp), own_below h.lr hb, h.bel.trans (hb.mono (by omega)), h.sm, h.ls⟩
theorem FB.or_ (h : FB w wr B last F Q S fv qv lv) : OR wr (.agg #[.int .i64 last, fv, qv]) ⟨last, F, Q⟩ := ⟨fv, qv, rfl, Rd.of_own h.fr, h.qr.rd⟩
/-- Another last identifier. -/
theorem FB.last_ (h : FB w wr B last F Q S fv qv lv) {l' : Int} (hl : 0 ≤ l' ∧ l' ≤ 65535) (hB : B ≤ w.heap.size) : FB w (wr.setCell ⟨w.heap.size, 0, none⟩ (.int .i64 l')) B l' F Q S fv qv lv := by
  have hl2 : Left [w.heap.size] wr (wr.setCell ⟨w.heap.size, 0, none⟩ (.int .i64 l')) := (Left.refl _ _).setCell (Or.inl (by simp)) _
  have hb := h.box.ty
  have hz := h.bel.size
  refine ⟨h.box.put 0 _, h.ret.left hl2 (by simp), own_leftB h.fr hl2 (fun k hk e => ?_), h.qr.left hl2 (fun k hk e => ?_), own_leftB h.lr hl2 (fun k hk e => ?_), h.bel.trans (hl2.belowB (by omega) (by simp; omega)), h.sm, hl⟩
  · simp only [List.mem_singleton] at hk
    subst hk
    exact (own_ty h.fr e).ne hb (by decide) rfl
  · simp only [List.mem_singleton] at hk
    subst hk
    exact (h.qr.ty e).ne hb (by decide) rfl
  · simp only [List.mem_singleton] at hk
    subst hk
    exact (own_ty h.lr e).ne hb (by decide) rfl
end
set_option maxRecDepth 20000 in
set_option maxHeartbeats 4000000 in
theorem fill_any (w : World) (B : Nat) (v : Value) (o : OB) (hv : OO w B v o) (hB : B ≤ w.heap.size) (hs : Small o) (hl : 0 ≤ o.last ∧ o.last ≤ 65535) :
    Calls Try.prog 18 #[v] w fun e w' => ∃ v' lv, e = .returned (.tuple #[v', lv]) ∧ OQ w' B v' (fillO o.last o.F o.Q).1 ∧ w'.ownsRow w.heap.size 50 24 lv (fillO o.last o.F o.Q).2.length (eP.cells (pub0 (fillO o.last o.F o.Q).2)) ∧ Below B w w' := by
  obtain ⟨fv, qv, rfl, hF, hQ⟩ := hv
  obtain ⟨fo, fc, rfl, _, _⟩ := (Rd.of_own hF).form
  obtain ⟨qo, qc, rfl, _, _⟩ := (Rd.of_own hQ).form
  obtain ⟨w0, hw0⟩ : ∃ w0, w0 = ((w.alloc (.cells #[.int .i64 o.last, .slice fo o.F.length fc, .slice qo o.Q.length qc] 25)).alloc (.cells #[.int .i64 0, .slice none 0 0, .slice none 0 0] 25)) := ⟨_, rfl⟩
  have hb0 : Below w.heap.size w w0 := by rw [hw0]; go_grown
  have hA : Whole w0 w.heap.size 25 [.int .i64 o.last, .slice fo o.F.length fc, .slice qo o.Q.length qc] := by rw [hw0]; exact (Whole.new w 25 _).alloc _
  have hR : Whole w0 (w.heap.size + 1) 25 [.int .i64 0, .slice none 0 0, .slice none 0 0] := by
    rw [hw0]
    have := Whole.new (w.alloc (.cells #[.int .i64 o.last, .slice fo o.F.length fc, .slice qo o.Q.length qc] 25)) 25 [.int .i64 0, .slice none 0 0, .slice none 0 0]
    simpa using this
  have H0 : Hid (FB w w0 B o.last o.F o.Q [] (.slice fo o.F.length fc) (.slice qo o.Q.length qc) (.slice none 0 0)) := Lib.hid ⟨hA, hR, own_below hF hb0, Row.of_own (own_below hQ hb0), World.ownsRow_nil _ _ _ _, hb0.mono hB, ⟨hs.1, hs.2, by simp, by simp⟩, hl⟩
  have HW := Lib.hid hw0
  clear hF hQ hA hR hb0 hw0
  go_enter Try.func18, Try.ntmps18
  go_wp2
  rw [← HW.out]
  go_loopg [4] 4 (fun g lv wr => ∃ (last : Int) (F : List Fl) (Q : List Msg) (S : List Fl) (fv qv : Value), S.length + g = 4 ∧ Hid (FB w wr B last F Q S fv qv lv) ∧ Hid (fillO o.last o.F o.Q = ((fillO last F Q).1, S ++ (fillO last F Q).2)))
  case atStart => exact ⟨_, _, _, [], _, _, by simp, H0, Lib.hid (by simp)⟩
  case round =>
    obtain ⟨last, F, Q, S, fv, qv, hg, HR, HGO⟩ := hrel
    obtain ⟨fo, fc, rfl, hfc1, hfc2⟩ := (Rd.of_own HR.out.fr).form
    obtain ⟨qo, qc, rfl, hqc1, hqc2⟩ := HR.out.qr.form
    obtain ⟨po, pc, rfl, hpc1, hpc2⟩ := (Rd.of_own HR.out.lr).form
    have hfc3 : fc ≤ 9223372036854775807 := by unfold maxLen at hfc2; omega
    have hqc3 : qc ≤ 9223372036854775807 := by unfold maxLen at hqc2; omega
    obtain ⟨a0, a1, a2, a3, a4, a5⟩ := HR.out.box.three
    obtain ⟨r0, r1, r2, r3, r4, r5⟩ := HR.out.ret.three
    by_cases hF4 : F.length < 4
    · have hF4b : (F.length : Int) < 4 := by omega
      cases hq : Q with
      | nil =>
        subst hq
        have HRES : Hid (fillO o.last o.F o.Q = (⟨last, F, []⟩, S)) := Lib.hid (by rw [HGO.out]; simp [fillO])
        have hl3 : Left [w.heap.size + 1] wr (((wr.setCell ⟨w.heap.size + 1, 0, none⟩ (.int .i64 last)).setCell ⟨w.heap.size + 1, 1, none⟩ (.slice fo F.length fc)).setCell ⟨w.heap.size + 1, 2, none⟩ (.slice qo (0) qc)) := (((Left.refl _ wr).setCell (Or.inl (by simp)) _).setCell (Or.inl (by simp)) _).setCell (Or.inl (by simp)) _
        have HRET := Lib.hid (((HR.out.ret.put 0 (.int .i64 last)).put 1 (.slice fo F.length fc)).put 2 (.slice qo (0) qc))
        have hrt := HR.out.ret.ty
        have HBE := Lib.hid (HR.out.bel.trans (hl3.belowB (B := B) (by have := HR.out.bel.size; omega) (by simp; omega)))
        have HFR := Lib.hid (own_leftB HR.out.fr hl3 (fun k hk e => by simp only [List.mem_singleton] at hk; subst hk; exact (own_ty HR.out.fr e).ne hrt (by decide) rfl))
        have HQR := Lib.hid (HR.out.qr.left hl3 (fun k hk e => by simp only [List.mem_singleton] at hk; subst hk; exact (HR.out.qr.ty e).ne hrt (by decide) rfl))
        have HLR := Lib.hid (own_leftB HR.out.lr hl3 (fun k hk e => by simp only [List.mem_singleton] at hk; subst hk; exact (own_ty HR.out.lr e).ne hrt (by decide) rfl))
        clear hl3 hrt
        go_wp2
        (try simp only [Exit.inBlock, Exit.then])
        refine bodyPost_ret (results_row_tmp (P := Try.prog) (p := 2) (u := 3) (ty := 25) rfl _ _ (w.heap.size + 1) 25 _ (0, 0) _ rfl HRET.out Try.underlying25 rfl (by kernel_rfl)) rfl ?_
        refine ⟨_, _, rfl, ?_, ?_, HBE.out⟩
        · rw [HRES.out]; exact ⟨_, _, rfl, HFR.out, HQR.out⟩
        · rw [HRES.out]; exact HLR.out
      | cons m Q' =>
        subst hq
        have hls := HR.out.ls
        have hrem : last.tmod 65535 = last % 65535 := Int.tmod_eq_emod_of_nonneg hls.1
        obtain ⟨NI, hNI⟩ : ∃ NI, nid (ids F) (F.length + 1) last = NI := ⟨_, rfl⟩
        have hnew := nid_new (I := ids F) hls.1 (by rw [ids_len]; omega)
        rw [ids_len, hNI] at hnew
        have HNI := Lib.hid hNI
        have HNEW := Lib.hid hnew
        have HR3 := Lib.hid (HR.out.last_ (l' := nx last) (by have := nx_in last hls.1; omega) hB)
        clear hnew hNI
        go_upto_block 2 with fail
        obtain ⟨w3, hw3⟩ : ∃ w3, w3 = wr.setCell ⟨w.heap.size, 0, none⟩ (.int .i64 (last % 65535 + 1)) := ⟨_, rfl⟩
        have HR3' : Hid (FB w w3 B (nx last) F (m :: Q') S (.slice fo F.length fc) (.slice qo (m :: Q').length qc) (.slice po S.length pc)) := Lib.hid (by rw [hw3]; exact HR3.out)
        rw [← hw3]
        clear hw3 HR3 a0 a1 a2 a3 a4 a5 r0 r1 r2 r3 r4 r5 hrem
        go_cut [25] (fun _ wx => Hid (FB w wx B NI F (m :: Q') S (.slice fo F.length fc) (.slice qo (m :: Q').length qc) (.slice po S.length pc)))
        case first =>
          go_wp2
          go_loopg [25] (F.length + 1) (fun g _ wx => ∃ k, k + g = F.length + 1 ∧ Hid (FB w wx B (nxs (k + 1) last) F (m :: Q') S (.slice fo F.length fc) (.slice qo (m :: Q').length qc) (.slice po S.length pc)) ∧ Hid (∀ i, i < k → nxs (i + 1) last ∈ ids F))
          case atStart => exact ⟨0, by omega, HR3', Lib.hid (fun i hi => by omega)⟩
          case round =>
            obtain ⟨k, hkg, HRi, HKi⟩ := hrel
            have hk0 : k ≤ F.length := by
              have := nxs_le hls.1 (ids F) k (by omega) HKi.out
              rwa [ids_len] at this
            obtain ⟨cu, hcu⟩ : ∃ c, nxs (k + 1) last = c := ⟨_, rfl⟩
            rw [hcu] at HRi
            have HCU := Lib.hid hcu
            obtain ⟨a0, a1, a2, a3, a4, a5⟩ := HRi.out.box.three
            have hcl := HRi.out.ls
            have hrem : cu.tmod 65535 = cu % 65535 := Int.tmod_eq_emod_of_nonneg hcl.1
            have HAT := Lib.hid (at_any wr _ _ cu HRi.out.or_ ⟨HRi.out.sm.1, HRi.out.sm.2.1⟩)
            clear hcu
            go_wp2_with fail
            refine HAT.out.mono ?_
            rintro e w4 ⟨rfl, hb4⟩
            simp only
            have HR4 := Lib.hid (HRi.out.below hb4 hB)
            obtain ⟨b0, b1, b2, b3, b4, b5⟩ := HR4.out.box.three
            clear hb4
            by_cases hm : cu ∈ ids F
            · have hpos : 0 ≤ atI (ids F) cu := atI_neg.2 hm
              have HK2 : Hid (∀ i, i < k + 1 → nxs (i + 1) last ∈ ids F) := Lib.hid (fun i hi => by
                by_cases e : i = k
                · subst e; rw [HCU.out]; exact hm
                · exact HKi.out i (by omega))
              have hk1 : k + 1 ≤ F.length := by
                have := nxs_le hls.1 (ids F) (k + 1) (by omega) HK2.out
                rwa [ids_len] at this
              have HR5 := Lib.hid (HR4.out.last_ (l' := nx cu) (by have := nx_in cu hcl.1; omega) hB)
              have hnx : nx cu = nxs (k + 1 + 1) last := by rw [nxs_succ (k + 1), HCU.out]
              have HNX := Lib.hid hnx
              clear hm hnx
              obtain ⟨at_, hat⟩ : ∃ a, atI (ids F) cu = a := ⟨_, rfl⟩
              rw [hat] at hpos ⊢
              clear hat
              go_wp2
              go_roundg (F.length - k)
              case rel => exact ⟨k + 1, by omega, by rw [← HNX.out]; exact HR5, HK2⟩
              case measure => omega
            · have hneg : ¬ 0 ≤ atI (ids F) cu := fun h => hm (atI_neg.1 h)
              have HE : Hid (cu = NI) := Lib.hid (by
                have := nid_is (I := ids F) k (F.length + 1) last (by omega) HKi.out (by rw [HCU.out]; exact hm)
                rw [← HNI.out, this, HCU.out])
              clear hm
              obtain ⟨at_, hat⟩ : ∃ a, atI (ids F) cu = a := ⟨_, rfl⟩
              rw [hat] at hneg ⊢
              clear hat
              go_wp2
              go_meet
              exact (by rw [← HE.out]; exact HR4)
        case rest =>
          have HRc := hcut
          obtain ⟨a0, a1, a2, a3, a4, a5⟩ := HRc.out.box.three
          obtain ⟨qg, qoff, qcap, hqv, hqB, hqlt, hqn, hqm, hqcells⟩ := HRc.out.qr.at_ (by simp)
          injection hqv with hqv1 hqv2 hqv3
          subst hqv1 hqv3
          obtain ⟨m0, m1, m2, m3⟩ : wc.cell? ⟨qg, qoff, none⟩ = some (.string m.t) ∧ wc.cell? ⟨qg, qoff + 1, none⟩ = some (.string m.p) ∧ wc.cell? ⟨qg, qoff + 2, none⟩ = some (.int .i64 m.q) ∧ wc.cell? ⟨qg, qoff + 3, none⟩ = some (.bool m.r) := ⟨hqcells 0 _ rfl, hqcells 1 _ rfl, hqcells 2 _ rfl, hqcells 3 _ rfl⟩
          have HQC := Lib.hid hqcells
          clear hqcells
          obtain ⟨N5, hN5e⟩ : ∃ N5, wc.heap.size = N5 := ⟨_, rfl⟩
          have E5 := Lib.hid hN5e
          clear hN5e
          go_upto_region 6 with fail
          go_cut [5] (fun s wx => s = .pointer (some ⟨wc.heap.size, 0, none⟩) ∧ Whole wx wc.heap.size 61 (flC ⟨NI, m, false⟩) ∧ Below wc.heap.size wc wx)
          case first =>
            refine wp_region_held_drew (S := fun wx => wx.cell? ⟨w.heap.size, 0, none⟩ = some (.int .i64 NI) ∧ wx.cell? ⟨w.heap.size, 2, none⟩ = some (.slice (some ⟨qg, qoff, none⟩) (Q'.length + 1) qc) ∧ wx.cell? ⟨qg, qoff, none⟩ = some (.string m.t) ∧ wx.cell? ⟨qg, qoff + 1, none⟩ = some (.string m.p) ∧ wx.cell? ⟨qg, qoff + 2, none⟩ = some (.int .i64 m.q) ∧ wx.cell? ⟨qg, qoff + 3, none⟩ = some (.bool m.r)) (by kernel_rfl) ⟨a0, a2, m0, m1, m2, m3⟩ (fun hHeld => ?_)
            refine take_h 0 ⟨?_, ?_, ?_, by kernel_rfl, by kernel_rfl, by kernel_rfl, ?_, ?_, by assumption, ?_⟩
            rotate_left 2
            · (simp only [List.getElem?_toArray, List.getElem?_cons_zero]; exact rfl)
            · exact fun _ _ _ h => h
            · first
                | (refine Or.inr ⟨by rfl, ?_⟩; exact rfl)
                | (refine Or.inl ⟨by rfl, ?_⟩
                   intro w hSw
                   (try dsimp only at hSw)
                   (try go_split_ands)
                   go_simp
                   (first | done | with_reducible rfl))
            try simp only [Act.put, List.setIfInBounds_toArray, List.set_cons_zero, List.set_cons_succ]
            refine take_h 1 ⟨?_, ?_, ?_, by kernel_rfl, by kernel_rfl, by kernel_rfl, ?_, ?_, by assumption, ?_⟩
            rotate_left 2
            · (simp only [List.getElem?_toArray, List.getElem?_cons_succ, List.getElem?_cons_zero]; exact rfl)
            · exact fun _ _ _ h => h
            · first
                | (refine Or.inr ⟨by rfl, ?_⟩; exact rfl)
                | (refine Or.inl ⟨by rfl, ?_⟩
                   intro w hSw
                   (try dsimp only at hSw)
                   (try go_split_ands)
                   go_simp
                   (first | done | with_reducible rfl))
            try simp only [Act.put, List.setIfInBounds_toArray, List.set_cons_zero, List.set_cons_succ]
            refine take_h 2 ⟨?_, ?_, ?_, by kernel_rfl, by kernel_rfl, by kernel_rfl, ?_, ?_, by assumption, ?_⟩
            rotate_left 2
            · (simp only [List.getElem?_toArray, List.getElem?_cons_succ, List.getElem?_cons_zero]; exact rfl)
            · exact fun _ _ _ h => h
            · first
                | (refine Or.inr ⟨by rfl, ?_⟩; exact rfl)
                | (refine Or.inl ⟨by rfl, ?_⟩
                   intro w hSw
                   (try dsimp only at hSw)
                   (try go_split_ands)
                   go_simp
                   (first | done | with_reducible rfl))
            try simp only [Act.put, List.setIfInBounds_toArray, List.set_cons_zero, List.set_cons_succ]
            refine take_h 3 ⟨?_, ?_, ?_, by kernel_rfl, by kernel_rfl, by kernel_rfl, ?_, ?_, by assumption, ?_⟩
            rotate_left 2
            · (simp only [List.getElem?_toArray, List.getElem?_cons_succ, List.getElem?_cons_zero]; exact rfl)
            · exact fun _ _ _ h => h
            · first
                | (refine Or.inr ⟨by rfl, ?_⟩; exact rfl)
                | (refine Or.inl ⟨by rfl, ?_⟩
                   intro w hSw
                   (try dsimp only at hSw)
                   (try go_split_ands)
                   go_simp
                   (first | done | with_reducible rfl))
            try simp only [Act.put, List.setIfInBounds_toArray, List.set_cons_zero, List.set_cons_succ]
            refine take_h 4 ⟨?_, ?_, ?_, by kernel_rfl, by kernel_rfl, by kernel_rfl, ?_, ?_, by assumption, ?_⟩
            rotate_left 2
            · (simp only [List.getElem?_toArray, List.getElem?_cons_succ, List.getElem?_cons_zero]; exact rfl)
            · exact fun _ _ _ h => h
            · first
                | (refine Or.inr ⟨by rfl, ?_⟩; exact rfl)
                | (refine Or.inl ⟨by rfl, ?_⟩
                   intro w hSw
                   (try dsimp only at hSw)
                   (try go_split_ands)
                   go_simp
                   (first | done | with_reducible rfl))
            try simp only [Act.put, List.setIfInBounds_toArray, List.set_cons_zero, List.set_cons_succ]
            refine take_h 5 ⟨?_, ?_, ?_, by kernel_rfl, by kernel_rfl, by kernel_rfl, ?_, ?_, by assumption, ?_⟩
            rotate_left 2
            · (simp only [List.getElem?_toArray, List.getElem?_cons_succ, List.getElem?_cons_zero]; exact rfl)
            · exact fun _ _ _ h => h
            · first
                | (refine Or.inr ⟨by rfl, ?_⟩; exact rfl)
                | (refine Or.inl ⟨by rfl, ?_⟩
                   intro w hSw
                   (try dsimp only at hSw)
                   (try go_split_ands)
                   go_simp
                   (first | done | with_reducible rfl))
            try simp only [Act.put, List.setIfInBounds_toArray, List.set_cons_zero, List.set_cons_succ]
            refine take_h 6 ⟨?_, ?_, ?_, by kernel_rfl, by kernel_rfl, by kernel_rfl, ?_, ?_, by assumption, ?_⟩
            rotate_left 2
            · (simp only [List.getElem?_toArray, List.getElem?_cons_succ, List.getElem?_cons_zero]; exact rfl)
            · exact fun _ _ _ h => h
            · first
                | (refine Or.inr ⟨by rfl, ?_⟩; exact rfl)
                | (refine Or.inl ⟨by rfl, ?_⟩
                   intro w hSw
                   (try dsimp only at hSw)
                   (try go_split_ands)
                   go_simp
                   (first | done | with_reducible rfl))
            try simp only [Act.put, List.setIfInBounds_toArray, List.set_cons_zero, List.set_cons_succ]
            refine wpAnyH_ready (rs := [7]) (by kernel_rfl) (by simp) ?_
            refine call_h 7 ⟨?_, ?_, fun K hK => ?_⟩
            rotate_left 1
            · (simp only [List.getElem?_toArray, List.getElem?_cons_succ, List.getElem?_cons_zero]; exact rfl)
            go_simp
            skip
            go_wp2_with fail
            have hA0 : Whole (wc.alloc (.cells #[.int .i64 0, .string ⟨#[]⟩, .string ⟨#[]⟩, .int .i64 0, .bool false, .bool false] 61)).drew wc.heap.size 61 [.int .i64 0, .string ⟨#[]⟩, .string ⟨#[]⟩, .int .i64 0, .bool false, .bool false] := Whole.new wc 61 [.int .i64 0, .string ⟨#[]⟩, .string ⟨#[]⟩, .int .i64 0, .bool false, .bool false]
            have hbA : Below wc.heap.size wc (wc.alloc (.cells #[.int .i64 0, .string ⟨#[]⟩, .string ⟨#[]⟩, .int .i64 0, .bool false, .bool false] 61)).drew := by go_grown
            generalize (wc.alloc (.cells #[.int .i64 0, .string ⟨#[]⟩, .string ⟨#[]⟩, .int .i64 0, .bool false, .bool false] 61)).drew = wA at hA0 hbA ⊢
            refine hK.out _ _ ⟨b_cell hbA a0, b_cell hbA a2, b_cell hbA m0, b_cell hbA m1, b_cell hbA m2, b_cell hbA m3⟩ (fun hHeld => ?_)
            clear hK K
            (try simp only [Act.put, List.setIfInBounds_toArray, List.set_cons_zero, List.set_cons_succ])
            obtain ⟨z0, z1, z2, z3, z4, z5⟩ := fl_cells (f := ⟨0, ⟨⟨#[]⟩, ⟨#[]⟩, 0, false⟩, false⟩) hA0.range
            have y0 := hA0.free 0
            have y1 := hA0.free 1
            have y2 := hA0.free 2
            have y3 := hA0.free 3
            have y4 := hA0.free 4
            have y5 := hA0.free 5
            have hW6 := (((((hA0.put 0 (.int .i64 NI)).put 1 (.string m.t)).put 2 (.string m.p)).put 3 (.int .i64 m.q)).put 4 (.bool m.r)).put 5 (.bool false)
            have HW6 := Lib.hid hW6
            have hl6 : Left [wc.heap.size] wA ((((((wA.setCell ⟨wc.heap.size, 0, none⟩ (.int .i64 NI)).setCell ⟨wc.heap.size, 1, none⟩ (.string m.t)).setCell ⟨wc.heap.size, 2, none⟩ (.string m.p)).setCell ⟨wc.heap.size, 3, none⟩ (.int .i64 m.q)).setCell ⟨wc.heap.size, 4, none⟩ (.bool m.r)).setCell ⟨wc.heap.size, 5, none⟩ (.bool false)) := (((((((Left.refl _ wA).setCell (Or.inl (by simp)) _).setCell (Or.inl (by simp)) _).setCell (Or.inl (by simp)) _).setCell (Or.inl (by simp)) _).setCell (Or.inl (by simp)) _).setCell (Or.inl (by simp)) _)
            have hb6 := hbA.trans (hl6.belowB (B := wc.heap.size) hbA.size (by simp))
            have HB6 := Lib.hid hb6
            clear hA0 hW6 hl6 hb6
            refine wpAnyH_ready (rs := [8]) (by kernel_rfl) (by simp) ?_
            refine call_h 8 ⟨?_, ?_, fun K hK => ?_⟩
            rotate_left 1
            · (simp only [List.getElem?_toArray, List.getElem?_cons_succ, List.getElem?_cons_zero]; exact rfl)
            go_simp
            skip
            go_wp2_with fail
            refine hK.out _ _ ⟨b_cell HB6.out a0, b_cell HB6.out a2, b_cell HB6.out m0, b_cell HB6.out m1, b_cell HB6.out m2, b_cell HB6.out m3⟩ (fun hHeld => ?_)
            clear hK K
            (try simp only [Act.put, List.setIfInBounds_toArray, List.set_cons_zero, List.set_cons_succ])
            refine wpAnyH_done (by kernel_rfl) ?_ _
            clear hHeld
            go_wp2
            go_meet
            exact ⟨rfl, HW6.out, HB6.out⟩
          case rest =>
            obtain ⟨rfl, hW5, hb5⟩ := hcut
            have HR5 := Lib.hid (HRc.out.below hb5 hB)
            have hqr5 := HR5.out.qr
            rw [E5.out] at hW5
            have hN5 : N5 < wc.heap.size := hW5.lt
            have hFn : ∀ k, (Value.slice fo F.length fc).ownBlock = some k → k < N5 := fun k hk => by have := (HRc.out.fr.lt k hk).2; rw [E5.out] at this; exact this
            have HFN := Lib.hid hFn
            have hGN : w.heap.size < N5 := by
              have := HRc.out.box.lt
              rw [E5.out] at this
              exact this
            rw [E5.out]
            clear hb5 a0 a1 a2 a3 a4 a5 m0 m1 m2 m3 hFn
            obtain ⟨b0, b1, b2, b3, b4, b5⟩ := HR5.out.box.three
            obtain ⟨c0, c1, c2, c3, c4, c5⟩ := fl_cells (f := ⟨NI, m, false⟩) hW5.range
            simp only [Nat.zero_add] at c0 c1 c2 c3 c4 c5
            have HW5 := Lib.hid hW5
            obtain ⟨tp, htp, hrow5⟩ : ∃ tp, (if qc = 1 then (some ⟨qg, qoff, none⟩ : Option Addr) else some ⟨qg, qoff + 4, none⟩) = tp ∧ Row wc B 34 4 (.slice tp Q'.length (qc - 1)) Q'.length (eM.cells Q') := by
              have hcs : eM.cells (m :: Q') = eM.c m ++ eM.cells Q' := eM.cells_cons m Q'
              rw [hcs] at hqr5
              have hr : Row wc B 34 4 (.slice (some ⟨qg, qoff, none⟩) (Q'.length + 1) qc) (Q'.length + 1) (eM.c m ++ eM.cells Q') := hqr5
              by_cases h1 : qc = 1
              · subst h1
                obtain ⟨h2, h3, h4⟩ := hr.tail0 (eM.len m)
                exact ⟨_, rfl, by rw [if_pos rfl, h2, h3]; exact h4⟩
              · exact ⟨_, rfl, by rw [if_neg h1]; exact hr.tail (eM.len m) (by simp at hqn; omega)⟩
            have HROW5 := Lib.hid hrow5
            clear hqr5 hrow5 hW5
            go_upto_region 7 with fail
            go_cut [45] (fun _ wx => ∃ fv' qv', Hid (FB w wx B NI (F ++ [⟨NI, m, false⟩]) Q' S fv' qv' (.slice po S.length pc)) ∧ Whole wx N5 61 (flC ⟨NI, m, false⟩))
            case first =>
              have hq1 : (1 : Int) ≤ (Q'.length : Int) + 1 := by omega
              refine wp_region_split (S := (fun wx => wx.cell? ⟨w.heap.size, 1, none⟩ = some (.slice fo F.length fc) ∧ wx.cell? ⟨w.heap.size, 2, none⟩ = some (.slice (some ⟨qg, qoff, none⟩) (Q'.length + 1) qc) ∧ wx.cell? ⟨N5, 0, none⟩ = some (.int .i64 NI) ∧ wx.cell? ⟨N5, 1, none⟩ = some (.string m.t) ∧ wx.cell? ⟨N5, 2, none⟩ = some (.string m.p) ∧ wx.cell? ⟨N5, 3, none⟩ = some (.int .i64 m.q) ∧ wx.cell? ⟨N5, 4, none⟩ = some (.bool m.r) ∧ wx.cell? ⟨N5, 5, none⟩ = some (.bool false))) 9 (by kernel_rfl) (by kernel_rfl) (by kernel_rfl) (by kernel_rfl) (by kernel_rfl) (by kernel_rfl) ⟨b1, b2, c0, c1, c2, c3, c4, c5⟩ (fun hHeld => ?_)
              simp only [List.take_succ_cons, List.take_zero, List.drop_succ_cons, List.drop_zero]
              refine take_h 0 ⟨?_, ?_, ?_, by kernel_rfl, by kernel_rfl, by kernel_rfl, ?_, ?_, by assumption, ?_⟩
              rotate_left 2
              · (simp only [List.getElem?_toArray, List.getElem?_cons_zero]; exact rfl)
              · exact fun _ _ _ h => h
              · first
                  | (refine Or.inr ⟨by rfl, ?_⟩; exact rfl)
                  | (refine Or.inl ⟨by rfl, ?_⟩
                     intro w hSw
                     (try dsimp only at hSw)
                     (try go_split_ands)
                     go_simp
                     (first | done | with_reducible rfl))
              try simp only [Act.put, List.setIfInBounds_toArray, List.set_cons_zero, List.set_cons_succ]
              refine take_h 1 ⟨?_, ?_, ?_, by kernel_rfl, by kernel_rfl, by kernel_rfl, ?_, ?_, by assumption, ?_⟩
              rotate_left 2
              · (simp only [List.getElem?_toArray, List.getElem?_cons_succ, List.getElem?_cons_zero]; exact rfl)
              · exact fun _ _ _ h => h
              · first
                  | (refine Or.inr ⟨by rfl, ?_⟩; exact rfl)
                  | (refine Or.inl ⟨by rfl, ?_⟩
                     intro w hSw
                     (try dsimp only at hSw)
                     (try go_split_ands)
                     go_simp
                     (first | done | with_reducible rfl))
              try simp only [Act.put, List.setIfInBounds_toArray, List.set_cons_zero, List.set_cons_succ]
              refine take_h 2 ⟨?_, ?_, ?_, by kernel_rfl, by kernel_rfl, by kernel_rfl, ?_, ?_, by assumption, ?_⟩
              rotate_left 2
              · (simp only [List.getElem?_toArray, List.getElem?_cons_succ, List.getElem?_cons_zero]; exact rfl)
              · exact fun _ _ _ h => h
              · first
                  | (refine Or.inr ⟨by rfl, ?_⟩; exact rfl)
                  | (refine Or.inl ⟨by rfl, ?_⟩
                     intro w hSw
                     (try dsimp only at hSw)
                     (try go_split_ands)
                     go_simp
                     (first | done | with_reducible rfl))
              try simp only [Act.put, List.setIfInBounds_toArray, List.set_cons_zero, List.set_cons_succ]
              refine take_h 3 ⟨?_, ?_, ?_, by kernel_rfl, by kernel_rfl, by kernel_rfl, ?_, ?_, by assumption, ?_⟩
              rotate_left 2
              · (simp only [List.getElem?_toArray, List.getElem?_cons_succ, List.getElem?_cons_zero]; exact rfl)
              · exact fun _ _ _ h => h
              · first
                  | (refine Or.inr ⟨by rfl, ?_⟩; exact rfl)
                  | (refine Or.inl ⟨by rfl, ?_⟩
                     intro w hSw
                     (try dsimp only at hSw)
                     (try go_split_ands)
                     go_simp
                     (first | done | with_reducible rfl))
              try simp only [Act.put, List.setIfInBounds_toArray, List.set_cons_zero, List.set_cons_succ]
              refine take_h 4 ⟨?_, ?_, ?_, by kernel_rfl, by kernel_rfl, by kernel_rfl, ?_, ?_, by assumption, ?_⟩
              rotate_left 2
              · (simp only [List.getElem?_toArray, List.getElem?_cons_succ, List.getElem?_cons_zero]; exact rfl)
              · exact fun _ _ _ h => h
              · first
                  | (refine Or.inr ⟨by rfl, ?_⟩; exact rfl)
                  | (refine Or.inl ⟨by rfl, ?_⟩
                     intro w hSw
                     (try dsimp only at hSw)
                     (try go_split_ands)
                     go_simp
                     (first | done | with_reducible rfl))
              try simp only [Act.put, List.setIfInBounds_toArray, List.set_cons_zero, List.set_cons_succ]
              refine take_h 5 ⟨?_, ?_, ?_, by kernel_rfl, by kernel_rfl, by kernel_rfl, ?_, ?_, by assumption, ?_⟩
              rotate_left 2
              · (simp only [List.getElem?_toArray, List.getElem?_cons_succ, List.getElem?_cons_zero]; exact rfl)
              · exact fun _ _ _ h => h
              · first
                  | (refine Or.inr ⟨by rfl, ?_⟩; exact rfl)
                  | (refine Or.inl ⟨by rfl, ?_⟩
                     intro w hSw
                     (try dsimp only at hSw)
                     (try go_split_ands)
                     go_simp
                     (first | done | with_reducible rfl))
              try simp only [Act.put, List.setIfInBounds_toArray, List.set_cons_zero, List.set_cons_succ]
              refine take_h 8 ⟨?_, ?_, ?_, by kernel_rfl, by kernel_rfl, by kernel_rfl, ?_, ?_, by assumption, ?_⟩
              rotate_left 2
              · (simp only [List.getElem?_toArray, List.getElem?_cons_succ, List.getElem?_cons_zero]; exact rfl)
              · exact fun _ _ _ h => h
              · first
                  | (refine Or.inr ⟨by rfl, ?_⟩; exact rfl)
                  | (refine Or.inl ⟨by rfl, ?_⟩
                     intro w hSw
                     (try dsimp only at hSw)
                     (try go_split_ands)
                     go_simp
                     (first | done | with_reducible rfl))
              try simp only [Act.put, List.setIfInBounds_toArray, List.set_cons_zero, List.set_cons_succ]
              refine wpAnyH_ready (rs := [6]) (by kernel_rfl) (by simp) ?_
              refine call_h 6 ⟨?_, ?_, fun K hK => ?_⟩
              rotate_left 1
              · (simp only [List.getElem?_toArray, List.getElem?_cons_succ, List.getElem?_cons_zero]; exact rfl)
              go_simp
              skip
              go_wp2_with fail
              have hA0 : Rd (wc.alloc (.cells #[.int .i64 NI, .string m.t, .string m.p, .int .i64 m.q, .bool m.r, .bool false] 61)).drew (wc.heap.size + 1) 6 (.slice (some ⟨wc.heap.size, 0, none⟩) 1 1) 1 (flC ⟨NI, m, false⟩) := one_newF wc ⟨NI, m, false⟩
              have hbA : Below wc.heap.size wc (wc.alloc (.cells #[.int .i64 NI, .string m.t, .string m.p, .int .i64 m.q, .bool m.r, .bool false] 61)).drew := by go_grown
              have hzA : wc.heap.size + 1 ≤ (wc.alloc (.cells #[.int .i64 NI, .string m.t, .string m.p, .int .i64 m.q, .bool m.r, .bool false] 61)).drew.heap.size := by simp
              generalize (wc.alloc (.cells #[.int .i64 NI, .string m.t, .string m.p, .int .i64 m.q, .bool m.r, .bool false] 61)).drew = wA at hA0 hbA hzA ⊢
              refine hK.out _ _ ⟨b_cell hbA b1, b_cell hbA b2, b_cell hbA c0, b_cell hbA c1, b_cell hbA c2, b_cell hbA c3, b_cell hbA c4, b_cell hbA c5⟩ (fun hHeld => ?_)
              clear hK K
              (try simp only [Act.put, List.setIfInBounds_toArray, List.set_cons_zero, List.set_cons_succ])
              have HRA := Lib.hid (HR5.out.below hbA hB)
              have HA0 := Lib.hid hA0
              clear hA0
              refine wpAnyH_ready (rs := [7]) (by kernel_rfl) (by simp) ?_
              refine call_h 7 ⟨?_, ?_, fun K hK => ?_⟩
              rotate_left 1
              · (simp only [List.getElem?_toArray, List.getElem?_cons_succ, List.getElem?_cons_zero]; exact rfl)
              rw [if_pos (by rfl)]
              (refine op_app (.tmp 42) (.tmp 44) 22 rfl B 61 (.agg #[.int .i64 0, .string ⟨#[]⟩, .string ⟨#[]⟩, .int .i64 0, .bool false, .bool false]) 6 64 Try.underlying22 inf_F rfl (by omega) _ F.length (eF.cells F) rfl HRA.out.fr _ _ 1 (flC ⟨NI, m, false⟩) rfl HA0.out (eF.one _) ?_ ?_ ?_ ?_)
              · unfold maxLen; omega
              · omega
              · have := HRA.out.bel.size; omega
              intro v7 w7 hrow hg hat
              obtain ⟨vo7, vc7, rfl, hvc1, hvc2⟩ := (Rd.of_own hrow).form
              have hl7 := left_of_grown hg
              have hbx := HRA.out.box.ty
              have hnb : ∀ k ∈ Value.ownL (.slice fo F.length fc), k < N5 ∧ Ty wA k 61 := fun k hk => ⟨HFN.out k (mem_ownL.1 hk), own_ty HRA.out.fr (mem_ownL.1 hk)⟩
              have hGn : w.heap.size ∉ Value.ownL (.slice fo F.length fc) := fun hm => (hnb _ hm).2.ne hbx (by decide) rfl
              have hN5n : N5 ∉ Value.ownL (.slice fo F.length fc) := fun hm => by have := (hnb _ hm).1; omega
              have hW7 := (HW5.out.belowH hbA).left hl7 hN5n
              have hbox7 := HRA.out.box.left hl7 hGn
              obtain ⟨d0, d1, d2, d3, d4, d5⟩ := hbox7.three
              obtain ⟨e0, e1, e2, e3, e4, e5⟩ := fl_cells (f := ⟨NI, m, false⟩) hW7.range
              simp only [Nat.zero_add] at e0 e1 e2 e3 e4 e5
              have HBOX := Lib.hid hbox7
              have HW7 := Lib.hid hW7
              have HROW := Lib.hid hrow
              have HL7 := Lib.hid hl7
              have HAT := Lib.hid hat
              clear hg hat hl7 hbox7 hW7 hrow hvc2
              refine hK.out _ _ ⟨d1, d2, e0, e1, e2, e3, e4, e5⟩ (fun hHeld => ?_)
              clear hK K
              (try simp only [Act.put, List.setIfInBounds_toArray, List.set_cons_zero, List.set_cons_succ])
              refine wpAnyH_done (by kernel_rfl) ?_ _
              clear hHeld
              show wpList _ _ _ _ _ _
              go_wp2
              go_meet
              have hl8 : Left [w.heap.size] w7 ((w7.setCell ⟨w.heap.size, 2, none⟩ (.slice tp Q'.length (qc - 1))).setCell ⟨w.heap.size, 1, none⟩ (.slice vo7 (F.length + 1) vc7)) := ((Left.refl _ _).setCell (Or.inl (by simp)) _).setCell (Or.inl (by simp)) _
              have hT := HBOX.out.ty
              have nG : ∀ {k : Nat} {t : TypeId}, Ty w7 k t → 25 ≠ t → ∀ j ∈ [w.heap.size], k ≠ j := fun ht hne j hj e => by
                simp only [List.mem_singleton] at hj
                subst hj
                subst e
                exact (hT.ne ht hne) rfl
              have nF : ∀ {k : Nat} {t : TypeId}, Ty wA k t → 61 ≠ t → ∀ j ∈ Value.ownL (.slice fo F.length fc), k ≠ j := fun ht hne j hj e => by
                subst e
                exact ((own_ty HRA.out.fr (mem_ownL.1 hj)).ne ht hne) rfl
              have hq7 := (HROW5.out.left (Left.of_below hbA []) (by simp))
              have hq8 := hq7.left HL7.out (fun k hk e => nF (hq7.ty e) (by decide) k hk rfl)
              have hq9 := hq8.left hl8 (fun k hk e => nG (hq8.ty e) (by decide) k hk rfl)
              have hr8 := HRA.out.ret.left HL7.out (fun hm => nF HRA.out.ret.ty (by decide) _ hm rfl)
              have hp8 := own_leftB HRA.out.lr HL7.out (fun k hk e => nF (own_ty HRA.out.lr e) (by decide) k hk rfl)
              have hb7 := HRA.out.bel.trans (HL7.out.belowB (B := B) (by have := HRA.out.bel.size; omega) (fun k hk => (HRA.out.fr.lt k (mem_ownL.1 hk)).1))
              have hz7 := hb7.size
              have hne := HNEW.out
              have hcs : eF.cells (F ++ [⟨NI, m, false⟩]) = eF.cells F ++ flC ⟨NI, m, false⟩ := by rw [eF.cells_app, eF.cells_one]; rfl
              refine ⟨_, _, Lib.hid ⟨(HBOX.out.put 2 _).put 1 _, hr8.left hl8 (by simp), ?_, hq9, own_leftB hp8 hl8 (fun k hk e => nG (own_ty hp8 e) (by decide) k hk rfl), hb7.trans (hl8.belowB (B := B) (by omega) (by simp; omega)), ?_, by omega, by omega⟩, HW7.out.left hl8 (by simp; omega)⟩
              · rw [hcs, List.length_append]
                exact own_leftB HROW.out hl8 (fun k hk e => nG (own_ty HROW.out e) (by decide) k hk rfl)
              · have := HR5.out.sm
                simp at this ⊢
                omega
            case rest =>
              obtain ⟨fv', qv', HR8, hW8⟩ := hcut
              obtain ⟨c0, c1, c2, c3, c4, c5⟩ := fl_cells (f := ⟨NI, m, false⟩) hW8.range
              simp only [Nat.zero_add] at c0 c1 c2 c3 c4 c5
              have HPU := Lib.hid (publish_any ⟨NI, m, false⟩ false wc)
              clear hW8
              go_wp2_with fail
              refine HPU.out.mono ?_
              rintro e w9 ⟨rfl, hb9⟩
              have HR9 := Lib.hid (HR8.out.below hb9 hB)
              have hz9 : w.heap.size ≤ w9.heap.size := by have := HR9.out.box.lt; omega
              simp only [pkV, pub]
              clear hb9
              have HRD := Lib.hid (show Rd (w9.alloc (.cells #[.int .i64 3, .string ⟨#[]⟩, .bool false, .int .i64 0, .bool false, .string ⟨#[]⟩, .string ⟨#[]⟩, .int .i64 0, .bool false, .string ⟨#[]⟩, .bool false, .string ⟨#[]⟩, .bool false, .bool false, .int .i64 0, .slice none 0 0, .bool false, .int .i64 m.q, .bool m.r, .string m.t, .int .i64 NI, .string m.p, .slice none 0 0, .slice none 0 0] 50)) (w9.heap.size + 1) 24 (.slice (some ⟨w9.heap.size, 0, none⟩) 1 1) 1 (pkC (pub ⟨NI, m, false⟩ false)) from one_newP w9 (pub ⟨NI, m, false⟩ false))
              have HOW := Lib.hid (show (w9.alloc (.cells #[.int .i64 3, .string ⟨#[]⟩, .bool false, .int .i64 0, .bool false, .string ⟨#[]⟩, .string ⟨#[]⟩, .int .i64 0, .bool false, .string ⟨#[]⟩, .bool false, .string ⟨#[]⟩, .bool false, .bool false, .int .i64 0, .slice none 0 0, .bool false, .int .i64 m.q, .bool m.r, .string m.t, .int .i64 NI, .string m.p, .slice none 0 0, .slice none 0 0] 50)).ownsRow w.heap.size 50 24 (.slice po S.length pc) S.length (eP.cells (pub0 S)) from own_leftB HR9.out.lr ((Left.refl [] w9).alloc _) (by simp))
              have HSM := Lib.hid HR9.out.sm
              go_wp2_with (at_builtin; refine wpList_app _ rfl (.tmp 48) (.tmp 51) _ rfl w.heap.size 50 (pkV ⟨0, ⟨#[]⟩, ⟨#[]⟩, 0, false, 0, false⟩) 24 288 Try.underlying32 inf_P zP_size (by omega) _ S.length (eP.cells (pub0 S)) rfl HOW.out _ _ 1 (pkC (pub ⟨NI, m, false⟩ false)) rfl HRD.out (eP.one (pub ⟨NI, m, false⟩ false)) ?_ ?_ ?_ ?_)
              · have := HSM.out.2.2.2; unfold maxLen; omega
              · have := HSM.out.2.2.2; omega
              · simp; omega
              intro v10 w10 hrow hg10 _
              have HRX := Lib.hid (HR9.out.below ((Below.refl w9.heap.size w9).alloc (Nat.le_refl _) (.cells #[.int .i64 3, .string ⟨#[]⟩, .bool false, .int .i64 0, .bool false, .string ⟨#[]⟩, .string ⟨#[]⟩, .int .i64 0, .bool false, .string ⟨#[]⟩, .bool false, .string ⟨#[]⟩, .bool false, .bool false, .int .i64 0, .slice none 0 0, .bool false, .int .i64 m.q, .bool m.r, .string m.t, .int .i64 NI, .string m.p, .slice none 0 0, .slice none 0 0] 50)) hB)
              generalize w9.alloc (.cells #[.int .i64 3, .string ⟨#[]⟩, .bool false, .int .i64 0, .bool false, .string ⟨#[]⟩, .string ⟨#[]⟩, .int .i64 0, .bool false, .string ⟨#[]⟩, .bool false, .string ⟨#[]⟩, .bool false, .bool false, .int .i64 0, .slice none 0 0, .bool false, .int .i64 m.q, .bool m.r, .string m.t, .int .i64 NI, .string m.p, .slice none 0 0, .slice none 0 0] 50) = wX at hg10 HRX ⊢
              have hl10 := left_of_grown hg10
              obtain ⟨po', pc', rfl, _, _⟩ := (Rd.of_own hrow).form
              have nP : ∀ {k : Nat} {t : TypeId}, Ty wX k t → 50 ≠ t → ∀ j ∈ Value.ownL (.slice po S.length pc), k ≠ j := fun ht hne j hj e => by
                subst e
                exact ((own_ty HRX.out.lr (mem_ownL.1 hj)).ne ht hne) rfl
              have hcs : eP.cells (pub0 (S ++ [⟨NI, m, false⟩])) = eP.cells (pub0 S) ++ pkC (pub ⟨NI, m, false⟩ false) := by
                unfold pub0
                rw [List.map_append, eP.cells_app, List.map_cons, List.map_nil, eP.cells_one]
                rfl
              have hs4 := HR5.out.sm.2.2.1
              have hsm := HRX.out.sm
              have hzX := HRX.out.bel.size
              have HFB : Hid (FB w w10 B NI (F ++ [⟨NI, m, false⟩]) Q' (S ++ [⟨NI, m, false⟩]) fv' qv' (.slice po' (S.length + 1) pc')) := Lib.hid ⟨HRX.out.box.left hl10 (fun hm => nP HRX.out.box.ty (by decide) _ hm rfl), HRX.out.ret.left hl10 (fun hm => nP HRX.out.ret.ty (by decide) _ hm rfl), own_leftB HRX.out.fr hl10 (fun k hk e => nP (own_ty HRX.out.fr e) (by decide) k hk rfl), HRX.out.qr.left hl10 (fun k hk e => nP (HRX.out.qr.ty e) (by decide) k hk rfl), by rw [hcs, List.length_append]; exact hrow, HRX.out.bel.trans (hl10.belowB (B := B) (by omega) (fun k hk => by have := (HRX.out.lr.lt k (mem_ownL.1 hk)).1; omega)), by simp at hsm ⊢; omega, HRX.out.ls⟩
              have HGO2 : Hid (fillO o.last o.F o.Q = ((fillO NI (F ++ [⟨NI, m, false⟩]) Q').1, (S ++ [⟨NI, m, false⟩]) ++ (fillO NI (F ++ [⟨NI, m, false⟩]) Q').2)) := Lib.hid (by rw [HGO.out]; simp [fillO, hF4, HNI.out])
              clear hrow hg10 hl10 hcs hsm
              go_wp2
              go_roundg (3 - S.length)
              case rel => exact ⟨NI, F ++ [⟨NI, m, false⟩], Q', S ++ [⟨NI, m, false⟩], fv', qv', by simp; omega, HFB, HGO2⟩
              case measure => omega
    · have hF4b : ¬ ((F.length : Int) < 4) := by omega
      have HRES : Hid (fillO o.last o.F o.Q = (⟨last, F, Q⟩, S)) := Lib.hid (by
        rw [HGO.out]
        cases Q with
        | nil => simp [fillO]
        | cons m Q' => simp [fillO, hF4])
      have hl3 : Left [w.heap.size + 1] wr (((wr.setCell ⟨w.heap.size + 1, 0, none⟩ (.int .i64 last)).setCell ⟨w.heap.size + 1, 1, none⟩ (.slice fo F.length fc)).setCell ⟨w.heap.size + 1, 2, none⟩ (.slice qo (Q.length) qc)) := (((Left.refl _ wr).setCell (Or.inl (by simp)) _).setCell (Or.inl (by simp)) _).setCell (Or.inl (by simp)) _
      have HRET := Lib.hid (((HR.out.ret.put 0 (.int .i64 last)).put 1 (.slice fo F.length fc)).put 2 (.slice qo (Q.length) qc))
      have hrt := HR.out.ret.ty
      have HBE := Lib.hid (HR.out.bel.trans (hl3.belowB (B := B) (by have := HR.out.bel.size; omega) (by simp; omega)))
      have HFR := Lib.hid (own_leftB HR.out.fr hl3 (fun k hk e => by simp only [List.mem_singleton] at hk; subst hk; exact (own_ty HR.out.fr e).ne hrt (by decide) rfl))
      have HQR := Lib.hid (HR.out.qr.left hl3 (fun k hk e => by simp only [List.mem_singleton] at hk; subst hk; exact (HR.out.qr.ty e).ne hrt (by decide) rfl))
      have HLR := Lib.hid (own_leftB HR.out.lr hl3 (fun k hk e => by simp only [List.mem_singleton] at hk; subst hk; exact (own_ty HR.out.lr e).ne hrt (by decide) rfl))
      clear hl3 hrt
      go_wp2
      (try simp only [Exit.inBlock, Exit.then])
      refine bodyPost_ret (results_row_tmp (P := Try.prog) (p := 2) (u := 3) (ty := 25) rfl _ _ (w.heap.size + 1) 25 _ (0, 0) _ rfl HRET.out Try.underlying25 rfl (by kernel_rfl)) rfl ?_
      refine ⟨_, _, rfl, ?_, ?_, HBE.out⟩
      · rw [HRES.out]; exact ⟨_, _, rfl, HFR.out, HQR.out⟩
      · rw [HRES.out]; exact HLR.out
end Go.Proofs.Ytndidkaoigjbiaa
