/- A region whose order is drawn, and whose last operations come in one forced order: the first ones by themselves, then the last ones one by one. Over any program. The outbox's small functions: message, publish, Clone, Own, at. A message that may be sent, by the page. The page's own: an outbox that may be. -/
import Derived.Test.YtlehkaibbkblkaaGreatDoorGa
import Derived.StillTail
import Derived.Test.YtlehkaibbkblkaaGreatDoorGb
import Derived.Lib.Hide
import Derived.Handy
import Derived.Deep.DeepCutAuto
namespace Go.Proofs.YtlehkaibbkblkaaGreatDoor
section
variable {P : Program} {Q : Exit → Act → World → Prop} {S : World → Prop}
end
end Go.Proofs.YtlehkaibbkblkaaGreatDoor
namespace Go.Proofs.YtlehkaibbkblkaaGreatDoor
open Go.RowKit
end Go.Proofs.YtlehkaibbkblkaaGreatDoor
namespace Go.Proofs.YtlehkaibbkblkaaGreatDoor
open Go.RowKit
set_option maxHeartbeats 1000000 in
theorem rMsg_any (m : Msg) (w : World) (ht : m.t.size ≤ 1000000000) (hp : m.p.size ≤ 1000000000) : Calls Tryz.prog 69 #[msgV m] w fun e w' => e = .returned (.bool (okM m)) ∧ Below w.heap.size w w' := by
  obtain ⟨t, p, q, r⟩ := m
  unfold msgV
  simp only at ht hp ⊢
  have hb0 := (Below.refl w.heap.size w).alloc (Nat.le_refl _) (.cells #[.string t, .string p, .int .i64 q, .bool r] 64)
  by_cases h1 : 1 ≤ t.size
  · by_cases h2 : t.size ≤ 64
    · by_cases h3 : p.size ≤ 128
      · by_cases h4 : 1 ≤ q
        · by_cases h5 : q ≤ 2
          · have hd : Hid ((decide (q = 1) || decide (q = 2)) = true) := Lib.hid (by simp; omega)
            go_enter Tryz.func69, Tryz.ntmps69
            go_wp2
            go_ret
            exact ⟨by simp [okM, h1, h2, h3]; simpa using hd.out, hb0⟩
          · have hd : Hid ((decide (q = 1) || decide (q = 2)) = false) := Lib.hid (by simp; omega)
            go_enter Tryz.func69, Tryz.ntmps69
            go_wp2
            go_ret
            exact ⟨by simp only [okM, hd.out, Bool.and_false]; rfl, hb0⟩
        · have hd : Hid ((decide (q = 1) || decide (q = 2)) = false) := Lib.hid (by simp; omega)
          go_enter Tryz.func69, Tryz.ntmps69
          go_wp2
          go_ret
          exact ⟨by simp only [okM, hd.out, Bool.and_false]; rfl, hb0⟩
      · have h3' : ¬ ((p.size : Int) ≤ 128) := by omega
        go_enter Tryz.func69, Tryz.ntmps69
        go_wp2
        go_ret
        exact ⟨by simp [okM, h3], hb0⟩
    · have h2' : ¬ ((t.size : Int) ≤ 64) := by omega
      go_enter Tryz.func69, Tryz.ntmps69
      go_wp2
      go_ret
      exact ⟨by simp [okM, h2], hb0⟩
  · have h1' : ¬ ((1 : Int) ≤ (t.size : Int)) := by omega
    go_enter Tryz.func69, Tryz.ntmps69
    go_wp2
    go_ret
    exact ⟨by simp [okM, h1], hb0⟩
end Go.Proofs.YtlehkaibbkblkaaGreatDoor
namespace Go.Proofs.YtlehkaibbkblkaaGreatDoor
open Go.RowKit
theorem Num_ok (w : World) (a b : Int) (h0 : 0 ≤ a) (h1 : a ≤ b) : Calls Tryz.prog 53 #[.int .i64 a, .int .i64 b] w fun e w' => e = .returned (.bool true) ∧ w' = w := by
  go_enter Tryz.func53, Tryz.ntmps53
  go_wp2
  go_ret
  exact ⟨rfl, rfl⟩
set_option maxRecDepth 20000 in
set_option maxHeartbeats 4000000 in
theorem rO_ok (w : World) (v : Value) (o : OB) (h : OR w v o) (hk : okO o) :
    Calls Tryz.prog 55 #[v] w fun e w' => e = .returned (.bool true) ∧ Below w.heap.size w w' := by
  obtain ⟨last, F, Q⟩ := o
  obtain ⟨fv, qv, rfl, hF, hQ⟩ := h
  obtain ⟨hk1, hk2, hk3, hk4, hk5, hk6, hk7⟩ := hk
  simp only at hF hQ hk1 hk2 hk3 hk4 hk5 hk6 hk7
  obtain ⟨fo, fc, rfl, _, _⟩ := hF.form
  obtain ⟨qo, qc, rfl, _, _⟩ := hQ.form
  have HF := Lib.hid hF
  have HQ := Lib.hid hQ
  have H5 := Lib.hid hk5
  have H6 := Lib.hid hk6
  have H7 := Lib.hid hk7
  have g3 : ¬ (4 < (F.length : Int)) := by omega
  have g4 : ¬ (8 < (Q.length : Int)) := by omega
  obtain ⟨w0, hw0⟩ : ∃ w0, w0 = w.alloc (.cells #[.int .i64 last, .slice fo F.length fc, .slice qo Q.length qc] 48) := ⟨_, rfl⟩
  have hb0 : Below w.heap.size w w0 := by rw [hw0]; go_grown
  have hA : Whole w0 w.heap.size 48 [.int .i64 last, .slice fo F.length fc, .slice qo Q.length qc] := by rw [hw0]; exact Whole.new w 48 _
  obtain ⟨a0, a1, a2, a3, a4, a5⟩ := hA.three
  have HN := Lib.hid (Num_ok w0 last 65535 hk1 hk2)
  have H0 : Hid (Whole w0 w.heap.size 48 [.int .i64 last, .slice fo F.length fc, .slice qo Q.length qc] ∧ Below w.heap.size w w0) := Lib.hid ⟨hA, hb0⟩
  have HW := Lib.hid hw0
  clear hF hQ hk5 hk6 hk7 hw0 hA hb0
  go_enter Tryz.func55, Tryz.ntmps55
  go_upto_region 1 with fail
  rw [← HW.out]
  go_wp2_with (go_at_call 53; refine HN.out.mono ?_; rintro e w' ⟨rfl, rfl⟩)
  clear a0 a1 a2 a3 a4 a5
  go_loopw [3] (fun s wr => ∃ k : Nat, s = .int .i64 k ∧ k ≤ F.length ∧ Hid (Whole wr w.heap.size 48 [.int .i64 last, .slice fo F.length fc, .slice qo Q.length qc] ∧ Below w.heap.size w wr)) (fun s _ => F.length - (intOf s).toNat)
  case atStart => exact ⟨0, rfl, by omega, H0⟩
  case round =>
    obtain ⟨k, rfl, hkl, HR⟩ := hrel
    obtain ⟨a0, a1, a2, a3, a4, a5⟩ := HR.out.1.three
    by_cases hlt : k < F.length
    · obtain ⟨f, hf⟩ : ∃ f, F[k]? = some f := ⟨_, List.getElem?_eq_getElem hlt⟩
      have hb := HR.out.2
      obtain ⟨b2, off, rfl, hbl, hcs⟩ := Enc.rd_cell (E := eF) (HF.out.below hb) rfl hf
      obtain ⟨c0, c1, c2, c3, c4, c5⟩ := fl_cells (show wr.rangeAt b2 (off + k * 6) (eF.c f) from hcs)
      have hok := H5.out f (List.mem_of_getElem? hf)
      simp only [okF, Bool.and_eq_true, decide_eq_true_eq, Bool.or_eq_true, Bool.not_eq_true'] at hok
      obtain ⟨⟨⟨p1, p2⟩, pm⟩, p4⟩ := hok
      have p1' : ¬ (f.id < 1) := by omega
      have p2' : ¬ (65535 < f.id) := by omega
      have HSH := short_ok pm
      have HMS := Lib.hid (fun wx => rMsg_any f.m wx HSH.1 HSH.2)
      rw [pm] at HMS
      obtain ⟨wa, hwa⟩ : ∃ wa, wa = wr.alloc (.cells #[.int .i64 f.id, .string f.m.t, .string f.m.p, .int .i64 f.m.q, .bool f.m.r, .bool f.rc] 67) := ⟨_, rfl⟩
      have hba : Below wr.heap.size wr wa := by rw [hwa]; go_grown
      have hWf : Whole wa wr.heap.size 67 [.int .i64 f.id, .string f.m.t, .string f.m.p, .int .i64 f.m.q, .bool f.m.r, .bool f.rc] := by rw [hwa]; exact Whole.new wr 67 _
      have f0 : wa.cell? ⟨wr.heap.size, 0, none⟩ = some (.int .i64 f.id) := hWf.cell 0
      have f1 : wa.cell? ⟨wr.heap.size, 1, none⟩ = some (.string f.m.t) := hWf.cell 1
      have f2 : wa.cell? ⟨wr.heap.size, 2, none⟩ = some (.string f.m.p) := hWf.cell 2
      have f3 : wa.cell? ⟨wr.heap.size, 3, none⟩ = some (.int .i64 f.m.q) := hWf.cell 3
      have f4 : wa.cell? ⟨wr.heap.size, 4, none⟩ = some (.bool f.m.r) := hWf.cell 4
      have f5 : wa.cell? ⟨wr.heap.size, 5, none⟩ = some (.bool f.rc) := hWf.cell 5
      obtain ⟨fb, hfb⟩ : ∃ fb, wr.heap.size = fb := ⟨_, rfl⟩
      have HFB := Lib.hid hfb
      have HFF := Lib.hid hf
      have HWA := Lib.hid hwa
      have HWF := Lib.hid hWf
      have HBA := Lib.hid hba
      have HP4 := Lib.hid p4
      clear hcs hf hwa hWf hba pm p4 hb
      go_upto_region 7 with fail
      rw [← HWA.out]
      rw [hfb] at f0 f1 f2 f3 f4 f5 HWF
      clear c0 c1 c2 c3 c4 c5 hfb
      go_cut [58] (fun s wx => s = .bool false ∧ Below wa.heap.size wa wx)
      case first =>
        cases hrc : f.rc
        · rw [hrc] at f5
          have HRC := Lib.hid hrc
          clear hrc
          go_wp2_with (go_at_call 69; refine (HMS.out _).mono ?_; rintro e w1 ⟨rfl, hb1⟩; have g5 := b_cell hb1 f5; have g3' := b_cell hb1 f3; have HB1 := Lib.hid hb1; clear hb1)
          go_meet
          exact ⟨rfl, HB1.out⟩
        · rw [hrc] at f5
          have HRC := Lib.hid hrc
          have hq2 : (f.m.q != 2) = false := by have := HP4.out; rw [hrc] at this; simpa using this
          clear hrc
          go_wp2_with (go_at_call 69; refine (HMS.out _).mono ?_; rintro e w1 ⟨rfl, hb1⟩; have g5 := b_cell hb1 f5; have g3' := b_cell hb1 f3; have HB1 := Lib.hid hb1; clear hb1)
          go_meet
          exact ⟨rfl, HB1.out⟩
      case rest =>
        obtain ⟨rfl, hbc⟩ := hcut
        have HWc := Lib.hid ((HR.out.1.belowH HBA.out).belowH hbc)
        have HFc := Lib.hid (HWF.out.belowH hbc)
        have HBc := Lib.hid (b_tr (b_tr HR.out.2 (HBA.out)) hbc)
        clear hbc f0 f1 f2 f3 f4 f5 a0 a1 a2 a3 a4 a5
        go_wp2
        go_loopw [5] (fun s wx => ∃ j : Nat, s = .int .i64 j ∧ j ≤ k ∧ Hid (Below wc.heap.size wc wx)) (fun s _ => k - (intOf s).toNat)
        case atStart => exact ⟨0, rfl, by omega, Lib.hid (Below.refl _ _)⟩
        case round =>
          obtain ⟨j, rfl, hjk, HBX⟩ := hrel
          by_cases hj : j < k
          · obtain ⟨g, hg⟩ : ∃ g, F[j]? = some g := ⟨_, List.getElem?_eq_getElem (by omega)⟩
            have hbx := b_tr HBc.out HBX.out
            obtain ⟨b3, off3, he3, hbl3, hcs3⟩ := Enc.rd_cell (E := eF) (HF.out.below hbx) rfl hg
            injection he3 with he3
            injection he3 with he3 he4
            subst he3
            subst he4
            obtain ⟨c0, c1, c2, c3, c4, c5⟩ := fl_cells (show wr.rangeAt b2 (off + j * 6) (eF.c g) from hcs3)
            obtain ⟨a0, a1, a2, a3, a4, a5⟩ := (HWc.out.belowH HBX.out).three
            have f0 := (HFc.out.belowH HBX.out).cell 0
            simp only [List.getElem?_cons_zero] at f0
            have hne : (g.id == f.id) = false := beq_eq_false_iff_ne.2 (fun e => by
              have := (List.getElem?_inj (by rw [ids_len]; omega) H6.out).1 ((ids_at hg).trans ((congrArg some e).trans (ids_at HFF.out).symm))
              omega)
            clear hg hbx hcs3
            have hjF : j < F.length := by omega
            go_upto_region 12 with fail
            refine wp_region_held_drew (S := fun wx => wx.cell? ⟨w.heap.size, 1, none⟩ = some (.slice (some ⟨b2, off, none⟩) F.length fc) ∧ wx.cell? ⟨b2, off + j * 6, none⟩ = some (.int .i64 g.id) ∧ wx.cell? ⟨fb, 0, none⟩ = some (.int .i64 f.id)) (by kernel_rfl) ⟨a1, c0, f0⟩ (fun hHeld => ?_)
            refine tk 0 (by assumption) ?_
            (try simp only [Act.put, List.setIfInBounds_toArray, List.set_cons_zero, List.set_cons_succ])
            refine tk 1 (by assumption) ?_
            (try simp only [Act.put, List.setIfInBounds_toArray, List.set_cons_zero, List.set_cons_succ])
            refine tk 2 (by assumption) ?_
            (try simp only [Act.put, List.setIfInBounds_toArray, List.set_cons_zero, List.set_cons_succ])
            refine tk 3 (by assumption) ?_
            (try simp only [Act.put, List.setIfInBounds_toArray, List.set_cons_zero, List.set_cons_succ])
            refine tk 4 (by assumption) ?_
            (try simp only [Act.put, List.setIfInBounds_toArray, List.set_cons_zero, List.set_cons_succ])
            refine tk 5 (by assumption) ?_
            (try simp only [Act.put, List.setIfInBounds_toArray, List.set_cons_zero, List.set_cons_succ])
            refine tk 6 (by assumption) ?_
            (try simp only [Act.put, List.setIfInBounds_toArray, List.set_cons_zero, List.set_cons_succ])
            refine tk 7 (by assumption) ?_
            (try simp only [Act.put, List.setIfInBounds_toArray, List.set_cons_zero, List.set_cons_succ])
            refine tk 8 (by assumption) ?_
            (try simp only [Act.put, List.setIfInBounds_toArray, List.set_cons_zero, List.set_cons_succ])
            refine wpAnyH_done (by kernel_rfl) ?_ _
            clear hHeld
            go_wp2
            go_roundw
            case rel => exact ⟨j + 1, by go_num, by omega, Lib.hid (HBX.out.trans (by go_grown))⟩
            case measure => simp [intOf]; omega
          · have e : j = k := by omega
            subst e
            go_wp2
            go_roundw
            case rel => exact ⟨j + 1, by go_num, by omega, Lib.hid ⟨HWc.out.belowH HBX.out, b_tr HBc.out HBX.out⟩⟩
            case measure => simp [intOf]; omega
    · have e : k = F.length := by omega
      subst e
      go_wp2
      clear a0 a1 a2 a3 a4 a5
      go_loopw [6] (fun s wr => ∃ k : Nat, s = .int .i64 k ∧ k ≤ Q.length ∧ Hid (Whole wr w.heap.size 48 [.int .i64 last, .slice fo F.length fc, .slice qo Q.length qc] ∧ Below w.heap.size w wr)) (fun s _ => Q.length - (intOf s).toNat)
      case atStart => exact ⟨0, rfl, by omega, HR⟩
      case round =>
        obtain ⟨k, rfl, hkl, HR⟩ := hrel
        obtain ⟨a0, a1, a2, a3, a4, a5⟩ := HR.out.1.three
        by_cases hlt : k < Q.length
        · obtain ⟨m, hm⟩ : ∃ m, Q[k]? = some m := ⟨_, List.getElem?_eq_getElem hlt⟩
          obtain ⟨b2, off, rfl, hbl, hcs⟩ := Enc.rd_cell (E := eM) (HQ.out.below HR.out.2) rfl hm
          obtain ⟨c0, c1, c2, c3⟩ := msg_cells (show wr.rangeAt b2 (off + k * 4) (eM.c m) from hcs)
          have pm := H7.out m (List.mem_of_getElem? hm)
          have HSH := short_ok pm
          have HMS := Lib.hid (fun wx => rMsg_any m wx HSH.1 HSH.2)
          rw [pm] at HMS
          clear hcs hm pm
          go_wp2_with fail
          refine (HMS.out _).mono ?_
          rintro e w1 ⟨rfl, hb1⟩
          have HR1 := Lib.hid (And.intro (HR.out.1.belowH hb1) (b_tr HR.out.2 hb1))
          clear hb1
          go_wp2
          go_roundw
          case rel => exact ⟨k + 1, by go_num, by omega, HR1⟩
          case measure => simp [intOf]; omega
        · have e : k = Q.length := by omega
          subst e
          have HB := Lib.hid HR.out.2
          go_wp2
          go_ret
          exact ⟨rfl, HB.out⟩
end Go.Proofs.YtlehkaibbkblkaaGreatDoor
