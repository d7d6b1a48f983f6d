/- heavy, of the scripts of layer 23: it answers something. -/

import Derived.Test.YtndidkaoigjbiaaObArg
import Derived.BigRegion
import Derived.Deep.DeepCutAuto
namespace Go.Proofs.Ytndidkaoigjbiaa
open Go.RowKit
def SomeBool (w : World) (e : Ending) (w' : World) : Prop := ∃ b : Bool, e = .returned (.bool b) ∧ Below w.heap.size w w'
def SomeInt (w : World) (e : Ending) (w' : World) : Prop := ∃ z : Int, e = .returned (.int .i64 z) ∧ Below w.heap.size w w'
set_option maxHeartbeats 2000000 in
theorem messages_any (w : World) (v : Value) (Q : List Msg) (h : Rd w w.heap.size 4 v Q.length (eM.cells Q)) : Calls Try.prog 24 #[v] w (SomeInt w) := by
  obtain ⟨ao, cap, rfl, hcc, hm⟩ := h.form
  have hm' : cap ≤ 9223372036854775807 := by unfold maxLen at hm; omega
  have H := Lib.hid h
  clear h hm
  go_enter Try.func24, Try.ntmps24
  go_wp2
  go_loopw [3, 4] (fun n i wr => ∃ (k : Nat) (z : Int), k ≤ Q.length ∧ i = .int .i64 k ∧ n = .int .i64 z ∧ Hid (Below w.heap.size w wr)) (fun _ i _ => Q.length - (intOf i).toNat)
  case atStart => exact ⟨0, _, by omega, rfl, rfl, Lib.hid (Below.refl _ _)⟩
  case round =>
    obtain ⟨k, z, hk, rfl, rfl, HB⟩ := hrel
    by_cases hlt : k < Q.length
    · by_cases hz : z < 1048576
      · obtain ⟨m, hm2⟩ : ∃ m, Q[k]? = some m := ⟨_, List.getElem?_eq_getElem hlt⟩
        obtain ⟨b2, o, rfl, hbl, hcs⟩ := Enc.rd_cell (E := eM) (H.out.below HB.out) rfl hm2
        obtain ⟨c0, c1, c2, c3⟩ := msg_cells (show wr.rangeAt b2 (o + k * 4) (eM.c m) from hcs)
        have hkl : (k : Int) < (Q.length : Int) := by omega
        clear hcs hm2
        go_wp2
        go_quiet (fail)
        go_wp2
        go_roundw
        case rel => exact ⟨k + 1, _, by omega, by go_num, rfl, Lib.hid (HB.out.trans (Joins.below_draws _ _ _))⟩
        case measure => simp [intOf]; omega
      · have HB2 := Lib.hid HB.out
        go_wp2
        go_ret
        exact ⟨_, rfl, HB2.out⟩
    · have e : k = Q.length := by omega
      subst e
      go_wp2
      go_ret
      exact ⟨_, rfl, HB.out⟩
set_option maxHeartbeats 4000000 in
theorem OW_any (w : World) (last : Int) (fv qv : Value) (F : List Fl) (Q : List Msg) (hF : Rd w w.heap.size 6 fv F.length (eF.cells F)) (hQ : Rd w w.heap.size 4 qv Q.length (eM.cells Q)) : Calls Try.prog 14 #[.agg #[.int .i64 last, fv, qv]] w (SomeInt w) := by
  obtain ⟨ao, cap, rfl, hcc, hm⟩ := hF.form
  obtain ⟨qo, qc, rfl, _, _⟩ := hQ.form
  have hm' : cap ≤ 9223372036854775807 := by unfold maxLen at hm; omega
  have HF := Lib.hid hF
  obtain ⟨w0, hw0⟩ : ∃ w0, w0 = w.alloc (.cells #[.int .i64 last, .slice ao F.length cap, .slice qo Q.length qc] 25) := ⟨_, rfl⟩
  have hb0 : Below w.heap.size w w0 := by rw [hw0]; go_grown
  have hA : Whole w0 w.heap.size 25 [.int .i64 last, .slice ao F.length cap, .slice qo Q.length qc] := by rw [hw0]; exact Whole.new w 25 _
  have HM := Lib.hid (messages_any w0 _ Q ((hQ.below hb0).more hb0.size))
  obtain ⟨a0, a1, a2, a3, a4, a5⟩ := hA.three
  have HA := Lib.hid hA
  have HB0 := Lib.hid hb0
  have HW := Lib.hid hw0
  clear hF hQ hm hw0 hb0 hA
  go_enter Try.func14, Try.ntmps14
  go_upto_region 1 with fail
  rw [← HW.out]
  go_wp2_with fail
  refine HM.out.mono ?_
  rintro e w1 ⟨z1, rfl, hb1⟩
  have H1 : Hid (Below w.heap.size w w1 ∧ Whole w1 w.heap.size 25 [.int .i64 last, .slice ao F.length cap, .slice qo Q.length qc]) := Lib.hid ⟨b_tr HB0.out hb1, HA.out.belowH hb1⟩
  clear a0 a1 a2 a3 a4 a5 hb1
  go_wp2_with fail
  go_loopw [3, 4] (fun n i wr => ∃ (k : Nat) (z : Int), k ≤ F.length ∧ i = .int .i64 k ∧ n = .int .i64 z ∧ Hid (Below w.heap.size w wr ∧ Whole wr w.heap.size 25 [.int .i64 last, .slice ao F.length cap, .slice qo Q.length qc])) (fun _ i _ => F.length - (intOf i).toNat)
  case atStart => exact ⟨0, _, by omega, rfl, rfl, H1⟩
  case round =>
    obtain ⟨k, z, hk, rfl, rfl, HB⟩ := hrel
    obtain ⟨a0, a1, a2, a3, a4, a5⟩ := HB.out.2.three
    by_cases hlt : k < F.length
    · by_cases hz : z < 1048576
      · obtain ⟨f, hf2⟩ : ∃ f, F[k]? = some f := ⟨_, List.getElem?_eq_getElem hlt⟩
        obtain ⟨b2, o, rfl, hbl, hcs⟩ := Enc.rd_cell (E := eF) (HF.out.below HB.out.1) rfl hf2
        obtain ⟨c0, c1, c2, c3, c4, c5⟩ := fl_cells (show wr.rangeAt b2 (o + k * 6) (eF.c f) from hcs)
        have hkl : (k : Int) < (F.length : Int) := by omega
        clear hcs hf2
        go_wp2
        go_quiet (fail)
        go_wp2
        go_roundw
        case rel =>
          refine ⟨k + 1, _, by omega, by go_num, rfl, Lib.hid ?_⟩
          exact ⟨HB.out.1.trans (Joins.below_draws _ _ _), HB.out.2.drewN _⟩
        case measure => simp [intOf]; omega
      · have HB2 := Lib.hid HB.out.1
        go_wp2
        go_ret
        exact ⟨_, rfl, HB2.out⟩
    · have e : k = F.length := by omega
      subst e
      go_wp2
      go_ret
      exact ⟨_, rfl, HB.out.1⟩
set_option maxHeartbeats 4000000 in
theorem heavy_any (w : World) (last : Int) (fv qv lv : Value) (F : List Fl) (Q : List Msg) (A : List AC) (hF : Rd w w.heap.size 6 fv F.length (eF.cells F)) (hQ : Rd w w.heap.size 4 qv Q.length (eM.cells Q)) (hA : Rd w w.heap.size 8 lv A.length (eA.cells A)) :
    Calls Try.prog 4 #[.agg #[.int .i64 last, fv, qv, lv]] w (SomeBool w) := by
  obtain ⟨fo, fc, rfl, _, _⟩ := hF.form
  obtain ⟨qo, qc, rfl, _, _⟩ := hQ.form
  obtain ⟨ao, cap, rfl, hcc, hm⟩ := hA.form
  have hm' : cap ≤ 9223372036854775807 := by unfold maxLen at hm; omega
  have HAA := Lib.hid hA
  obtain ⟨w0, hw0⟩ : ∃ w0, w0 = w.alloc (.cells #[.int .i64 last, .slice fo F.length fc, .slice qo Q.length qc, .slice ao A.length cap] 28) := ⟨_, rfl⟩
  have hb0 : Below w.heap.size w w0 := by rw [hw0]; go_grown
  have hW : Whole w0 w.heap.size 28 [.int .i64 last, .slice fo F.length fc, .slice qo Q.length qc, .slice ao A.length cap] := by rw [hw0]; exact Whole.new w 28 _
  have HM := Lib.hid (OW_any w0 last _ _ F Q ((hF.below hb0).more hb0.size) ((hQ.below hb0).more hb0.size))
  have a0 : w0.cell? ⟨w.heap.size, 0, none⟩ = some (.int .i64 last) := hW.cell 0
  have a1 : w0.cell? ⟨w.heap.size, 1, none⟩ = some (.slice fo F.length fc) := hW.cell 1
  have a2 : w0.cell? ⟨w.heap.size, 2, none⟩ = some (.slice qo Q.length qc) := hW.cell 2
  have HWW := Lib.hid hW
  have HB0 := Lib.hid hb0
  have HW := Lib.hid hw0
  clear hF hQ hA hm hw0 hb0 hW
  go_enter Try.func4, Try.ntmps4
  go_upto_region 1 with fail
  rw [← HW.out]
  go_wp2_with fail
  refine HM.out.mono ?_
  rintro e w1 ⟨z1, rfl, hb1⟩
  have H1 : Hid (Below w.heap.size w w1 ∧ Whole w1 w.heap.size 28 [.int .i64 last, .slice fo F.length fc, .slice qo Q.length qc, .slice ao A.length cap]) := Lib.hid ⟨b_tr HB0.out hb1, HWW.out.belowH hb1⟩
  clear a0 a1 a2 hb1
  go_wp2_with fail
  go_loopw [3, 4] (fun n i wr => ∃ (k : Nat) (z : Int), k ≤ A.length ∧ i = .int .i64 k ∧ n = .int .i64 z ∧ Hid (Below w.heap.size w wr ∧ Whole wr w.heap.size 28 [.int .i64 last, .slice fo F.length fc, .slice qo Q.length qc, .slice ao A.length cap])) (fun _ i _ => A.length - (intOf i).toNat)
  case atStart => exact ⟨0, _, by omega, rfl, rfl, H1⟩
  case round =>
    obtain ⟨k, z, hk, rfl, rfl, HB⟩ := hrel
    have a3 : wr.cell? ⟨w.heap.size, 3, none⟩ = some (.slice ao A.length cap) := HB.out.2.cell 3
    by_cases hlt : k < A.length
    · by_cases hz : z < 1048576
      · obtain ⟨f, hf2⟩ : ∃ f, A[k]? = some f := ⟨_, List.getElem?_eq_getElem hlt⟩
        obtain ⟨b2, o, rfl, hbl, hcs⟩ := Enc.rd_cell (E := eA) (HAA.out.below HB.out.1) rfl hf2
        have c2 : wr.cell? ⟨b2, o + k * 8 + 2, none⟩ = some (.string f.m.t) := hcs 2 _ rfl
        have c3 : wr.cell? ⟨b2, o + k * 8 + 3, none⟩ = some (.string f.m.p) := hcs 3 _ rfl
        have hkl : (k : Int) < (A.length : Int) := by omega
        clear hcs hf2
        go_wp2
        go_quiet (fail)
        go_wp2
        go_roundw
        case rel => exact ⟨k + 1, _, by omega, by go_num, rfl, Lib.hid ⟨HB.out.1.trans (Joins.below_draws _ _ _), HB.out.2.drewN _⟩⟩
        case measure => simp [intOf]; omega
      · have HB2 := Lib.hid HB.out.1
        by_cases hz2 : 20000 < z
        · go_wp2
          go_ret
          exact ⟨_, rfl, HB2.out⟩
        · omega
    · have e : k = A.length := by omega
      subst e
      by_cases hz2 : 20000 < z
      · go_wp2
        go_ret
        exact ⟨_, rfl, HB.out.1⟩
      · go_wp2
        go_ret
        exact ⟨_, rfl, HB.out.1⟩
end Go.Proofs.Ytndidkaoigjbiaa
