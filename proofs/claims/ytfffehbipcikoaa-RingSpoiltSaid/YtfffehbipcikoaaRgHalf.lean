/- The page's ring: Half. -/


import Derived.Test.YtfffehbipcikoaaRgRef9
import Derived.Deep.CutBlock
namespace Go.Proofs.Ytfffehbipcikoaa
open Go.RowKit

theorem info_ints : (Try.prog.info? 22).map (fun i => (i.zero, i.size, i.bytes)) = some (some (.slice none 0 0), 1, 24) := by kernel_rfl
theorem made_nils (n : Nat) : (madeCells #[.slice none 0 0] n) = (List.replicate n (Value.slice none 0 0)).toArray := by
  apply Array.ext'
  rw [toList_madeCells_one]
theorem made_ints (n : Nat) : (madeCells #[.int .i64 0] n) = ((List.replicate n (0 : Int)).map (fun x : Int => Value.int .i64 x)).toArray := by
  apply Array.ext'
  rw [toList_madeCells_one]
  simp
theorem rows_none (w : World) (F : List Nat) (n : Nat) : RowsI w F (List.replicate n (.slice none 0 0)) (List.replicate n []) := by
  induction n with
  | zero => trivial
  | succ n ih => exact ⟨⟨⟨rfl, .inl ⟨rfl, rfl⟩⟩, by intro k hk; cases hk⟩, ih⟩
def HalfP (w : World) (m q : Nat) (e : Ending) (w' : World) : Prop :=
  ∃ R bt bc bw, e = .returned (.pointer (some ⟨R, 0, none⟩)) ∧ RefAt w' R bt bc bw m q false 0 0 (List.replicate q false) (List.replicate q []) (List.replicate q 0) [] ∧ Below w.heap.size w w' ∧ w.heap.size ≤ R ∧ w.heap.size ≤ bt ∧ w.heap.size ≤ bc ∧ w.heap.size ≤ bw
def HalfQ (w : World) (m q : Nat) (R : Nat) (w' : World) : Prop :=
  ∃ bt bc bw, Whole w' R 160 [.pointer (some ⟨m, 0, none⟩), .int .i64 q, .int .i64 0, .int .i64 0, .int .i64 0, .int .i64 0, .slice (some ⟨bt, 0, none⟩) q q, .slice (some ⟨bc, 0, none⟩) q q, .slice (some ⟨bw, 0, none⟩) q q, .bool false] ∧
    Whole w' bt 4 ((List.replicate q false).map (.bool ·)) ∧ Whole w' bc 22 (List.replicate q (.slice none 0 0)) ∧ Whole w' bw 3 ((List.replicate q (0 : Int)).map (.int .i64 ·)) ∧ Below w.heap.size w w' ∧ w.heap.size ≤ R ∧ w.heap.size ≤ bt ∧ w.heap.size ≤ bc ∧ w.heap.size ≤ bw

set_option maxHeartbeats 2000000 in
theorem rHalf_any (w : World) (m n : Nat) (hq : isQ (n : Int) = true) :
    Calls Try.prog 75 #[.pointer (some ⟨m, 0, none⟩), .int .i64 n] w (HalfP w m n) := by
  have hr := isQ_range hq
  have HQ := Lib.hid hq
  have hq2 : n ≤ 64 := by omega
  clear hq hr
  have hmk1 := run_make_row' (P := Try.prog) 119 4 (.bool false) 1 Try.underlying119 info_bool rfl .i64 .i64 n (by omega) (by omega)
  have hmk2 := run_make_row' (P := Try.prog) 158 22 (.slice none 0 0) 24 Try.underlying158 info_ints rfl .i64 .i64 n (by omega) (by omega)
  have hmk3 := run_make_row' (P := Try.prog) 22 3 (.int .i64 0) 8 Try.underlying22 info_int rfl .i64 .i64 n (by omega) (by omega)
  go_enter Try.func75, Try.ntmps75
  go_upto_region 2 with fail
  go_cut [5] (fun s wx => ∃ R, s = .pointer (some ⟨R, 0, none⟩) ∧ HalfQ w m n R wx)
  case first =>
    go_wp2
    go_region
    all_goals go_wp2
    all_goals go_meet
    all_goals refine ⟨_, rfl, _, _, _, whole_drew (whole_new ?_), ?_, ?_, ?_, below_drew ?_, ?_, ?_, ?_, ?_⟩
    all_goals first
      | (simp; done)
      | omega
      | (refine whole_drew ?_; rw [made_bool, made_nils, made_ints]; repeat (first | (with_reducible refine whole_new ?_; simp; done) | with_reducible refine Whole.alloc ?_ _))
      | (repeat (with_reducible first | exact Below.refl _ _ | refine Below.alloc ?_ (by first | omega | (simp; done) | (simp; omega)) _))
  case rest =>
    obtain ⟨R, rfl, bt, bc, bw, hR, h1, h2, h3, hb, z1, z2, z3, z4⟩ := hcut
    have HRw := Lib.hid hR
    have HB := Lib.hid h1
    have HC := Lib.hid h2
    have HI := Lib.hid h3
    have c2 : wc.cell? ⟨R, 2, none⟩ = some (.int .i64 0) := by rw [hR.cell]; rfl
    have c3 : wc.cell? ⟨R, 3, none⟩ = some (.int .i64 0) := by rw [hR.cell]; rfl
    have f2 := hR.free 2
    have f3 := hR.free 3
    clear hR h1 h2 h3 hmk1 hmk2 hmk3
    go_wp2_with fail
    refine (rLayout_yes _ _ HQ.out).mono ?_
    rintro e w' ⟨rfl, rfl⟩
    go_wp2
    go_ret
    have hl1 : Left [R] wc (wc.setCell ⟨R, 2, none⟩ (.int .i64 (16 * (n : Int)))) := (Left.refl _ _).setCell (Or.inl (by simp)) _
    have hl2 : Left [R] wc ((wc.setCell ⟨R, 2, none⟩ (.int .i64 (16 * (n : Int)))).setCell ⟨R, 3, none⟩ (.int .i64 (usedAt n))) := hl1.setCell (Or.inl (by simp)) _
    have n1 : R ≠ bt := HRw.out.ne HB.out (by decide)
    have n2 : R ≠ bc := HRw.out.ne HC.out (by decide)
    have n3 : R ≠ bw := HRw.out.ne HI.out (by decide)
    refine ⟨R, bt, bc, bw, rfl, ⟨(HRw.out.put 2 _).put 3 _, HB.out.left hl2 (by simp [n1.symm]), ⟨_, HC.out.left hl2 (by simp [n2.symm]), rows_none _ _ _⟩, HI.out.left hl2 (by simp [n3.symm]), ⟨by simp, by simp, by simp⟩, by simp⟩, hb.trans (hl2.belowB hb.size (by simpa using z1)), z1, z2, z3, z4⟩
end Go.Proofs.Ytfffehbipcikoaa
