/- The contracts of ring.open, NewDriver, NewDevice, Free. -/

import Derived.Test.YtfffehbipcikoaaRing2
namespace Go.Proofs.Ytfffehbipcikoaa
open Go.RowKit

theorem below_drewN {B : Nat} {w w' : World} (h : Below B w w') (n : Nat) : Below B w (w'.drewN n) := ⟨h.os, h.tape, h.output, h.size, h.block⟩
theorem below_drew {B : Nat} {w w' : World} (h : Below B w w') : Below B w w'.drew := ⟨h.os, h.tape, h.output, h.size, h.block⟩
theorem whole_drew {w : World} {g : Nat} {t : TypeId} {cs : List Value} (h : Whole w g t cs) : Whole w.drew g t cs := h
def sizeAt (q : Int) : Int := usedAt q + 4 + 8 * q

set_option maxHeartbeats 1000000 in
theorem open_no (w : World) (m : Nat) (q : Int) (hq : isQ q = false) :
    Calls Try.prog 67 #[.pointer (some ⟨m, 0, none⟩), .int .i64 q] w fun e w' => e = .returned (.tuple #[.agg #[.int .i64 0, .int .i64 0, .int .i64 0, .int .i64 0, .pointer none, .bool false, .int .i64 0, .int .i64 0], .int .i64 1]) ∧ Below w.heap.size w w' := by
  have HQ := Lib.hid hq
  clear hq
  go_enter Try.func67, Try.ntmps67
  go_wp2_with fail
  refine (layout_no _ _ HQ.out).mono ?_
  rintro e w1 ⟨rfl, hb⟩
  have hz := hb.size
  simp at hz
  have hW := (Whole.new w 116 [.int .i64 0, .int .i64 0, .int .i64 0, .int .i64 0, .pointer none, .bool false, .int .i64 0, .int .i64 0]).belowH hb
  have f0 := hW.free 0
  have g0 := hW.cell 0
  have f1 := hW.free 1
  have g1 := hW.cell 1
  have f2 := hW.free 2
  have g2 := hW.cell 2
  have f3 := hW.free 3
  have g3 := hW.cell 3
  have f4 := hW.free 4
  have g4 := hW.cell 4
  have f5 := hW.free 5
  have g5 := hW.cell 5
  have f6 := hW.free 6
  have g6 := hW.cell 6
  have f7 := hW.free 7
  have g7 := hW.cell 7
  simp only [List.getElem?_cons_zero, List.getElem?_cons_succ] at g0 g1 g2 g3 g4 g5 g6 g7
  have hz2 : w.heap.size < w1.heap.size := by omega
  have hbb := ((Below.refl w.heap.size w).alloc (Nat.le_refl _) _).trans (hb.mono (by simp))
  go_wp2
  exact bodyPost_ret (v := .tuple #[.agg #[.int .i64 0, .int .i64 0, .int .i64 0, .int .i64 0, .pointer none, .bool false, .int .i64 0, .int .i64 0], .int .i64 1]) (by simp [results, Try.results67, go_sem, g0, g1, g2, g3, g4, g5, g6, g7, hz2]) rfl ⟨rfl, by repeat (with_reducible first | exact hbb | refine Below.setCell ?_ (by simp) _ | refine Below.alloc ?_ (by first | omega | (simp; omega)) _)⟩

set_option maxHeartbeats 1000000 in
theorem open_limit (w : World) (m d : Nat) (q : Int) (B : List UInt8) (hq : isQ q = true) (hM : MemAt 114 w m d B) (hB : (B.length : Int) < sizeAt q) :
    Calls Try.prog 67 #[.pointer (some ⟨m, 0, none⟩), .int .i64 q] w fun e w' => e = .returned (.tuple #[.agg #[.int .i64 0, .int .i64 0, .int .i64 0, .int .i64 0, .pointer none, .bool false, .int .i64 0, .int .i64 0], .int .i64 2]) ∧ Below w.heap.size w w' := by
  have HQ := Lib.hid hq
  have HM := Lib.hid hM
  have hs : (B.length : Int) < usedAt q + 4 + 8 * q := hB
  clear hq hM hB
  go_enter Try.func67, Try.ntmps67
  go_wp2_with fail
  refine (layout_yes _ _ HQ.out).mono ?_
  rintro e w1 ⟨rfl, hb⟩
  have hz := hb.size
  simp at hz
  have hW := (Whole.new w 116 [.int .i64 0, .int .i64 0, .int .i64 0, .int .i64 0, .pointer none, .bool false, .int .i64 0, .int .i64 0]).belowH hb
  have f0 := hW.free 0
  have g0 := hW.cell 0
  have f1 := hW.free 1
  have g1 := hW.cell 1
  have f2 := hW.free 2
  have g2 := hW.cell 2
  have f3 := hW.free 3
  have g3 := hW.cell 3
  have f4 := hW.free 4
  have g4 := hW.cell 4
  have f5 := hW.free 5
  have g5 := hW.cell 5
  have f6 := hW.free 6
  have g6 := hW.cell 6
  have f7 := hW.free 7
  have g7 := hW.cell 7
  simp only [List.getElem?_cons_zero, List.getElem?_cons_succ] at g0 g1 g2 g3 g4 g5 g6 g7
  have hz2 : w.heap.size < w1.heap.size := by omega
  have hbb := ((Below.refl w.heap.size w).alloc (Nat.le_refl _) (.cells #[.int .i64 0, .int .i64 0, .int .i64 0, .int .i64 0, .pointer none, .bool false, .int .i64 0, .int .i64 0] 116)).trans (hb.mono (by simp))
  have HM1 : Hid (MemAt 114 (w1.alloc (.cells #[.int .i64 q, .int .i64 (16 * q), .int .i64 (usedAt q), .int .i64 (usedAt q + 4 + 8 * q)] 110)) m d B) := Lib.hid (HM.out.belowH (hbb.alloc (by omega) _))
  go_wp2_with fail
  go_quiet ((go_at_call 35; exact Calls.quiet_of_same ((Len_any _ m d B (HM1.out.drewN _)).mono fun e w' ⟨he, hw⟩ => ⟨he, hw.symm⟩)))
  go_wp2
  exact bodyPost_ret (v := .tuple #[.agg #[.int .i64 0, .int .i64 0, .int .i64 0, .int .i64 0, .pointer none, .bool false, .int .i64 0, .int .i64 0], .int .i64 2]) (by simp [results, Try.results67, go_sem, g0, g1, g2, g3, g4, g5, g6, g7, hz2]) rfl ⟨rfl, by repeat (with_reducible first | exact hbb | refine Below.setCell ?_ (by simp) _ | refine below_drewN ?_ _ | refine Below.alloc ?_ (by first | omega | (simp; omega)) _)⟩

set_option maxHeartbeats 1000000 in
theorem open_ok (w : World) (m d : Nat) (q : Int) (B : List UInt8) (hq : isQ q = true) (hM : MemAt 114 w m d B) (hB : sizeAt q ≤ B.length) :
    Calls Try.prog 67 #[.pointer (some ⟨m, 0, none⟩), .int .i64 q] w fun e w' => e = .returned (.tuple #[.agg (halfCells q m false 0 0).toArray, .int .i64 0]) ∧ Below w.heap.size w w' := by
  have HQ := Lib.hid hq
  have HM := Lib.hid hM
  have hs : usedAt q + 4 + 8 * q ≤ (B.length : Int) := hB
  clear hq hM hB
  go_enter Try.func67, Try.ntmps67
  go_wp2_with fail
  refine (layout_yes _ _ HQ.out).mono ?_
  rintro e w1 ⟨rfl, hb⟩
  have hz := hb.size
  simp at hz
  have hW := (Whole.new w 116 [.int .i64 0, .int .i64 0, .int .i64 0, .int .i64 0, .pointer none, .bool false, .int .i64 0, .int .i64 0]).belowH hb
  have f0 := hW.free 0
  have g0 := hW.cell 0
  have f1 := hW.free 1
  have g1 := hW.cell 1
  have f2 := hW.free 2
  have g2 := hW.cell 2
  have f3 := hW.free 3
  have g3 := hW.cell 3
  have f4 := hW.free 4
  have g4 := hW.cell 4
  have f5 := hW.free 5
  have g5 := hW.cell 5
  have f6 := hW.free 6
  have g6 := hW.cell 6
  have f7 := hW.free 7
  have g7 := hW.cell 7
  simp only [List.getElem?_cons_zero, List.getElem?_cons_succ] at g0 g1 g2 g3 g4 g5 g6 g7
  have hz2 : w.heap.size < w1.heap.size := by omega
  have hbb := ((Below.refl w.heap.size w).alloc (Nat.le_refl _) (.cells #[.int .i64 0, .int .i64 0, .int .i64 0, .int .i64 0, .pointer none, .bool false, .int .i64 0, .int .i64 0] 116)).trans (hb.mono (by simp))
  have HM1 : Hid (MemAt 114 (w1.alloc (.cells #[.int .i64 q, .int .i64 (16 * q), .int .i64 (usedAt q), .int .i64 (usedAt q + 4 + 8 * q)] 110)) m d B) := Lib.hid (HM.out.belowH (hbb.alloc (by omega) _))
  go_wp2_with fail
  go_quiet ((go_at_call 35; exact Calls.quiet_of_same ((Len_any _ m d B (HM1.out.drewN _)).mono fun e w' ⟨he, hw⟩ => ⟨he, hw.symm⟩)))
  go_wp2
  exact bodyPost_ret (v := .tuple #[.agg (halfCells q m false 0 0).toArray, .int .i64 0]) (by simp [results, Try.results67, go_sem, g0, g1, g2, g3, g4, g5, g6, g7, hz2, halfCells]) rfl ⟨rfl, by repeat (with_reducible first | exact hbb | refine Below.setCell ?_ (by simp) _ | refine below_drewN ?_ _ | refine Below.alloc ?_ (by first | omega | (simp; omega)) _)⟩

theorem whole_new {w : World} {g : Nat} {t : TypeId} {cs : List Value} (h : g = w.heap.size) : Whole (w.alloc (.cells cs.toArray t)) g t cs := h ▸ Whole.new w t cs
theorem imap_new {w : World} {g : Nat} (h : g = w.heap.size) : IMap (w.alloc (.map #[] 0)) g [] := h ▸ IMap.new w
theorem imap_alloc {w : World} {g : Nat} {L : List (Int × Value)} (h : IMap w g L) (o : Obj) : IMap (w.alloc o) g L := h.left (S := []) ((Left.refl _ _).alloc o) (by simp)
/-- Numbers as cells. -/
def i64s (l : List Nat) : List Value := l.map fun x : Nat => .int .i64 x
/-- Slice value v is a row of ints of our own, at the head of a block. -/
def OwnI (w : World) (v : Value) (own : List Nat) : Prop := w.ownsRow 0 3 1 v own.length (i64s own)
/-- Block k is no row of ints. -/
def NoInt (w : World) (k : Nat) : Prop := ∀ cur fl, w.heap[k]? ≠ some (.cells cur 3 fl)
theorem NoInt.of_whole {w : World} {g : Nat} {t : TypeId} {cs : List Value} (h : Whole w g t cs) (ht : t ≠ 3) : NoInt w g := by
  intro cur fl e
  have := h.symm.trans e
  injection this with this
  injection this with _ this
  exact ht this
theorem NoInt.of_imap {w : World} {g : Nat} {L : List (Int × Value)} (h : IMap w g L) : NoInt w g := by
  intro cur fl e
  obtain ⟨es, clock, hm, _⟩ := h.size
  rw [hm] at e
  injection e with e
  cases e
theorem OwnI.left {w w' : World} {v : Value} {own : List Nat} {S : List Nat} (h : OwnI w v own) (hl : Left S w w') (hS : ∀ k ∈ S, NoInt w k) : OwnI w' v own := by
  refine ⟨h.1, ?_⟩
  rcases h.2 with hn | ⟨g, cap, cur, rfl, hb, hgg, rest⟩
  · exact .inl hn
  · exact .inr ⟨g, cap, cur, rfl, hb, (hl.block g (h.lt g rfl).2 (fun hm => hS g hm _ _ hgg)).trans hgg, rest⟩
def WayAt (w : World) : List (Int × Value) → List (Int × List Nat) → Prop
  | [], [] => True
  | p :: W, p' :: way => p.1 = p'.1 ∧ OwnI w p.2 p'.2 ∧ WayAt w W way
  | _, _ => False
theorem WayAt.left {w w' : World} {S : List Nat} (hl : Left S w w') (hS : ∀ k ∈ S, NoInt w k) : ∀ {W : List (Int × Value)} {wy : List (Int × List Nat)}, WayAt w W wy → WayAt w' W wy
  | [], [], _ => trivial
  | _ :: _, _ :: _, ⟨h1, h2, h3⟩ => ⟨h1, h2.left hl hS, WayAt.left hl hS h3⟩
def leastV (least : List (Int × Int)) : List (Int × Value) := least.map fun p => (p.1, .int .i64 p.2)
/-- The driver lies at block D: busy at bs, way at bw, least at bl. -/
structure DrvAt (w : World) (D bs bw bl : Nat) (m : Nat) (q : Int) (br : Bool) (wr rd : Nat) (bz : List Bool) (wy : List (Int × List Nat)) (ls : List (Int × Int)) : Prop where
  head : Whole w D 123 (halfCells q m br wr rd ++ [.slice (some ⟨bs, 0, none⟩) bz.length bz.length, .map (some bw), .map (some bl)])
  busy : Whole w bs 4 (bz.map (.bool ·))
  way : ∃ W, IMap w bw W ∧ WayAt w W wy
  least : IMap w bl (leastV ls)
  ne : bw ≠ bl
  len : (bz.length : Int) = q

theorem DrvAt.left {w w' : World} {D bs bw bl m : Nat} {q : Int} {br : Bool} {wr rd : Nat} {bz : List Bool} {wy : List (Int × List Nat)} {ls : List (Int × Int)} {S : List Nat} (h : DrvAt w D bs bw bl m q br wr rd bz wy ls) (hl : Left S w w') (hS : ∀ k ∈ S, NoInt w k) (h1 : D ∉ S) (h2 : bs ∉ S) (h3 : bw ∉ S) (h4 : bl ∉ S) : DrvAt w' D bs bw bl m q br wr rd bz wy ls := by
  obtain ⟨W, hW, hA⟩ := h.way
  exact ⟨h.head.left hl h1, h.busy.left hl h2, ⟨W, hW.left hl h3, hA.left hl hS⟩, h.least.left hl h4, h.ne, h.len⟩
theorem imap_drew {w : World} {g : Nat} {L : List (Int × Value)} (h : IMap w g L) : IMap w.drew g L := h
theorem DrvAt.mk0 {w : World} {D bs bw bl m n : Nat} (h : Whole w D 123 (halfCells n m false 0 0 ++ [.slice (some ⟨bs, 0, none⟩) n n, .map (some bw), .map (some bl)])) (hb : Whole w bs 4 ((List.replicate n false).map (.bool ·))) (h1 : IMap w bw []) (h2 : IMap w bl []) (hne : bw ≠ bl) : DrvAt w D bs bw bl m n false 0 0 (List.replicate (n : Int).toNat false) [] [] :=
  ⟨by simpa using h, by simpa using hb, ⟨[], h1, trivial⟩, h2, hne, by simp⟩
theorem made_bool (n : Nat) : (madeCells #[.bool false] n) = ((List.replicate n false).map (fun b : Bool => Value.bool b)).toArray := by
  apply Array.ext'
  rw [toList_madeCells_one]
  simp

/-- The device lies at block D. -/
def DevAt (w : World) (D : Nat) (m : Nat) (q : Int) (br : Bool) (wr rd : Nat) : Prop := Whole w D 125 (halfCells q m br wr rd)

set_option maxHeartbeats 1000000 in
theorem NewDevice_ok (w : World) (m d : Nat) (q : Int) (B : List UInt8) (hq : isQ q = true) (hM : MemAt 114 w m d B) (hB : sizeAt q ≤ B.length) :
    Calls Try.prog 38 #[.pointer (some ⟨m, 0, none⟩), .int .i64 q] w fun e w' => ∃ D, e = .returned (.tuple #[.pointer (some ⟨D, 0, none⟩), .int .i64 0]) ∧ Below w.heap.size w w' ∧ w.heap.size ≤ D ∧ DevAt w' D m q false 0 0 := by
  have HQ := Lib.hid hq
  have HM := Lib.hid hM
  have HB := Lib.hid hB
  clear hq hM hB
  go_enter Try.func38, Try.ntmps38
  go_wp2_with fail
  refine (open_ok _ _ _ _ _ HQ.out HM.out HB.out).mono ?_
  rintro e w1 ⟨rfl, hb⟩
  have hz := hb.size
  simp only [halfCells, List.toArray]
  go_wp2
  go_ret2
  exact ⟨_, rfl, (hb.alloc hz _).alloc (by simp; omega) _, by omega, whole_new (by simp)⟩

theorem info_bool : (Try.prog.info? 4).map (fun i => (i.zero, i.size, i.bytes)) = some (some (.bool false), 1, 1) := by kernel_rfl

set_option maxHeartbeats 1000000 in
theorem NewDriver_ok (w : World) (m d : Nat) (q : Int) (B : List UInt8) (hq : isQ q = true) (hM : MemAt 114 w m d B) (hB : sizeAt q ≤ B.length) :
    Calls Try.prog 37 #[.pointer (some ⟨m, 0, none⟩), .int .i64 q] w fun e w' => ∃ D, e = .returned (.tuple #[.pointer (some ⟨D, 0, none⟩), .int .i64 0]) ∧ Below w.heap.size w w' ∧ w.heap.size ≤ D ∧ ∃ bs bw bl, w.heap.size ≤ bs ∧ w.heap.size ≤ bw ∧ w.heap.size ≤ bl ∧ DrvAt w' D bs bw bl m q false 0 0 (List.replicate q.toNat false) [] [] := by
  have hr := isQ_range hq
  obtain ⟨n, rfl⟩ : ∃ n : Nat, q = n := ⟨q.toNat, by omega⟩
  have HQ := Lib.hid hq
  have HM := Lib.hid hM
  have HB := Lib.hid hB
  have hq2 : n ≤ 64 := by omega
  clear hq hM hB hr
  have hmk := run_make_row' (P := Try.prog) 119 4 (.bool false) 1 Try.underlying119 info_bool rfl .i64 .i64 n (by omega) (by omega)
  have hmm := @run_makeMap Try.prog
  go_enter Try.func37, Try.ntmps37
  go_wp2_with fail
  refine (open_ok _ _ _ _ _ HQ.out HM.out HB.out).mono ?_
  rintro e w1 ⟨rfl, hb⟩
  have hz := hb.size
  simp only [halfCells, List.toArray]
  go_wp2
  go_region
  all_goals go_wp2
  all_goals go_ret2
  all_goals refine ⟨_, rfl, below_drew ?_, ?_, _, _, _, ?_, ?_, ?_, DrvAt.mk0 (whole_drew (whole_new ?_)) ?_ ?_ ?_ ?_⟩
  all_goals try omega
  all_goals first
    | (refine whole_drew ?_; rw [made_bool]; repeat (first | (with_reducible refine whole_new ?_; simp; done) | with_reducible refine Whole.alloc ?_ _))
    | (refine imap_drew ?_; repeat (first | (refine imap_new ?_; simp; done) | refine imap_alloc ?_ _))
    | (simp; done)
    | (repeat (with_reducible first | exact hb | refine Below.alloc ?_ (by first | omega | (simp; omega)) _))

set_option maxHeartbeats 1000000 in
theorem NewDriver_no (w : World) (m : Nat) (q : Int) (hq : isQ q = false) :
    Calls Try.prog 37 #[.pointer (some ⟨m, 0, none⟩), .int .i64 q] w fun e w' => e = .returned (.tuple #[.pointer none, .int .i64 1]) ∧ Below w.heap.size w w' := by
  have HQ := Lib.hid hq
  clear hq
  go_enter Try.func37, Try.ntmps37
  go_wp2_with fail
  refine (open_no _ _ _ HQ.out).mono ?_
  rintro e w1 ⟨rfl, hb⟩
  have hz := hb.size
  go_wp2
  go_ret2
  exact ⟨rfl, hb.alloc hz _⟩

set_option maxHeartbeats 1000000 in
theorem NewDriver_limit (w : World) (m d : Nat) (q : Int) (B : List UInt8) (hq : isQ q = true) (hM : MemAt 114 w m d B) (hB : (B.length : Int) < sizeAt q) :
    Calls Try.prog 37 #[.pointer (some ⟨m, 0, none⟩), .int .i64 q] w fun e w' => e = .returned (.tuple #[.pointer none, .int .i64 2]) ∧ Below w.heap.size w w' := by
  have HQ := Lib.hid hq
  have HM := Lib.hid hM
  have HB := Lib.hid hB
  clear hq hM hB
  go_enter Try.func37, Try.ntmps37
  go_wp2_with fail
  refine (open_limit _ _ _ _ _ HQ.out HM.out HB.out).mono ?_
  rintro e w1 ⟨rfl, hb⟩
  have hz := hb.size
  go_wp2
  go_ret2
  exact ⟨rfl, hb.alloc hz _⟩

set_option maxHeartbeats 1000000 in
theorem NewDevice_no (w : World) (m : Nat) (q : Int) (hq : isQ q = false) :
    Calls Try.prog 38 #[.pointer (some ⟨m, 0, none⟩), .int .i64 q] w fun e w' => e = .returned (.tuple #[.pointer none, .int .i64 1]) ∧ Below w.heap.size w w' := by
  have HQ := Lib.hid hq
  clear hq
  go_enter Try.func38, Try.ntmps38
  go_wp2_with fail
  refine (open_no _ _ _ HQ.out).mono ?_
  rintro e w1 ⟨rfl, hb⟩
  have hz := hb.size
  go_wp2
  go_ret2
  exact ⟨rfl, hb.alloc hz _⟩

set_option maxHeartbeats 1000000 in
theorem NewDevice_limit (w : World) (m d : Nat) (q : Int) (B : List UInt8) (hq : isQ q = true) (hM : MemAt 114 w m d B) (hB : (B.length : Int) < sizeAt q) :
    Calls Try.prog 38 #[.pointer (some ⟨m, 0, none⟩), .int .i64 q] w fun e w' => e = .returned (.tuple #[.pointer none, .int .i64 2]) ∧ Below w.heap.size w w' := by
  have HQ := Lib.hid hq
  have HM := Lib.hid hM
  have HB := Lib.hid hB
  clear hq hM hB
  go_enter Try.func38, Try.ntmps38
  go_wp2_with fail
  refine (open_limit _ _ _ _ _ HQ.out HM.out HB.out).mono ?_
  rintro e w1 ⟨rfl, hb⟩
  have hz := hb.size
  go_wp2
  go_ret2
  exact ⟨rfl, hb.alloc hz _⟩
end Go.Proofs.Ytfffehbipcikoaa
