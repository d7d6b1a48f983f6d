/- Driver.Add, where it refuses. -/

import Derived.Test.YtfffehbipcikoaaRing4
namespace Go.Proofs.Ytfffehbipcikoaa
open Go.RowKit


set_option maxRecDepth 20000 in
set_option maxHeartbeats 1000000 in
theorem Add_broken (w : World) (D : Nat) (q : Int) (m : Nat) (wr rd : Nat) (r : List Value) (v : Value) (L : List Buf) (hH : Whole w D 123 (halfCells q m true wr rd ++ r)) (hL : Rd w w.heap.size 3 v L.length (bufCells L)) :
    Calls Try.prog 45 #[.pointer (some ⟨D, 0, none⟩), v] w fun e w' => e = .returned (.tuple #[.int .i64 0, .int .i64 6]) ∧ Below w.heap.size w w' := by
  have HW := Lib.hid hH
  have HL := Lib.hid hL
  obtain ⟨ao, cap, rfl, hcp, hmx⟩ := hL.form
  clear hH hL
  go_enter Try.func45, Try.ntmps45
  go_wp2_with fail
  refine (pieces_any _ _ _ HL.out).mono ?_
  rintro e w1 ⟨rfl, hb⟩
  have c5 : w1.cell? ⟨D, 5, none⟩ = some (.bool true) := by rw [(HW.out.belowH hb).cell]; rfl
  cases bufsB L
  all_goals go_wp2
  all_goals go_ret2
  all_goals exact ⟨rfl, hb⟩

set_option maxRecDepth 20000 in
set_option maxHeartbeats 1000000 in
theorem Add_form (w : World) (D : Nat) (q : Int) (m : Nat) (wr rd : Nat) (r : List Value) (v : Value) (L : List Buf) (hH : Whole w D 123 (halfCells q m false wr rd ++ r)) (hL : Rd w w.heap.size 3 v L.length (bufCells L)) (hx : bufsB L = false) :
    Calls Try.prog 45 #[.pointer (some ⟨D, 0, none⟩), v] w fun e w' => e = .returned (.tuple #[.int .i64 0, .int .i64 1]) ∧ Below w.heap.size w w' := by
  have HW := Lib.hid hH
  have HL := Lib.hid hL
  have HX := Lib.hid hx
  obtain ⟨ao, cap, rfl, hcp, hmx⟩ := hL.form
  clear hH hL hx
  go_enter Try.func45, Try.ntmps45
  go_wp2_with fail
  refine (pieces_any _ _ _ HL.out).mono ?_
  rintro e w1 ⟨rfl, hb⟩
  have c5 : w1.cell? ⟨D, 5, none⟩ = some (.bool false) := by rw [(HW.out.belowH hb).cell]; rfl
  rw [HX.out]
  go_wp2
  go_ret2
  exact ⟨rfl, hb⟩

set_option maxRecDepth 20000 in
set_option maxHeartbeats 1000000 in
theorem Add_full (w : World) (D bs bw bl : Nat) (q : Int) (m : Nat) (wr rd : Nat) (bz : List Bool) (wy : List (Int × List Nat)) (ls : List (Int × Int)) (v : Value) (L : List Buf) (hD : DrvAt w D bs bw bl m q false wr rd bz wy ls) (hq : bz.length ≤ 64) (hL : Rd w w.heap.size 3 v L.length (bufCells L)) (hx : bufsB L = true) (hf : freeN bz < L.length) :
    Calls Try.prog 45 #[.pointer (some ⟨D, 0, none⟩), v] w fun e w' => e = .returned (.tuple #[.int .i64 0, .int .i64 5]) ∧ Below w.heap.size w w' := by
  have HW := Lib.hid hD.head
  have HS := Lib.hid hD.busy
  have HL := Lib.hid hL
  have HX := Lib.hid hx
  obtain ⟨ao, cap, rfl, hcp, hmx⟩ := hL.form
  clear hD hL hx
  go_enter Try.func45, Try.ntmps45
  go_wp2_with fail
  refine (pieces_any _ _ _ HL.out).mono ?_
  rintro e w1 ⟨rfl, hb⟩
  have c5 : w1.cell? ⟨D, 5, none⟩ = some (.bool false) := by rw [(HW.out.belowH hb).cell]; rfl
  rw [HX.out]
  go_wp2_with fail
  refine (Free_any _ D bs q m false wr rd bz _ _ (HW.out.belowH hb) (HS.out.belowH hb) hq).mono ?_
  rintro e w2 ⟨rfl, rfl⟩
  go_wp2
  go_ret2
  exact ⟨rfl, hb⟩
end Go.Proofs.Ytfffehbipcikoaa
