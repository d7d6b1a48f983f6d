/- The contracts of ring.half: get, put, ahead, breaks; of piece and pieces. -/

import Derived.Test.YtfffehbipcikoaaLay
import Derived.Test.YtfffehbipcikoaaRefMem
import Derived.Test.YtfffehbipcikoaaMap
import Derived.Test.YtfffehbipcikoaaScope
import Derived.Deep.DeepCutAuto
import Derived.Deep.RegionHeld3
namespace Go.Proofs.Ytfffehbipcikoaa
open Go.RowKit

def halfCells (q : Int) (m : Nat) (br : Bool) (wr rd : Nat) : List Value :=
  [.int .i64 q, .int .i64 (16 * q), .int .i64 (usedAt q), .int .i64 (usedAt q + 4 + 8 * q), .pointer (some ⟨m, 0, none⟩), .bool br, .int .i64 wr, .int .i64 rd]
/-- A half lies at the head of block D. -/
def HalfC (w : World) (D : Nat) (q : Int) (m : Nat) (br : Bool) (wr rd : Nat) : Prop := ∀ i v, (halfCells q m br wr rd)[i]? = some v → w.cell? ⟨D, i, none⟩ = some v
theorem HalfC.below {w w' : World} {D : Nat} {q : Int} {m : Nat} {br : Bool} {wr rd : Nat} (h : HalfC w D q m br wr rd) (hb : Below w.heap.size w w') : HalfC w' D q m br wr rd := fun i v hv => (hb.cell (World.block_lt_of_cell? w _ (h i v hv))).trans (h i v hv)
theorem HalfC.of_whole {w : World} {D : Nat} {t : TypeId} {q : Int} {m : Nat} {br : Bool} {wr rd : Nat} {r : List Value} (h : Whole w D t (halfCells q m br wr rd ++ r)) : HalfC w D q m br wr rd := fun i v hv => by
  rw [h.cell, List.getElem?_append_left (List.getElem?_eq_some_iff.1 hv).1]
  exact hv

theorem getV_lt (B : List UInt8) (p n : Int) : 0 ≤ getV B p n ∧ (n ≤ 4 → getV B p n ≤ 4294967295) ∧ (n ≤ 2 → getV B p n ≤ 65535) := by
  unfold getV
  split
  · rename_i h
    have hw := (askE_zero h).1
    have hn : 0 ≤ n := by rcases isW_cases hw with h | h | h | h <;> omega
    have h1 := le_take_lt (B.drop p.toNat) n.toNat
    refine ⟨by omega, fun h4 => ?_, fun h2 => ?_⟩
    · have : 256 ^ n.toNat ≤ 256 ^ 4 := Nat.pow_le_pow_right (by omega) (by omega)
      have h256 : (256 : Nat) ^ 4 = 4294967296 := by decide
      omega
    · have : 256 ^ n.toNat ≤ 256 ^ 2 := Nat.pow_le_pow_right (by omega) (by omega)
      have h256 : (256 : Nat) ^ 2 = 65536 := by decide
      omega
  · exact ⟨by omega, fun _ => by omega, fun _ => by omega⟩

set_option maxHeartbeats 400000 in
theorem hget_any (w : World) (D : Nat) (q : Int) (m d : Nat) (br : Bool) (wr rd : Nat) (B : List UInt8) (p n : Int) (h : HalfC w D q m br wr rd) (hM : MemAt 114 w m d B) (hB : B.length ≤ 65536) :
    Calls Try.prog 69 #[.pointer (some ⟨D, 0, none⟩), .int .i64 p, .int .i64 n] w fun e w' => e = .returned (.int .i64 (wrap64 (getV B p n))) ∧ w = w' := by
  have c4 := h 4 _ rfl
  have HM := Lib.hid hM
  clear h hM
  go_enter Try.func69, Try.ntmps69
  go_wp2_with fail
  refine (Get_any _ _ _ _ _ _ HM.out hB).mono ?_
  rintro e w' ⟨rfl, rfl⟩
  go_wp2
  go_ret
  exact ⟨rfl, rfl⟩

theorem hget_small (w : World) (D : Nat) (q : Int) (m d : Nat) (br : Bool) (wr rd : Nat) (B : List UInt8) (p n : Int) (h : HalfC w D q m br wr rd) (hM : MemAt 114 w m d B) (hB : B.length ≤ 65536) (hn : n ≤ 4) :
    Calls Try.prog 69 #[.pointer (some ⟨D, 0, none⟩), .int .i64 p, .int .i64 n] w fun e w' => e = .returned (.int .i64 (getV B p n)) ∧ w = w' := by
  refine (hget_any w D q m d br wr rd B p n h hM hB).mono fun e w' ⟨he, hw⟩ => ⟨?_, hw⟩
  have h1 := getV_lt B p n
  have h2 := h1.2.1 hn
  rw [he, IntWalk.wrap64_in _ ⟨by omega, by omega⟩]

theorem hget_q (w : World) (D : Nat) (q : Int) (m d : Nat) (br : Bool) (wr rd : Nat) (B : List UInt8) (p n : Int) (h : HalfC w D q m br wr rd) (hM : MemAt 114 w m d B) (hB : B.length ≤ 65536) (hn : n ≤ 4) :
    Calls Try.prog 69 #[.pointer (some ⟨D, 0, none⟩), .int .i64 p, .int .i64 n] w fun e w' => e = .returned (.int .i64 (getV B p n)) ∧ w' = w :=
  (hget_small w D q m d br wr rd B p n h hM hB hn).mono fun _ _ ⟨he, hw⟩ => ⟨he, hw.symm⟩
theorem HalfC.drewN {w : World} {D : Nat} {q : Int} {m : Nat} {br : Bool} {wr rd : Nat} (h : HalfC w D q m br wr rd) (n : Nat) : HalfC (w.drewN n) D q m br wr rd := h
theorem HalfC.drew {w : World} {D : Nat} {q : Int} {m : Nat} {br : Bool} {wr rd : Nat} (h : HalfC w D q m br wr rd) : HalfC w.drew D q m br wr rd := h

theorem u64_small (v : Nat) (hv : v ≤ 9223372036854775807) : IntKind.u64.wrap (v : Int) = v := by
  rw [IntKind.wrap_u64]; omega

set_option maxHeartbeats 400000 in
theorem hput_any (w : World) (D : Nat) (q : Int) (m d : Nat) (br : Bool) (wr rd : Nat) (B : List UInt8) (p n : Int) (v : Nat) (h : HalfC w D q m br wr rd) (hM : MemAt 114 w m d B) (hB : B.length ≤ 65536) (hv : v ≤ 9223372036854775807) :
    Calls Try.prog 72 #[.pointer (some ⟨D, 0, none⟩), .int .i64 p, .int .i64 n, .int .i64 v] w fun e w' => e = .returned (.tuple #[]) ∧ MemAt 114 w' m d (putV B p n v) ∧ Left [d] w w' := by
  have c4 := h 4 _ rfl
  have HM := Lib.hid hM
  have hu := u64_small v hv
  have HU := Lib.hid hu
  clear h hM hu
  go_enter Try.func72, Try.ntmps72
  go_wp2_with fail
  refine (Put_any _ _ _ _ _ _ v HM.out hB).mono ?_
  rintro e w' ⟨rfl, hm, hl⟩
  go_wp2
  go_end0
  exact ⟨rfl, hm, hl⟩

def aheadV (B : List UInt8) (p : Int) (rd : Nat) : Int := (getV B p 2 - rd + 65536) % 65536

theorem ahead_eq (B : List UInt8) (p : Int) (rd : Nat) (hr : rd ≤ 65535) : (wrap64 (wrap64 (getV B p 2 - rd) + 65536)).tmod 65536 = aheadV B p rd := by
  have hg := getV_lt B p 2
  have h0 := hg.1
  have h1 := hg.2.2 (by omega)
  unfold aheadV
  generalize getV B p 2 = g at h0 h1
  rw [IntWalk.wrap64_in (g - rd) ⟨by omega, by omega⟩, IntWalk.wrap64_in _ ⟨by omega, by omega⟩]
  exact Int.tmod_eq_emod_of_nonneg (by omega)

set_option maxHeartbeats 400000 in
theorem hahead_any (w : World) (D : Nat) (q : Int) (m d : Nat) (br : Bool) (wr rd : Nat) (B : List UInt8) (p : Int) (h : HalfC w D q m br wr rd) (hM : MemAt 114 w m d B) (hB : B.length ≤ 65536) (hr : rd ≤ 65535) :
    Calls Try.prog 68 #[.pointer (some ⟨D, 0, none⟩), .int .i64 p] w fun e w' => e = .returned (.int .i64 (aheadV B p rd)) ∧ ∃ n, w' = w.drewN n := by
  have c7 := h 7 _ rfl
  have HH := Lib.hid h
  have HM := Lib.hid hM
  have hg := getV_lt B p 2
  have HG := Lib.hid (ahead_eq B p rd hr)
  clear h hM hg
  go_enter Try.func68, Try.ntmps68
  go_wp2_with fail
  go_quiet ((go_at_call 69; exact Calls.quiet_of_same (hget_q _ D q m d br wr rd B p 2 (HH.out.drewN _) (HM.out.drewN _) hB (by omega))))
  go_wp2
  rw [HG.out]
  go_ret
  exact ⟨rfl, nq, rfl⟩

set_option maxHeartbeats 400000 in
theorem breaks_any (w : World) (D : Nat) (t : TypeId) (q : Int) (m : Nat) (br : Bool) (wr rd : Nat) (r : List Value) (h : Whole w D t (halfCells q m br wr rd ++ r)) :
    Calls Try.prog 71 #[.pointer (some ⟨D, 0, none⟩)] w fun e w' => e = .returned (.int .i64 1) ∧ Whole w' D t (halfCells q m true wr rd ++ r) ∧ Left [D] w w' := by
  have c5 := HalfC.of_whole h 5 _ rfl
  have f5 := h.free 5
  have HW := Lib.hid h
  clear h
  go_enter Try.func71, Try.ntmps71
  go_wp2
  go_ret
  exact ⟨rfl, HW.out.put 5 (.bool true), (Left.refl _ _).setCell (Or.inl (by simp)) _⟩

/-- A piece of a chain. -/
structure Buf where
  addr : Int
  len : Int
  wr : Bool
def Buf.cells (b : Buf) : List Value := [.int .i64 b.addr, .int .i64 b.len, .bool b.wr]
def bufB (b : Buf) : Bool := decide (0 ≤ b.addr) && decide (b.addr ≤ 4294967296) && decide (1 ≤ b.len) && decide (b.len ≤ 65536)
def pieceB (b : Buf) (after : Bool) : Bool := bufB b && (b.wr || !after)

set_option maxHeartbeats 1000000 in
theorem piece_any (w : World) (b : Buf) (after : Bool) :
    Calls Try.prog 89 #[.agg #[.int .i64 b.addr, .int .i64 b.len, .bool b.wr], .bool after] w fun e w' => e = .returned (.bool (pieceB b after)) ∧ Below w.heap.size w w' := by
  obtain ⟨a, l, x⟩ := b
  by_cases h1 : 0 ≤ a
  · by_cases h2 : a ≤ 4294967296
    · by_cases h3 : 1 ≤ l
      · by_cases h4 : l ≤ 65536
        · have HP : Hid (pieceB ⟨a, l, x⟩ after = (x || !after)) := Lib.hid (by simp [pieceB, bufB, h1, h2, h3, h4])
          cases x
          · go_enter Try.func89, Try.ntmps89
            go_wp2
            go_ret
            exact ⟨by rw [HP.out]; rfl, (Below.refl _ _).alloc (Nat.le_refl _) _⟩
          · go_enter Try.func89, Try.ntmps89
            go_wp2
            go_ret
            exact ⟨by rw [HP.out]; rfl, (Below.refl _ _).alloc (Nat.le_refl _) _⟩
        · have HP : Hid (pieceB ⟨a, l, x⟩ after = false) := Lib.hid (by simp [pieceB, bufB, h4])
          have h4 : 65536 < l := by omega
          go_enter Try.func89, Try.ntmps89
          go_wp2
          go_ret
          exact ⟨by rw [HP.out]; rfl, (Below.refl _ _).alloc (Nat.le_refl _) _⟩
      · have HP : Hid (pieceB ⟨a, l, x⟩ after = false) := Lib.hid (by simp [pieceB, bufB, h3])
        have h3 : l < 1 := by omega
        go_enter Try.func89, Try.ntmps89
        go_wp2
        go_ret
        exact ⟨by rw [HP.out]; rfl, (Below.refl _ _).alloc (Nat.le_refl _) _⟩
    · have HP : Hid (pieceB ⟨a, l, x⟩ after = false) := Lib.hid (by simp [pieceB, bufB, h2])
      have h2 : 4294967296 < a := by omega
      go_enter Try.func89, Try.ntmps89
      go_wp2
      go_ret
      exact ⟨by rw [HP.out]; rfl, (Below.refl _ _).alloc (Nat.le_refl _) _⟩
  · have HP : Hid (pieceB ⟨a, l, x⟩ after = false) := Lib.hid (by simp [pieceB, bufB, h1])
    have h1 : a < 0 := by omega
    go_enter Try.func89, Try.ntmps89
    go_wp2
    go_ret
    exact ⟨by rw [HP.out]; rfl, (Below.refl _ _).alloc (Nat.le_refl _) _⟩
end Go.Proofs.Ytfffehbipcikoaa
