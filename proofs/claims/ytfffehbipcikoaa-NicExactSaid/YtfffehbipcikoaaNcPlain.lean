/- Plain law: slots of 2048 bytes in banks of 65536. -/

import Derived.Test.YtfffehbipcikoaaMem2
namespace Go.Proofs.Ytfffehbipcikoaa

def slotR (Bk : Nat → List UInt8) (k n : Nat) : List UInt8 := ((Bk (k / 32)).drop (k % 32 * 2048)).take n
def slotW (Bk : Nat → List UInt8) (k : Nat) (L : List UInt8) : Nat → List UInt8 := fun i => if i = k / 32 then writeB (Bk i) ((k % 32 * 2048 : Nat) : Int) L else Bk i
section
variable {Bk : Nat → List UInt8} {k j n : Nat} {L : List UInt8}
theorem slotW_at : slotW Bk k L (k / 32) = writeB (Bk (k / 32)) ((k % 32 * 2048 : Nat) : Int) L := if_pos rfl
theorem slotW_ne {i : Nat} (h : i ≠ k / 32) : slotW Bk k L i = Bk i := if_neg h
theorem slotW_length {i : Nat} : (slotW Bk k L i).length = (Bk i).length := by
  unfold slotW
  split
  · exact writeB_length _ _ _
  · rfl
theorem writeB_in {B : List UInt8} {p : Nat} (h : p + L.length ≤ B.length) : writeB B (p : Int) L = B.take p ++ L ++ B.drop (p + L.length) := by
  unfold writeB
  rw [if_pos (hasB_ok (by omega) (by omega)), Int.toNat_natCast]
theorem slot_same (hB : (Bk (k / 32)).length = 65536) (hL : L.length ≤ 2048) : slotR (slotW Bk k L) k L.length = L := by
  unfold slotR
  have hp : k % 32 * 2048 + L.length ≤ (Bk (k / 32)).length := by rw [hB]; omega
  rw [slotW_at, writeB_in hp, List.append_assoc]
  generalize k % 32 * 2048 = p at hp ⊢
  have ht : (List.take p (Bk (k / 32))).length = p := by rw [List.length_take]; omega
  rw [List.drop_append_of_le_length (Nat.le_of_eq ht.symm)]
  rw [List.drop_eq_nil_of_le (Nat.le_of_eq ht), List.nil_append]
  rw [List.take_append_of_le_length (Nat.le_refl _), List.take_length]
theorem writeB_out {B : List UInt8} {p i : Nat} (h : p + L.length ≤ B.length) (hi : i < p ∨ p + L.length ≤ i) : (writeB B (p : Int) L)[i]? = B[i]? := by
  rw [writeB_in h]
  rcases hi with hi | hi
  · rw [List.append_assoc, List.getElem?_append_left (by rw [List.length_take]; omega), List.getElem?_take, if_pos hi]
  · rw [List.getElem?_append_right (by rw [List.length_append, List.length_take]; omega), List.length_append, List.length_take, List.getElem?_drop]
    congr 1
    omega
theorem slot_other (hB : (Bk (k / 32)).length = 65536) (hL : L.length ≤ 2048) (hn : n ≤ 2048) (hne : j ≠ k) : slotR (slotW Bk k L) j n = slotR Bk j n := by
  unfold slotR
  by_cases he : j / 32 = k / 32
  · rw [he, slotW_at]
    apply List.ext_getElem?
    intro i
    rw [List.getElem?_take, List.getElem?_take]
    split
    · rw [List.getElem?_drop, List.getElem?_drop]
      exact writeB_out (by omega) (by omega)
    · rfl
  · rw [slotW_ne he]
theorem slotR_length (hB : (Bk (k / 32)).length = 65536) (hn : n ≤ 2048) : (slotR Bk k n).length = n := by
  unfold slotR
  rw [List.length_take, List.length_drop, hB]
  omega
theorem slot_read (hB : (Bk (k / 32)).length = 65536) (hn : n ≤ 2048) : readE (Bk (k / 32)).length ((k % 32 * 2048 : Nat) : Int) n = 0 ∧ readB (Bk (k / 32)) ((k % 32 * 2048 : Nat) : Int) n = slotR Bk k n := by
  have h0 : readE (Bk (k / 32)).length ((k % 32 * 2048 : Nat) : Int) n = 0 := by
    unfold readE
    rw [if_neg (by omega), if_pos (hasB_ok (by omega) (by omega))]
  refine ⟨h0, ?_⟩
  unfold readB slotR
  rw [if_pos h0, Int.toNat_natCast, Int.toNat_natCast]
end
end Go.Proofs.Ytfffehbipcikoaa
