/- Plain laws: numbers in bytes, the lowest first. -/
import Derived.Laws.BitsAllLaws
import Derived.Laws.Bits64
import Derived.Laws.Bits
namespace Go.Proofs.Ytcgdlmlolmfinaa

/-- Bytes as a number, the lowest first. -/
def le : List UInt8 → Nat
  | [] => 0
  | b :: r => b.toNat + 256 * le r

theorem le_lt (L : List UInt8) : le L < 256 ^ L.length := by
  induction L with
  | nil => simp [le]
  | cons b r ih =>
    have := b.toNat_lt
    simp only [le, List.length_cons, Nat.pow_succ]
    omega

theorem le_snoc (L : List UInt8) (b : UInt8) : le (L ++ [b]) = le L + 256 ^ L.length * b.toNat := by
  induction L with
  | nil => simp [le]
  | cons c r ih =>
    simp only [List.cons_append, le, ih, List.length_cons, Nat.pow_succ]
    rw [Nat.mul_add, Nat.mul_comm (256 ^ r.length) 256, Nat.mul_assoc]
    omega

theorem le_take_succ (L : List UInt8) (k : Nat) (h : k < L.length) : le (L.take (k + 1)) = le (L.take k) + 256 ^ k * (L.getD k 0).toNat := by
  rw [List.take_succ_eq_append_getElem h, le_snoc, List.length_take, Nat.min_eq_left (by omega), List.getD_eq_getElem?_getD, List.getElem?_eq_getElem h]
  rfl

theorem le_take_lt (L : List UInt8) (k : Nat) : le (L.take k) < 256 ^ k := by
  refine Nat.lt_of_lt_of_le (le_lt _) (Nat.pow_le_pow_right (by omega) (List.length_take_le _ _))

theorem pow256 (k : Nat) : 256 ^ k = 2 ^ (8 * k) := by rw [Nat.pow_mul]

theorem pow_le8 {k : Nat} (h : k < 8) : 256 ^ k * 256 ≤ 18446744073709551616 := by
  have : 256 ^ k ≤ 256 ^ 7 := Nat.pow_le_pow_right (by omega) (by omega)
  have h7 : (256 : Nat) ^ 7 = 72057594037927936 := by decide
  omega

theorem or_low {x y i : Nat} (h : x < 2 ^ i) : x ||| y * 2 ^ i = x + 2 ^ i * y := by
  rw [Nat.or_comm, Nat.mul_comm y, ← Nat.two_pow_add_eq_or_of_lt h]
  omega

/-- The program's step of Get. -/
theorem or_step (x : Nat) (b : UInt8) (k : Nat) (hk : k < 8) (hx : x < 256 ^ k) :
    bits BinOp.or IntKind.u64 (x : Int) (IntKind.u64.wrap (IntKind.u64.wrap (b.toNat : Int) * 2 ^ (8 * k))) = ((x + 256 ^ k * b.toNat : Nat) : Int) := by
  have hb := b.toNat_lt
  have h8 := pow_le8 hk
  have hm : 256 ^ k * b.toNat ≤ 256 ^ k * 255 := Nat.mul_le_mul_left _ (by omega)
  have hp : (2 : Int) ^ (8 * k) = ((256 ^ k : Nat) : Int) := by rw [pow256]; norm_cast
  have e1 : IntKind.u64.wrap (b.toNat : Int) = b.toNat := by rw [IntKind.wrap_u64]; omega
  have e2 : IntKind.u64.wrap ((b.toNat : Int) * 2 ^ (8 * k)) = ((b.toNat * 256 ^ k : Nat) : Int) := by
    have : b.toNat * 256 ^ k < 18446744073709551616 := by rw [Nat.mul_comm]; omega
    rw [hp, ← Int.natCast_mul]
    generalize b.toNat * 256 ^ k = z at this ⊢
    rw [IntKind.wrap_u64]
    omega
  rw [e1, e2, u64_or_nat _ _ (by omega) (by rw [Nat.mul_comm]; omega)]
  congr 1
  rw [pow256] at hx ⊢
  rw [or_low hx]

/-- The page's step of Get. -/
theorem or_step_up (x : Nat) (b : UInt8) (hx : x < 256 ^ 7) :
    bits BinOp.or IntKind.u64 (IntKind.u64.wrap ((x : Int) * 2 ^ 8)) (IntKind.u64.wrap (b.toNat : Int)) = ((b.toNat + 256 * x : Nat) : Int) := by
  have hb := b.toNat_lt
  have h7 : (256 : Nat) ^ 7 = 72057594037927936 := by decide
  rw [h7] at hx
  have e1 : IntKind.u64.wrap (b.toNat : Int) = b.toNat := by rw [IntKind.wrap_u64]; omega
  have e2 : IntKind.u64.wrap ((x : Int) * 2 ^ 8) = ((x * 256 : Nat) : Int) := by rw [IntKind.wrap_u64]; omega
  rw [e1, e2, u64_or_nat _ _ (by omega) (by omega)]
  congr 1
  have := or_low (x := b.toNat) (y := x) (i := 8) (by omega)
  rw [Nat.or_comm, show x * 256 = x * 2 ^ 8 from rfl, this]

theorem or_step_up' (x : Nat) (b : UInt8) (hx : x < 256 ^ 7) :
    bits BinOp.or IntKind.u64 (IntKind.u64.wrap ((x : Int) * 256)) (IntKind.u64.wrap (b.toNat : Int)) = ((b.toNat + 256 * x : Nat) : Int) := or_step_up x b hx

/-- A number laid at p, the lowest byte first: its first k bytes. -/
def putB (B : List UInt8) (p v : Nat) : Nat → List UInt8
  | 0 => B
  | k + 1 => (putB B p v k).set (p + k) (UInt8.ofNat (v / 256 ^ k))
theorem putB_length (B : List UInt8) (p v k : Nat) : (putB B p v k).length = B.length := by
  induction k with
  | zero => rfl
  | succ k ih => simp [putB, ih]
theorem putB_at (B : List UInt8) (p v k i : Nat) (h : p + k ≤ B.length) :
    (putB B p v k)[i]? = if p ≤ i ∧ i < p + k then some (UInt8.ofNat (v / 256 ^ (i - p))) else B[i]? := by
  induction k with
  | zero => rw [if_neg (by omega)]; rfl
  | succ k ih =>
    have hl := putB_length B p v k
    rw [putB, List.getElem?_set]
    by_cases h1 : p + k = i
    · subst h1
      rw [if_pos rfl, if_pos (by omega), if_pos ⟨by omega, by omega⟩, Nat.add_sub_cancel_left]
    · rw [if_neg h1, ih (by omega)]
      by_cases h2 : p ≤ i ∧ i < p + k
      · rw [if_pos h2, if_pos ⟨h2.1, by omega⟩]
      · rw [if_neg h2, if_neg (by omega)]
theorem byte_of (v k : Nat) : IntKind.u8.wrap ((v : Int) / 2 ^ (8 * k)) = ((UInt8.ofNat (v / 256 ^ k)).toNat : Int) := by
  rw [IntKind.wrap_u8]
  have hp : (2 : Int) ^ (8 * k) = ((256 ^ k : Nat) : Int) := by rw [pow256]; norm_cast
  rw [hp]
  simp
theorem byte_of' (v k : Nat) : (v : Int) / 2 ^ (8 * k) % 256 = ((UInt8.ofNat (v / 256 ^ k)).toNat : Int) := by rw [← byte_of, IntKind.wrap_u8]
theorem byte_of2 (v k : Nat) : (v : Int) / 256 ^ k % 256 = ((UInt8.ofNat (v / 256 ^ k)).toNat : Int) := by rw [← byte_of', Int.pow_mul]; rfl

theorem le_digits (v k : Nat) : le ((List.range k).map fun i => UInt8.ofNat (v / 256 ^ i)) = v % 256 ^ k := by
  induction k with
  | zero => simp [le, Nat.mod_one]
  | succ k ih =>
    rw [List.range_succ, List.map_append, List.map_singleton, le_snoc, ih, List.length_map, List.length_range, Nat.pow_succ, Nat.mod_mul]
    simp
theorem putB_cut (B : List UInt8) (p v n : Nat) (h : p + n ≤ B.length) : ((putB B p v n).drop p).take n = (List.range n).map fun i => UInt8.ofNat (v / 256 ^ i) := by
  apply List.ext_getElem?
  intro i
  rw [List.getElem?_take]
  by_cases hi : i < n
  · rw [if_pos hi, List.getElem?_drop, putB_at B p v n (p + i) h, if_pos ⟨by omega, by omega⟩, Nat.add_sub_cancel_left]
    simp [hi]
  · rw [if_neg hi, List.getElem?_eq_none (by simp; omega)]
theorem and_mask (v m : Nat) (hv : v < 18446744073709551616) (hm : m ≤ 64) : bits BinOp.and IntKind.u64 (v : Int) ((2 ^ m - 1 : Nat) : Int) = ((v % 2 ^ m : Nat) : Int) := by
  have h2 : 2 ^ m ≤ 2 ^ 64 := Nat.pow_le_pow_right (by omega) hm
  have h64 : (2 : Nat) ^ 64 = 18446744073709551616 := by decide
  rw [u64_and_nat _ _ hv (by have := Nat.two_pow_pos m; omega), Nat.and_two_pow_sub_one_eq_mod]
end Go.Proofs.Ytcgdlmlolmfinaa
