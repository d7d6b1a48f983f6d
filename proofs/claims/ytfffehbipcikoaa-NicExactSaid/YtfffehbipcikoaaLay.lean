/- The contracts of ring.layout, ring.Layout, kioskref1.Layout, kiosklaw2.num, kiosklaw2.wakes: each answers by its plain formula, and changes nothing that was there. -/

import Derived.Test.YtfffehbipcikoaaKit
namespace Go.Proofs.Ytfffehbipcikoaa
open Go.RowKit

def isQ (q : Int) : Bool := q == 1 || q == 2 || q == 4 || q == 8 || q == 16 || q == 32 || q == 64
def usedAt (q : Int) : Int := (18 * q + 7) / 4 * 4

theorem isQ_bits (q : Int) (h1 : 1 ≤ q) (h2 : q ≤ 64) : (bits BinOp.and IntKind.i64 q (q - 1) != 0) = !isQ q := by
  have H : ∀ n : Fin 65, 1 ≤ n.val → (bits BinOp.and IntKind.i64 (n.val : Int) ((n.val : Int) - 1) != 0) = !isQ (n.val : Int) := by decide +kernel
  have := H ⟨q.toNat, by omega⟩ (by simp; omega)
  simpa [Int.toNat_of_nonneg (show 0 ≤ q by omega)] using this

theorem isQ_range {q : Int} (h : isQ q = true) : q = 1 ∨ q = 2 ∨ q = 4 ∨ q = 8 ∨ q = 16 ∨ q = 32 ∨ q = 64 := by
  simp [isQ] at h; omega
theorem isQ_not {q : Int} (h : isQ q = false) : q ≠ 1 ∧ q ≠ 2 ∧ q ≠ 4 ∧ q ≠ 8 ∧ q ≠ 16 ∧ q ≠ 32 ∧ q ≠ 64 := by
  simp [isQ] at h; omega

set_option maxHeartbeats 400000 in
theorem layout_no (q : Int) (w : World) (h : isQ q = false) :
    Calls Try.prog 62 #[.int .i64 q] w fun e w' => e = .returned (.tuple #[.agg #[.int .i64 0, .int .i64 0, .int .i64 0, .int .i64 0], .bool false]) ∧ Below w.heap.size w w' := by
  by_cases h1 : q < 1
  · clear h
    go_enter Try.func62, Try.ntmps62
    go_wp2
    exact bodyPost_ret (v := .tuple #[.agg #[.int .i64 0, .int .i64 0, .int .i64 0, .int .i64 0], .bool false]) (by simp [results, Try.results62, go_sem]) rfl ⟨rfl, (Below.refl _ _).alloc (Nat.le_refl _) _⟩
  · by_cases h2 : 64 < q
    · clear h
      have h1 : 1 ≤ q := by omega
      go_enter Try.func62, Try.ntmps62
      go_wp2
      exact bodyPost_ret (v := .tuple #[.agg #[.int .i64 0, .int .i64 0, .int .i64 0, .int .i64 0], .bool false]) (by simp [results, Try.results62, go_sem]) rfl ⟨rfl, (Below.refl _ _).alloc (Nat.le_refl _) _⟩
    · have h1 : 1 ≤ q := by omega
      have h2 : q ≤ 64 := by omega
      have hb : (bits BinOp.and IntKind.i64 q (q - 1) != 0) = true := by rw [isQ_bits q h1 h2, h]; rfl
      clear h
      go_enter Try.func62, Try.ntmps62
      go_wp2
      exact bodyPost_ret (v := .tuple #[.agg #[.int .i64 0, .int .i64 0, .int .i64 0, .int .i64 0], .bool false]) (by simp [results, Try.results62, go_sem]) rfl ⟨rfl, (Below.refl _ _).alloc (Nat.le_refl _) _⟩

theorem used_eq (q : Int) : (16 * q + 4 + 2 * q + 3) / 4 * 4 = usedAt q := by
  unfold usedAt; rw [show 16 * q + 4 + 2 * q + 3 = 18 * q + 7 by omega]

set_option maxHeartbeats 400000 in
theorem layout_yes (q : Int) (w : World) (h : isQ q = true) :
    Calls Try.prog 62 #[.int .i64 q] w fun e w' => e = .returned (.tuple #[.agg #[.int .i64 q, .int .i64 (16 * q), .int .i64 (usedAt q), .int .i64 (usedAt q + 4 + 8 * q)], .bool true]) ∧ Below w.heap.size w w' := by
  have hr := isQ_range h
  have h1 : 1 ≤ q := by omega
  have h2 : q ≤ 64 := by omega
  have hb : (bits BinOp.and IntKind.i64 q (q - 1) != 0) = false := by rw [isQ_bits q h1 h2, h]; rfl
  clear hr h
  go_enter Try.func62, Try.ntmps62
  go_wp2
  rw [used_eq]
  exact bodyPost_ret (v := .tuple #[.agg #[.int .i64 q, .int .i64 (16 * q), .int .i64 (usedAt q), .int .i64 (usedAt q + 4 + 8 * q)], .bool true]) (by simp [results, Try.results62, go_sem]) rfl ⟨rfl, (Below.refl _ _).alloc (Nat.le_refl _) _⟩

set_option maxHeartbeats 400000 in
theorem Layout_no (q : Int) (w : World) (h : isQ q = false) :
    Calls Try.prog 14 #[.int .i64 q] w fun e w' => e = .returned (.tuple #[.int .i64 0, .int .i64 0, .int .i64 0, .int .i64 1]) ∧ Below w.heap.size w w' := by
  have H := Lib.hid h
  clear h
  go_enter Try.func14, Try.ntmps14
  go_wp2_with fail
  refine (layout_no _ _ H.out).mono ?_
  rintro e w1 ⟨rfl, hb⟩
  have hz := hb.size
  go_wp2
  exact bodyPost_ret (v := .tuple #[.int .i64 0, .int .i64 0, .int .i64 0, .int .i64 1]) (by simp [results, Try.results14, go_sem]) rfl ⟨rfl, hb.alloc hz _⟩

set_option maxHeartbeats 400000 in
theorem Layout_yes (q : Int) (w : World) (h : isQ q = true) :
    Calls Try.prog 14 #[.int .i64 q] w fun e w' => e = .returned (.tuple #[.int .i64 (16 * q), .int .i64 (usedAt q), .int .i64 (usedAt q + 4 + 8 * q), .int .i64 0]) ∧ Below w.heap.size w w' := by
  have H := Lib.hid h
  clear h
  go_enter Try.func14, Try.ntmps14
  go_wp2_with fail
  refine (layout_yes _ _ H.out).mono ?_
  rintro e w1 ⟨rfl, hb⟩
  have hz := hb.size
  go_wp2
  go_quiet (fail)
  go_wp2
  exact bodyPost_ret (v := .tuple #[.int .i64 (16 * q), .int .i64 (usedAt q), .int .i64 (usedAt q + 4 + 8 * q), .int .i64 0]) (by simp [results, Try.results14, go_sem]) rfl ⟨rfl, below_drewN (hb.alloc hz _) _⟩

set_option maxHeartbeats 400000 in
theorem rLayout_no (q : Int) (w : World) (h : isQ q = false) :
    Calls Try.prog 15 #[.int .i64 q] w fun e w' => e = .returned (.tuple #[.int .i64 0, .int .i64 0, .int .i64 0, .bool false]) ∧ w = w' := by
  have hn := isQ_not h
  clear h
  obtain ⟨a1, a2, a3, a4, a5, a6, a7⟩ := hn
  have c1 : (q != 1) = true := by simpa using a1
  have c2 : (q != 2) = true := by simpa using a2
  have c3 : (q != 4) = true := by simpa using a3
  have c4 : (q != 8) = true := by simpa using a4
  have c5 : (q != 16) = true := by simpa using a5
  have c6 : (q != 32) = true := by simpa using a6
  have c7 : (q != 64) = true := by simpa using a7
  clear a1 a2 a3 a4 a5 a6 a7
  go_enter Try.func15, Try.ntmps15
  go_wp2
  exact bodyPost_ret (v := .tuple #[.int .i64 0, .int .i64 0, .int .i64 0, .bool false]) (by simp [results, Try.results15, go_sem]) rfl ⟨rfl, rfl⟩

set_option maxHeartbeats 1000000 in
theorem rLayout_yes (q : Int) (w : World) (h : isQ q = true) :
    Calls Try.prog 15 #[.int .i64 q] w fun e w' => e = .returned (.tuple #[.int .i64 (16 * q), .int .i64 (usedAt q), .int .i64 (usedAt q + 4 + 8 * q), .bool true]) ∧ w = w' := by
  have hr := isQ_range h
  clear h
  rcases hr with rfl | rfl | rfl | rfl | rfl | rfl | rfl
  all_goals
    go_enter Try.func15, Try.ntmps15
    go_wp2
    ((try simp only [Exit.inBlock, Exit.then]); refine bodyPost_ret (results_tmp4 rfl _ _ _) rfl ?_)
    exact ⟨by simp [usedAt], rfl⟩

set_option maxHeartbeats 400000 in
theorem wakes_any (w : World) : Calls Try.prog 17 #[] w fun e w' => e = .returned (.bool true) ∧ Below w.heap.size w w' := by
  go_enter Try.func17, Try.ntmps17
  go_wp2_with fail
  have u4 : usedAt 4 = 76 := by decide
  refine (Layout_yes 4 _ rfl).mono ?_
  rintro e w1 ⟨rfl, hb⟩
  go_wp2
  go_ret
  exact ⟨rfl, hb⟩
end Go.Proofs.Ytfffehbipcikoaa
