/- NicExact: whatever comes, and goes, each call answers what the page says. -/


import Derived.Test.YtfffehbipcikoaaNcArg
import Derived.Deep.CutBlock
import Derived.Outline
namespace Go.Proofs.Ytfffehbipcikoaa
open Go.RowKit Go.MapKept

theorem num3_any (n : Int) (w : World) : Calls Try.prog 53 #[.int .i64 n] w fun e w' => e = .returned (.int .i64 n) ∧ w = w' := by
  go_enter Try.func53, Try.ntmps53
  go_wp2
  go_ret
  exact ⟨rfl, rfl⟩
theorem zeros_rd (w : World) (n : Nat) (hn : n ≤ maxLen) : Rd (w.alloc (.cells (u8s (List.replicate n 0)).toArray 5)) (w.alloc (.cells (u8s (List.replicate n 0)).toArray 5)).heap.size 1 (.slice (some ⟨w.heap.size, 0, none⟩) n n) (List.replicate n (0 : UInt8)).length (u8s (List.replicate n 0)) := by
  have := Rd.of_whole (Whole.new w 5 (u8s (List.replicate n 0))) (by simpa using hn)
  simpa using this
theorem NicG.lt {w : World} {N lo hi drop : Nat} {rx tx : QS} {In Out : List (List UInt8)} (h : NicG w N rx tx lo hi In Out drop) {k : Nat} (hk : w.heap.size ≤ k) : k ∉ rx.all ∧ k ∉ tx.all := by
  have hh := h.hi_
  exact ⟨fun hm => by have := h.rng k (by simp [hm]); omega, fun hm => by have := h.rng k (by simp [hm]); omega⟩

set_option maxRecDepth 20000 in
set_option maxHeartbeats 2000000 in
theorem wakes3_any (w : World) : Calls Try.prog 61 #[] w fun e w' => e = .returned (.bool true) ∧ Below w.heap.size w w' := by
  obtain ⟨L14, hL14⟩ : ∃ L, L = u8s (List.replicate 14 0) := ⟨_, rfl⟩
  obtain ⟨L13, hL13⟩ : ∃ L, L = u8s (List.replicate 13 0) := ⟨_, rfl⟩
  have hmk1 : ∀ w : World, (Instr.makeSlice 39 (.int .i64 14) (.int .i64 14)).run Try.prog w = .ok (.slice (some ⟨w.heap.size, 0, none⟩) 14 14) (w.alloc (.cells L14.toArray 5)) := fun w => by
    rw [hL14, ← made_u8]
    exact run_make_row' (P := Try.prog) 39 5 (.int .u8 0) 1 Try.underlying39 info_u8 rfl .i64 .i64 14 (by omega) (by omega) w
  have hmk2 : ∀ w : World, (Instr.makeSlice 39 (.int .i64 13) (.int .i64 13)).run Try.prog w = .ok (.slice (some ⟨w.heap.size, 0, none⟩) 13 13) (w.alloc (.cells L13.toArray 5)) := fun w => by
    rw [hL13, ← made_u8]
    exact run_make_row' (P := Try.prog) 39 5 (.int .u8 0) 1 Try.underlying39 info_u8 rfl .i64 .i64 13 (by omega) (by omega) w
  have H14 := Lib.hid hL14
  have H13 := Lib.hid hL13
  clear hL14 hL13
  go_enter Try.func61, Try.ntmps61
  go_wp2_with fail
  refine (NNew_any w).mono ?_
  rintro e w1 ⟨N, rx, tx, hi, rfl, hG, hb1⟩
  have HG := Lib.hid hG
  have hz1 := hb1.size
  clear hG
  go_upto_region 4 with fail
  have hG2 := (HG.out.left0 ((Left.refl [] w1).alloc (.cells L14.toArray 5))).1
  have hrd : Rd (w1.alloc (.cells L14.toArray 5)) (w1.alloc (.cells L14.toArray 5)).heap.size 1 (.slice (some ⟨w1.heap.size, 0, none⟩) 14 14) (List.replicate 14 (0 : UInt8)).length (u8s (List.replicate 14 0)) := by
    rw [H14.out]
    exact zeros_rd w1 14 (by unfold maxLen; omega)
  have hrc := Receive_ok hG2 hrd (fun k hk => by simp only [Value.ownBlock] at hk; injection hk with hk; exact (HG.out.lt (Nat.le_of_eq hk)).1) rfl (by simp)
  have HRC := Lib.hid hrc
  clear hG2 hrd hrc
  go_wp2_with fail
  refine HRC.out.mono ?_
  rintro e w2 ⟨rfl, hG2, hl2, _⟩
  have HG2 := Lib.hid hG2
  have HB2 := Lib.hid ((hb1.alloc (B := w.heap.size) hz1 (.cells L14.toArray 5)).trans (hl2.belowB (B := w.heap.size) (by simp; omega) (fun k hk => (HG.out.rng k (by rcases List.mem_cons.1 hk with rfl | hk; simp; simp [hk])).1)))
  clear hG2 hl2
  go_wp2_with fail
  refine (Poll_some HG2.out).mono ?_
  rintro e w3 ⟨v, rfl, hown, hG3, hl3, _⟩
  obtain ⟨ao, cap, rfl, _, _⟩ := (Rd.of_own hown).form
  have HG3 := Lib.hid hG3
  have HB3 := Lib.hid (HB2.out.trans (hl3.belowB (B := w.heap.size) HB2.out.size (fun k hk => (HG.out.rng k (by rcases List.mem_cons.1 hk with rfl | hk; simp; simp [hk])).1)))
  clear hG3 hl3 hown
  have hz3 := HB3.out.size
  have hG4 := (HG3.out.left0 ((Left.refl [] w3).alloc (.cells L13.toArray 5))).1
  have hrn := Receive_no hG4 (some ⟨w3.heap.size, 0, none⟩) 13 13 (.inl rfl) (by omega)
  have HRN := Lib.hid hrn
  clear hG4 hrn
  go_wp2_with (first | (go_at_call 58; refine HRN.out.mono ?_; rintro e w4 ⟨rfl, hG4, hl4, _⟩) | (go_at_call 60; refine (Dropped_any hG4).mono ?_; rintro e w' ⟨rfl, rfl⟩))
  go_ret
  exact ⟨rfl, (HB3.out.alloc (B := w.heap.size) hz3 (.cells L13.toArray 5)).trans (hl4.belowB (B := w.heap.size) (by simp; omega) (fun k hk => (HG.out.rng k (by rcases List.mem_cons.1 hk with rfl | hk; simp; simp [hk])).1))⟩

section
variable {w w' : World} {N lo hi drop base P : Nat} {rx tx : QS} {In Out In' Out' : List (List UInt8)} {D : List Nat} {iv ov : Value}
theorem NicG.own_rx (h : NicG w N rx tx lo hi In Out drop) (hP : hi ≤ P) (hb : P < base) : ∀ k ∈ N :: rx.all, k ≠ P ∧ k < base ∧ lo ≤ k ∧ k < hi := fun k hk => by
  have := h.rng k (by rcases List.mem_cons.1 hk with rfl | hk; simp; simp [hk])
  omega
theorem NicG.own_tx (h : NicG w N rx tx lo hi In Out drop) (hP : hi ≤ P) (hb : P < base) : ∀ k ∈ N :: tx.all, k ≠ P ∧ k < base ∧ lo ≤ k ∧ k < hi := fun k hk => by
  have := h.rng k (by rcases List.mem_cons.1 hk with rfl | hk; simp; simp [hk])
  omega
theorem spoil_nic {v : Value} {n B : Nat} {xs : List Value} (h : NicG w N rx tx lo hi In Out drop) (ho : w.ownsRow B 5 1 v n xs) (hB : hi ≤ B) (hl : Left (Value.ownL v) w w') : NicG w' N rx tx lo hi In Out drop :=
  (h.left hl (fun k hk => ⟨.inr (by have := (ho.lt k (mem_ownL.1 hk)).1; omega), h.no_ty (own_ty ho (mem_ownL.1 hk)) (by decide)⟩)).1
theorem spoil_page {v : Value} {n B : Nat} {xs : List Value} (h : PageAt w base P D iv ov In Out drop) (ho : w.ownsRow B 5 1 v n xs) (hB : base ≤ B) (hD : ∀ k ∈ D, k ∉ Value.ownL v) (hl : Left (Value.ownL v) w w') : PageAt w' base P D iv ov In Out drop :=
  h.left hl (fun k hk => ⟨by have := (ho.lt k (mem_ownL.1 hk)).1; have := h.plt; omega, .inr ⟨fun hm => hD k hm hk, fun ht => ((own_ty ho (mem_ownL.1 hk)).ne ht (by decide)) rfl⟩⟩)
theorem pstep_nic {drop' : Nat} (h : NicG w N rx tx lo hi In Out drop) (hp : PageAt w base P D iv ov In' Out' drop') (hs : PStep w w' base P) (hP : hi ≤ P) : NicG w' N rx tx lo hi In Out drop := by
  obtain ⟨S, hl, hS⟩ := hs
  have hb := hp.plt
  exact (h.left hl (fun k hk => by
    rcases hS k hk with rfl | ⟨a, b⟩
    · exact ⟨.inr hP, h.no_ty hp.head.ty (by decide)⟩
    · exact ⟨.inr (by omega), h.no_ty b (by decide)⟩)).1
theorem pstep_own {v : Value} {n B : Nat} {xs : List Value} (ho : w.ownsRow B 5 1 v n xs) (hs : PStep w w' base P) (hB : base ≤ B) (hb : P < base) : w'.ownsRow B 5 1 v n xs := by
  obtain ⟨S, hl, hS⟩ := hs
  refine own_leftB ho hl (fun k hk e => ?_)
  rcases hS k hk with rfl | ⟨a, b⟩
  · have := (ho.lt k e).1; omega
  · exact ((own_ty ho e).ne b (by decide)) rfl
theorem pstep_below {w0 : World} (hs : PStep w w' base P) (hb : Below w0.heap.size w0 w) (h1 : w0.heap.size ≤ P) (h2 : w0.heap.size ≤ base) : Below w0.heap.size w0 w' := by
  obtain ⟨S, hl, hS⟩ := hs
  exact hb.trans (hl.belowB hb.size (fun k hk => by rcases hS k hk with rfl | ⟨a, b⟩ <;> omega))
theorem pstep_one (hl : Left [P] w w') : PStep w w' base P := ⟨[P], hl, fun k hk => by simp only [List.mem_singleton] at hk; exact .inl hk⟩
theorem RxG.count {z : QS} {F : List (List UInt8)} (h : RxG w z F) : F.length ≤ 16 := by
  obtain ⟨_, _, _, W, O, _, h2, rfl⟩ := h
  simp
  omega
end
/-- Both cards hold the same frames. -/
def NJ (w0 w : World) (N : Nat) (rx tx : QS) (hi base P : Nat) (In Out : List (List UInt8)) (drop : Nat) : Prop :=
  ∃ D iv ov, NicG w N rx tx w0.heap.size hi In Out drop ∧ PageAt w base P D iv ov In Out drop ∧ Below w0.heap.size w0 w
end Go.Proofs.Ytfffehbipcikoaa
