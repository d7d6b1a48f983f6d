/- The page's ring: Push. -/


import Derived.Test.YtfffehbipcikoaaRgRef6
namespace Go.Proofs.Ytfffehbipcikoaa
open Go.RowKit

def numB (n m : Int) : Bool := decide (0 ≤ n ∧ n ≤ m)
theorem numB_1 {n m : Int} (h : n < 0) : numB n m = false := by unfold numB; simp; omega
theorem numB_2 {n m : Int} (h : m < n) : numB n m = false := by unfold numB; simp; omega
theorem numB_3 {n m : Int} (h1 : 0 ≤ n) (h2 : n ≤ m) : numB n m = true := by unfold numB; simp; omega
theorem Num_any (w : World) (n m : Int) :
    Calls Try.prog 26 #[.int .i64 n, .int .i64 m] w fun e w' => e = .returned (.bool (numB n m)) ∧ w = w' := by
  by_cases h1 : 0 ≤ n
  · by_cases h2 : n ≤ m
    · have H := Lib.hid (numB_3 h1 h2)
      go_enter Try.func26, Try.ntmps26
      go_wp2
      go_ret
      exact ⟨by rw [H.out]; rfl, rfl⟩
    · have H := Lib.hid (numB_2 (n := n) (m := m) (by omega))
      go_enter Try.func26, Try.ntmps26
      go_wp2
      go_ret
      exact ⟨by rw [H.out]; rfl, rfl⟩
  · have H := Lib.hid (numB_1 (n := n) (m := m) (by omega))
    go_enter Try.func26, Try.ntmps26
    go_wp2
    go_ret
    exact ⟨by rw [H.out]; rfl, rfl⟩
theorem Word_any (w : World) (n : Int) :
    Calls Try.prog 94 #[.int .i64 n] w fun e w' => e = .returned (.bool (numB n 4294967295)) ∧ w = w' := by
  go_enter Try.func94, Try.ntmps94
  go_wp2_with fail
  refine (Num_any _ _ _).mono ?_
  rintro e w' ⟨rfl, rfl⟩
  go_wp2
  go_ret
  exact ⟨rfl, rfl⟩

set_option maxHeartbeats 1000000 in
theorem rPush_broken (w : World) (R bt bc bw m q : Nat) (added last : Nat) (tk : List Bool) (ch : List (List Nat)) (ws : List Int) (F : List Nat) (head n : Int) (h : RefAt w R bt bc bw m q true added last tk ch ws F) :
    Calls Try.prog 79 #[.pointer (some ⟨R, 0, none⟩), .int .i64 head, .int .i64 n] w fun e w' => e = .returned (.int .i64 6) ∧ w' = w := by
  have c9 : w.cell? ⟨R, 9, none⟩ = some (.bool true) := by rw [h.head.cell]; rfl
  clear h
  go_enter Try.func79, Try.ntmps79
  go_wp2
  go_ret
  exact ⟨rfl, rfl⟩
set_option maxHeartbeats 1000000 in
theorem rPush_form (w : World) (R bt bc bw m q : Nat) (added last : Nat) (tk : List Bool) (ch : List (List Nat)) (ws : List Int) (F : List Nat) (head n : Int) (h : RefAt w R bt bc bw m q false added last tk ch ws F) (hq : 1 ≤ q ∧ q ≤ 64) (hx : head < 0 ∨ (q : Int) ≤ head ∨ n < 0 ∨ 4294967295 < n) :
    Calls Try.prog 79 #[.pointer (some ⟨R, 0, none⟩), .int .i64 head, .int .i64 n] w fun e w' => e = .returned (.int .i64 1) ∧ w' = w := by
  have c9 : w.cell? ⟨R, 9, none⟩ = some (.bool false) := by rw [h.head.cell]; rfl
  have c1 : w.cell? ⟨R, 1, none⟩ = some (.int .i64 q) := by rw [h.head.cell]; rfl
  clear h
  cases hb : numB head ((q : Int) - 1)
  · have H : Hid (Calls Try.prog 26 #[.int .i64 head, .int .i64 ((q : Int) - 1)] w fun e w' => e = .returned (.bool false) ∧ w = w') := Lib.hid ((Num_any _ _ _).mono fun e w' ⟨h1, h2⟩ => ⟨by rw [h1, hb], h2⟩)
    clear hb hx
    go_enter Try.func79, Try.ntmps79
    go_wp2_with fail
    refine H.out.mono ?_
    rintro e w' ⟨rfl, rfl⟩
    go_wp2
    go_ret
    exact ⟨rfl, rfl⟩
  · have hb2 : numB n 4294967295 = false := by
      unfold numB at hb ⊢
      simp at hb ⊢
      omega
    have H : Hid (Calls Try.prog 26 #[.int .i64 head, .int .i64 ((q : Int) - 1)] w fun e w' => e = .returned (.bool true) ∧ w = w') := Lib.hid ((Num_any _ _ _).mono fun e w' ⟨h1, h2⟩ => ⟨by rw [h1, hb], h2⟩)
    have H2 : Hid (Calls Try.prog 94 #[.int .i64 n] w fun e w' => e = .returned (.bool false) ∧ w = w') := Lib.hid ((Word_any _ _).mono fun e w' ⟨h1, h2⟩ => ⟨by rw [h1, hb2], h2⟩)
    clear hb hb2 hx
    go_enter Try.func79, Try.ntmps79
    go_wp2_with fail
    refine H.out.mono ?_
    rintro e w' ⟨rfl, rfl⟩
    go_wp2_with fail
    refine H2.out.mono ?_
    rintro e w' ⟨rfl, rfl⟩
    go_wp2
    go_ret
    exact ⟨rfl, rfl⟩

theorem rputN {w : World} {m d : Nat} {B : List UInt8} (hM : MemAt 52 w m d B) (hB : B.length ≤ 65536) (p n : Int) (v : Nat) :
    Calls Try.prog 27 #[.pointer (some ⟨m, 0, none⟩), .int .i64 p, .int .i64 n, .int .u64 v] w fun e w' => (∃ x, e = .returned (.int .i64 x)) ∧ MemAt 52 w' m d (putV B p n v) ∧ Left [d] w w' :=
  (rPut_any w m d B p n v hM hB).mono fun e w' ⟨h1, h2, h3⟩ => ⟨⟨_, h1⟩, h2, h3⟩

set_option maxRecDepth 20000 in
set_option maxHeartbeats 2000000 in
theorem rPush_ok (w : World) (R bt bc bw m d q : Nat) (added last : Nat) (tk : List Bool) (ch : List (List Nat)) (ws : List Int) (F : List Nat) (B : List UInt8) (head n : Nat) (h : RefAt w R bt bc bw m q false added last tk ch ws F) (hM : MemAt 52 w m d B) (hB : B.length ≤ 65536) (hr : added ≤ 65535) (hq : 1 ≤ q ∧ q ≤ 64) (hh : head < q) (hn : n ≤ 4294967295) (hdF : d ∉ F) :
    Calls Try.prog 79 #[.pointer (some ⟨R, 0, none⟩), .int .i64 head, .int .i64 n] w fun e w' => e = .returned (.int .i64 0) ∧ RefAt w' R bt bc bw m q false ((added + 1) % 65536) last tk ch ws F ∧ MemAt 52 w' m d (pushB B q added head n) ∧ Left [R, d] w w' := by
  obtain ⟨rr, hrr⟩ : ∃ rr : Nat, added % q = rr := ⟨_, rfl⟩
  have hrr2 : rr ≤ 63 := by have := Nat.mod_lt added hq.1; omega
  have htm : ((added : Int)).tmod (q : Int) = (rr : Int) := by rw [← hrr]; rfl
  have hq0 : ¬ q = 0 := by omega
  obtain ⟨u, hu⟩ : ∃ u, usedAt (q : Nat) = u := ⟨_, rfl⟩
  have hu1 : 0 ≤ u ∧ u ≤ 2000 := by rw [← hu]; unfold usedAt; omega
  have HPB := Lib.hid (show pushB B q added head n = putV (putV (putV B (u + 4 + 8 * (rr : Int)) 4 head) (u + 4 + 8 * (rr : Int) + 4) 4 n) (u + 2) 2 ((added + 1) % 65536) by
    unfold pushB usedPos
    rw [hu, show ((q : Int).toNat) = q by simp, hrr])
  have c0 : w.cell? ⟨R, 0, none⟩ = some (.pointer (some ⟨m, 0, none⟩)) := by rw [h.head.cell]; rfl
  have c1 : w.cell? ⟨R, 1, none⟩ = some (.int .i64 q) := by rw [h.head.cell]; rfl
  have c3 : w.cell? ⟨R, 3, none⟩ = some (.int .i64 u) := by rw [h.head.cell, ← hu]; rfl
  have c4 : w.cell? ⟨R, 4, none⟩ = some (.int .i64 added) := by rw [h.head.cell]; rfl
  have c9 : w.cell? ⟨R, 9, none⟩ = some (.bool false) := by rw [h.head.cell]; rfl
  have HM := Lib.hid hM
  have HR := Lib.hid h
  obtain ⟨C, hC, _⟩ := h.chain
  have hRd : R ≠ d := h.head.ne hM.bytes (by decide)
  have hRm : R ≠ m := h.head.ne hM.head (by decide)
  have hbtd : bt ≠ d := h.taken.ne hM.bytes (by decide)
  have hbcd : bc ≠ d := hC.ne hM.bytes (by decide)
  have hbwd : bw ≠ d := h.writes.ne hM.bytes (by decide)
  have HU := Lib.hid hu
  have H : Hid (Calls Try.prog 26 #[.int .i64 head, .int .i64 ((q : Int) - 1)] w fun e w' => e = .returned (.bool true) ∧ w = w') := Lib.hid ((Num_any _ _ _).mono fun e w' ⟨h1, h2⟩ => ⟨by rw [h1, numB_3 (by omega) (by omega)], h2⟩)
  have H2 : Hid (Calls Try.prog 94 #[.int .i64 n] w fun e w' => e = .returned (.bool true) ∧ w = w') := Lib.hid ((Word_any _ _).mono fun e w' ⟨h1, h2⟩ => ⟨by rw [h1, numB_3 (by omega) (by omega)], h2⟩)
  clear h hM hrr hu hC
  go_enter Try.func79, Try.ntmps79
  go_wp2_with fail
  refine H.out.mono ?_
  rintro e w' ⟨rfl, rfl⟩
  go_wp2_with fail
  refine H2.out.mono ?_
  rintro e w' ⟨rfl, rfl⟩
  have hw2 : IntKind.i64.wrap (8 * (rr : Int)) = 8 * (rr : Int) := IntWalk.i64_in _ ⟨by omega, by omega⟩
  have hw1 : IntKind.i64.wrap (u + 4) = u + 4 := IntWalk.i64_in _ ⟨by omega, by omega⟩
  have hw3 : IntKind.i64.wrap (u + 4 + 8 * (rr : Int)) = u + 4 + 8 * (rr : Int) := IntWalk.i64_in _ ⟨by omega, by omega⟩
  clear H H2
  go_wp2_with fail
  go_quiet (fail)
  clear hw1 hw2 hw3 htm c9
  have hl1 : Left [] w (w.drewN nq) := (Left.refl [] w).drewN nq
  have HR1 := Lib.hid (HR.out.drewN nq)
  have HM1 := Lib.hid (HM.out.drewN nq)
  replace c0 : (w.drewN nq).cell? ⟨R, 0, none⟩ = some (.pointer (some ⟨m, 0, none⟩)) := c0
  clear c1 c3 c4
  have hq2 := hq.2
  generalize w.drewN nq = w1 at hl1 HR1 HM1 c0 ⊢
  have hw4 : IntKind.i64.wrap (u + 4 + 8 * (rr : Int) + 4) = u + 4 + 8 * (rr : Int) + 4 := IntWalk.i64_in _ ⟨by omega, by omega⟩
  go_wp2_with fail
  refine (rputN HM1.out hB _ 4 head).mono ?_
  rintro e w2 ⟨⟨x, rfl⟩, hm2, hl2⟩
  have hl2' : Left [R, d] w w2 := (hl1.mono (by simp)).trans (T := [d]) hl2 (by simp)
  have HM2 := Lib.hid hm2
  have HR2 := Lib.hid (HR1.out.left hl2 (by simp [hRd]) (by simp [hbtd]) (by simp [hbcd]) (by simp [hbwd]) (by simpa using hdF))
  have j0 := cell_left' c0 hl2 (by simp [hRd])
  clear hl1 hl2 hm2 c0
  go_wp2_with fail
  refine (rputN HM2.out (by rw [putV_length]; exact hB) _ 4 n).mono ?_
  rintro e w3 ⟨⟨x, rfl⟩, hm3, hl3⟩
  have hl3' : Left [R, d] w w3 := hl2'.trans (T := [d]) hl3 (by simp)
  have HM3 := Lib.hid hm3
  have HR3 := Lib.hid (HR2.out.left hl3 (by simp [hRd]) (by simp [hbtd]) (by simp [hbcd]) (by simp [hbwd]) (by simpa using hdF))
  have k4 : w3.cell? ⟨R, 4, none⟩ = some (.int .i64 added) := by rw [HR3.out.head.cell]; rfl
  have f4 := HR3.out.head.free 4
  clear hl2' hl3 hm3 j0
  go_upto_region 9 with fail
  have hwt : ((added : Int) + 1) % 65536 = (((added + 1) % 65536 : Nat) : Int) := by omega
  rw [hwt]
  obtain ⟨wn, hwn⟩ : ∃ wn : Nat, (added + 1) % 65536 = wn := ⟨_, rfl⟩
  rw [hwn] at HPB ⊢
  have hwn2 : wn ≤ 65535 := by omega
  have hl4 : Left [R] w3 (w3.setCell ⟨R, 4, none⟩ (.int .i64 wn)) := (Left.refl _ _).setCell (Or.inl (by simp)) _
  have HR4 : Hid (RefAt (w3.setCell ⟨R, 4, none⟩ (.int .i64 wn)) R bt bc bw m q false wn last tk ch ws F) := Lib.hid (HR3.out.head_ hl4 (HR3.out.head.put 4 (.int .i64 wn)))
  have hm_ne : R ≠ m ∧ R ≠ d := ⟨hRm, hRd⟩
  have HM4 := Lib.hid (HM3.out.left hl4 (by simp [hRm.symm]) (by simp [hRd.symm]))
  have hl4' : Left [R, d] w (w3.setCell ⟨R, 4, none⟩ (.int .i64 wn)) := hl3'.trans (T := [R]) hl4 (by simp)
  clear hwt hl3' hl4 k4 f4
  generalize w3.setCell ⟨R, 4, none⟩ (.int .i64 wn) = w4 at HR4 HM4 hl4' ⊢
  have i0 : w4.cell? ⟨R, 0, none⟩ = some (.pointer (some ⟨m, 0, none⟩)) := by rw [HR4.out.head.cell]; rfl
  have i3 : w4.cell? ⟨R, 3, none⟩ = some (.int .i64 u) := by rw [HR4.out.head.cell, ← HU.out]; rfl
  have i4 : w4.cell? ⟨R, 4, none⟩ = some (.int .i64 wn) := by rw [HR4.out.head.cell]; rfl
  have HWN := Lib.hid hwn
  clear hwn
  have hw5 : IntKind.i64.wrap (u + 2) = u + 2 := IntWalk.i64_in _ ⟨by omega, by omega⟩
  have hw6 : IntKind.u64.wrap (wn : Int) = wn := IntWalk.u64_in _ ⟨by omega, by omega⟩
  refine wp_region_held_drew (S := fun wx => wx.cell? ⟨R, 0, none⟩ = some (.pointer (some ⟨m, 0, none⟩)) ∧ wx.cell? ⟨R, 3, none⟩ = some (.int .i64 u) ∧ wx.cell? ⟨R, 4, none⟩ = some (.int .i64 wn)) (by kernel_rfl) ⟨i0, i3, i4⟩ (fun hHeld => ?_)
  refine take_h 0 ⟨?_, ?_, ?_, by kernel_rfl, by kernel_rfl, by kernel_rfl, ?_, ?_, by assumption, ?_⟩
  rotate_left 2
  · (simp only [List.getElem?_toArray, List.getElem?_cons_zero]; exact rfl)
  · exact fun _ _ _ h => h
  · first
      | (refine Or.inr ⟨by rfl, ?_⟩; exact rfl)
      | (refine Or.inl ⟨by rfl, ?_⟩
         intro w hSw
         (try dsimp only at hSw)
         (try go_split_ands)
         go_simp
         (first | done | with_reducible rfl))
  try simp only [Act.put, List.setIfInBounds_toArray, List.set_cons_zero, List.set_cons_succ]
  refine take_h 1 ⟨?_, ?_, ?_, by kernel_rfl, by kernel_rfl, by kernel_rfl, ?_, ?_, by assumption, ?_⟩
  rotate_left 2
  · (simp only [List.getElem?_toArray, List.getElem?_cons_succ, List.getElem?_cons_zero]; exact rfl)
  · exact fun _ _ _ h => h
  · first
      | (refine Or.inr ⟨by rfl, ?_⟩; exact rfl)
      | (refine Or.inl ⟨by rfl, ?_⟩
         intro w hSw
         (try dsimp only at hSw)
         (try go_split_ands)
         go_simp
         (first | done | with_reducible rfl))
  try simp only [Act.put, List.setIfInBounds_toArray, List.set_cons_zero, List.set_cons_succ]
  refine take_h 2 ⟨?_, ?_, ?_, by kernel_rfl, by kernel_rfl, by kernel_rfl, ?_, ?_, by assumption, ?_⟩
  rotate_left 2
  · (simp only [List.getElem?_toArray, List.getElem?_cons_succ, List.getElem?_cons_zero]; exact rfl)
  · exact fun _ _ _ h => h
  · first
      | (refine Or.inr ⟨by rfl, ?_⟩; exact rfl)
      | (refine Or.inl ⟨by rfl, ?_⟩
         intro w hSw
         (try dsimp only at hSw)
         (try go_split_ands)
         go_simp
         (first | done | with_reducible rfl))
  try simp only [Act.put, List.setIfInBounds_toArray, List.set_cons_zero, List.set_cons_succ]
  refine take_h 3 ⟨?_, ?_, ?_, by kernel_rfl, by kernel_rfl, by kernel_rfl, ?_, ?_, by assumption, ?_⟩
  rotate_left 2
  · (simp only [List.getElem?_toArray, List.getElem?_cons_succ, List.getElem?_cons_zero]; exact rfl)
  · exact fun _ _ _ h => h
  · first
      | (refine Or.inr ⟨by rfl, ?_⟩; exact rfl)
      | (refine Or.inl ⟨by rfl, ?_⟩
         intro w hSw
         (try dsimp only at hSw)
         (try go_split_ands)
         go_simp
         (first | done | with_reducible rfl))
  try simp only [Act.put, List.setIfInBounds_toArray, List.set_cons_zero, List.set_cons_succ]
  refine take_h 4 ⟨?_, ?_, ?_, by kernel_rfl, by kernel_rfl, by kernel_rfl, ?_, ?_, by assumption, ?_⟩
  rotate_left 2
  · (simp only [List.getElem?_toArray, List.getElem?_cons_succ, List.getElem?_cons_zero]; exact rfl)
  · exact fun _ _ _ h => h
  · first
      | (refine Or.inr ⟨by rfl, ?_⟩; exact rfl)
      | (refine Or.inl ⟨by rfl, ?_⟩
         intro w hSw
         (try dsimp only at hSw)
         (try go_split_ands)
         go_simp
         (first | done | with_reducible rfl))
  try simp only [Act.put, List.setIfInBounds_toArray, List.set_cons_zero, List.set_cons_succ]
  refine take_h 5 ⟨?_, ?_, ?_, by kernel_rfl, by kernel_rfl, by kernel_rfl, ?_, ?_, by assumption, ?_⟩
  rotate_left 2
  · (simp only [List.getElem?_toArray, List.getElem?_cons_succ, List.getElem?_cons_zero]; exact rfl)
  · exact fun _ _ _ h => h
  · first
      | (refine Or.inr ⟨by rfl, ?_⟩; exact rfl)
      | (refine Or.inl ⟨by rfl, ?_⟩
         intro w hSw
         (try dsimp only at hSw)
         (try go_split_ands)
         go_simp
         (first | done | with_reducible rfl))
  try simp only [Act.put, List.setIfInBounds_toArray, List.set_cons_zero, List.set_cons_succ]
  refine take_h 6 ⟨?_, ?_, ?_, by kernel_rfl, by kernel_rfl, by kernel_rfl, ?_, ?_, by assumption, ?_⟩
  rotate_left 2
  · (simp only [List.getElem?_toArray, List.getElem?_cons_succ, List.getElem?_cons_zero]; exact rfl)
  · exact fun _ _ _ h => h
  · first
      | (refine Or.inr ⟨by rfl, ?_⟩; exact rfl)
      | (refine Or.inl ⟨by rfl, ?_⟩
         intro w hSw
         (try dsimp only at hSw)
         (try go_split_ands)
         go_simp
         (first | done | with_reducible rfl))
  try simp only [Act.put, List.setIfInBounds_toArray, List.set_cons_zero, List.set_cons_succ]
  refine take_h 7 ⟨?_, ?_, ?_, by kernel_rfl, by kernel_rfl, by kernel_rfl, ?_, ?_, by assumption, ?_⟩
  rotate_left 2
  · (simp only [List.getElem?_toArray, List.getElem?_cons_succ, List.getElem?_cons_zero]; exact rfl)
  · exact fun _ _ _ h => h
  · first
      | (refine Or.inr ⟨by rfl, ?_⟩; exact rfl)
      | (refine Or.inl ⟨by rfl, ?_⟩
         intro w hSw
         (try dsimp only at hSw)
         (try go_split_ands)
         go_simp
         (first | done | with_reducible rfl))
  try simp only [Act.put, List.setIfInBounds_toArray, List.set_cons_zero, List.set_cons_succ]
  refine take_h 8 ⟨?_, ?_, ?_, by kernel_rfl, by kernel_rfl, by kernel_rfl, ?_, ?_, by assumption, ?_⟩
  rotate_left 2
  · (simp only [List.getElem?_toArray, List.getElem?_cons_succ, List.getElem?_cons_zero]; exact rfl)
  · exact fun _ _ _ h => h
  · first
      | (refine Or.inr ⟨by rfl, ?_⟩; exact rfl)
      | (refine Or.inl ⟨by rfl, ?_⟩
         intro w hSw
         (try dsimp only at hSw)
         (try go_split_ands)
         go_simp
         (first | done | with_reducible rfl))
  try simp only [Act.put, List.setIfInBounds_toArray, List.set_cons_zero, List.set_cons_succ]
  refine take_h 9 ⟨?_, ?_, ?_, by kernel_rfl, by kernel_rfl, by kernel_rfl, ?_, ?_, by assumption, ?_⟩
  rotate_left 2
  · (simp only [List.getElem?_toArray, List.getElem?_cons_succ, List.getElem?_cons_zero]; exact rfl)
  · exact fun _ _ _ h => h
  · first
      | (refine Or.inr ⟨by rfl, ?_⟩; exact rfl)
      | (refine Or.inl ⟨by rfl, ?_⟩
         intro w hSw
         (try dsimp only at hSw)
         (try go_split_ands)
         go_simp
         (first | done | with_reducible rfl))
  try simp only [Act.put, List.setIfInBounds_toArray, List.set_cons_zero, List.set_cons_succ]
  refine take_h 10 ⟨?_, ?_, ?_, by kernel_rfl, by kernel_rfl, by kernel_rfl, ?_, ?_, by assumption, ?_⟩
  rotate_left 2
  · (simp only [List.getElem?_toArray, List.getElem?_cons_succ, List.getElem?_cons_zero]; exact rfl)
  · exact fun _ _ _ h => h
  · first
      | (refine Or.inr ⟨by rfl, ?_⟩; exact rfl)
      | (refine Or.inl ⟨by rfl, ?_⟩
         intro w hSw
         (try dsimp only at hSw)
         (try go_split_ands)
         go_simp
         (first | done | with_reducible rfl))
  try simp only [Act.put, List.setIfInBounds_toArray, List.set_cons_zero, List.set_cons_succ]
  refine take_h 11 ⟨?_, ?_, ?_, by kernel_rfl, by kernel_rfl, by kernel_rfl, ?_, ?_, by assumption, ?_⟩
  rotate_left 2
  · (simp only [List.getElem?_toArray, List.getElem?_cons_succ, List.getElem?_cons_zero]; exact rfl)
  · exact fun _ _ _ h => h
  · first
      | (refine Or.inr ⟨by rfl, ?_⟩; exact rfl)
      | (refine Or.inl ⟨by rfl, ?_⟩
         intro w hSw
         (try dsimp only at hSw)
         (try go_split_ands)
         go_simp
         (first | done | with_reducible rfl))
  try simp only [Act.put, List.setIfInBounds_toArray, List.set_cons_zero, List.set_cons_succ]
  refine take_h 12 ⟨?_, ?_, ?_, by kernel_rfl, by kernel_rfl, by kernel_rfl, ?_, ?_, by assumption, ?_⟩
  rotate_left 2
  · (simp only [List.getElem?_toArray, List.getElem?_cons_succ, List.getElem?_cons_zero]; exact rfl)
  · exact fun _ _ _ h => h
  · first
      | (refine Or.inr ⟨by rfl, ?_⟩; exact rfl)
      | (refine Or.inl ⟨by rfl, ?_⟩
         intro w hSw
         (try dsimp only at hSw)
         (try go_split_ands)
         go_simp
         (first | done | with_reducible rfl))
  try simp only [Act.put, List.setIfInBounds_toArray, List.set_cons_zero, List.set_cons_succ]
  refine take_h 13 ⟨?_, ?_, ?_, by kernel_rfl, by kernel_rfl, by kernel_rfl, ?_, ?_, by assumption, ?_⟩
  rotate_left 2
  · (simp only [List.getElem?_toArray, List.getElem?_cons_succ, List.getElem?_cons_zero]; exact rfl)
  · exact fun _ _ _ h => h
  · first
      | (refine Or.inr ⟨by rfl, ?_⟩; exact rfl)
      | (refine Or.inl ⟨by rfl, ?_⟩
         intro w hSw
         (try dsimp only at hSw)
         (try go_split_ands)
         go_simp
         (first | done | with_reducible rfl))
  try simp only [Act.put, List.setIfInBounds_toArray, List.set_cons_zero, List.set_cons_succ]
  refine wpAnyH_ready (rs := [14]) (by kernel_rfl) (by simp) ?_
  refine call_h 14 ⟨?_, ?_, fun K hK => ?_⟩
  rotate_left 1
  · (simp only [List.getElem?_toArray, List.getElem?_cons_succ, List.getElem?_cons_zero]; exact rfl)
  go_simp
  (go_at_call 27; refine (rputN HM4.out.drew (by rw [putV_length, putV_length]; exact hB) _ 2 wn).mono ?_; rintro e w5 ⟨⟨x, rfl⟩, hmP, hlP⟩)
  go_wp2_with fail
  have hl5 : Left [d] w4 w5 := ⟨hlP.os, hlP.tape, hlP.output, hlP.size, hlP.block⟩
  have j0 := cell_left' i0 hl5 (by simp [hRd])
  have j3 := cell_left' i3 hl5 (by simp [hRd])
  have j4 := cell_left' i4 hl5 (by simp [hRd])
  have HM5 := Lib.hid hmP
  have HL5 := Lib.hid hl5
  clear hmP hlP hl5 i0 i3 i4
  refine hK.out _ _ ⟨j0, j3, j4⟩ (fun hHeld => ?_)
  clear hK K
  (try simp only [Act.put, List.setIfInBounds_toArray, List.set_cons_zero, List.set_cons_succ])
  refine wpAnyH_done (by kernel_rfl) ?_ _
  clear hHeld
  go_wp2
  go_ret
  refine ⟨rfl, ?_, ?_, ?_⟩
  · rw [HWN.out]; exact HR4.out.left HL5.out (by simp [hRd]) (by simp [hbtd]) (by simp [hbcd]) (by simp [hbwd]) (by simpa using hdF)
  · rw [HPB.out]
    exact HM5.out
  · exact hl4'.trans (T := [d]) HL5.out (by simp)
end Go.Proofs.Ytfffehbipcikoaa
