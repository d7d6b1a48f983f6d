/- Reading a state's bytes: whatever they are. -/



import Derived.Test.YtlehkaibbkblkaaGreatDoorGa
import Derived.Test.YtlehkaibbkblkaaGreatDoorCrc
import Derived.Test.YtlehkaibbkblkaaGreatDoorBytes
import Derived.Handy
import Derived.IntWalk
import Derived.Deep.DeepCutAuto
namespace Go.Proofs.YtlehkaibbkblkaaGreatDoor
open Go.RowKit
/-- A reader: at most N bytes are left. -/
def RdAt (w : World) (Bd RB N : Nat) : Prop := ∃ bv y bad, Whole w RB 43 [bv, .bool bad] ∧ Rd w Bd 1 bv y.length (u8s y) ∧ y.length ≤ N ∧ Bd ≤ RB
theorem i64_or_nn (a b : Nat) (ha : a < 2 ^ 24) (hb : b < 2 ^ 24) : bits .or .i64 (a : Int) (b : Int) = ((a ||| b : Nat) : Int) ∧ a ||| b < 2 ^ 24 := by
  have hlt : a ||| b < 2 ^ 24 := Nat.or_lt_two_pow ha hb
  have h := u64_or_nat a b (by omega) (by omega)
  unfold bits at h ⊢
  simp only at h ⊢
  obtain ⟨Y, hY⟩ : ∃ Y : BitVec 64, (BitVec.ofInt IntKind.u64.bits (a : Int) ||| BitVec.ofInt IntKind.u64.bits (b : Int)) = Y := ⟨_, rfl⟩
  have hyl := Y.isLt
  have h' : IntKind.u64.wrap (Y.toNat : Int) = ((a ||| b : Nat) : Int) := by rw [← hY]; exact h
  rw [IntKind.wrap_u64] at h'
  refine ⟨?_, hlt⟩
  have h2 : (Y.toNat : Int) = ((a ||| b : Nat) : Int) := by
    rw [← h']
    omega
  have h3 : IntKind.i64.wrap (Y.toNat : Int) = ((a ||| b : Nat) : Int) := by
    rw [h2]
    exact IntWalk.i64_in _ ⟨by omega, by omega⟩
  rw [← h3, ← hY]
  rfl
theorem read3 (x0 x1 x2 : UInt8) : ∃ n : Nat, bits .or .i64 (bits .or .i64 (IntKind.i64.wrap (IntKind.i64.wrap (x0.toNat : Int) * 65536)) (IntKind.i64.wrap (IntKind.i64.wrap (x1.toNat : Int) * 256))) (IntKind.i64.wrap (x2.toNat : Int)) = (n : Int) := by
  have h0 := x0.toNat_lt
  have h1 := x1.toNat_lt
  have h2 := x2.toNat_lt
  rw [IntWalk.i64_in (x0.toNat : Int) ⟨by omega, by omega⟩, IntWalk.i64_in (x1.toNat : Int) ⟨by omega, by omega⟩, IntWalk.i64_in (x2.toNat : Int) ⟨by omega, by omega⟩, IntWalk.i64_in ((x0.toNat : Int) * 65536) ⟨by omega, by omega⟩, IntWalk.i64_in ((x1.toNat : Int) * 256) ⟨by omega, by omega⟩]
  have e1 := i64_or_nn (x0.toNat * 65536) (x1.toNat * 256) (by omega) (by omega)
  rw [Int.natCast_mul, Int.natCast_mul] at e1
  have e2 := i64_or_nn (x0.toNat * 65536 ||| x1.toNat * 256) x2.toNat e1.2 (by omega)
  refine ⟨x0.toNat * 65536 ||| x1.toNat * 256 ||| x2.toNat, ?_⟩
  rw [← e2.1, ← e1.1]
  rfl
theorem rd_set {w : World} {Bd RB size n k : Nat} {v u : Value} {us : List Value} (h : Rd w Bd size v n us) (hB : Bd ≤ RB) : Rd (w.setCell ⟨RB, k, none⟩ u) Bd size v n us :=
  h.keep (fun p hp => World.cell?_of_block (Below.heap_setCell w ⟨RB, k, none⟩ _ p.block (by simp only; omega)))
set_option maxRecDepth 20000 in
theorem number_r (w : World) (Bd RB N : Nat) (h : RdAt w Bd RB N) (hN : N ≤ 1000000000) :
    Calls Tryz.prog 24 #[.pointer (some ⟨RB, 0, none⟩)] w fun e w' => ∃ n : Int, e = .returned (.int .i64 n) ∧ 0 ≤ n ∧ RdAt w' Bd RB N ∧ Left [RB] w w' := by
  obtain ⟨bv, y, bad, hW, hR, hy, hB⟩ := h
  obtain ⟨ao, cap, rfl, hc, hm⟩ := hR.form
  have hc2 : cap ≤ 9223372036854775807 := by unfold maxLen at hm; omega
  have c0 := hW.cell 0
  have c1 := hW.cell 1
  have f0 := hW.free 0
  have f1 := hW.free 1
  simp only [List.getElem?_cons_zero, List.getElem?_cons_succ] at c0 c1
  have HBAD : Hid (RdAt (w.setCell ⟨RB, 1, none⟩ (.bool true)) Bd RB N ∧ Left [RB] w (w.setCell ⟨RB, 1, none⟩ (.bool true))) := Lib.hid ⟨⟨_, y, true, hW.put 1 (.bool true), hR.keep (fun p hp => World.cell?_of_block (Below.heap_setCell w _ _ p.block (by simp; omega))), hy, hB⟩, (Left.refl _ _).setCell (.inl (by simp)) _⟩
  have HW := Lib.hid hW
  have HR := Lib.hid hR
  clear hW hR hm
  cases bad
  · by_cases h3 : y.length < 3
    · have h3' : (y.length : Int) < 3 := by omega
      go_enter Tryz.func24, Tryz.ntmps24
      go_wp2
      refine wp_scope_jumps 0 (fun a' w' => w = w' ∧ ∃ u : Nat → Value, a' = { tmps := #[.pointer (some ⟨RB, 0, none⟩), u 1, u 2, u 3, u 4, u 5, u 6, u 7, u 8, u 9, u 10, u 11, u 12, u 13, u 14, u 15, u 16, u 17, u 18, u 19, u 20, u 21, u 22, u 23, u 24, u 25, u 26, u 27, u 28, u 29, u 30, u 31, u 32, u 33, u 34, u 35, u 36, u 37, u 38, u 39, u 40, u 41, u 42, u 43, u 44, u 45, u 46, u 47, u 48, u 49, u 50, u 51], defers := [] }) (fun _ _ => 0) rfl ?_ ?_
      · go_wp2
        go_step3
        exact ⟨rfl, rfl, frm_any rfl⟩
      · rintro a' w' ⟨rfl, u, rfl⟩
        go_wp2
        simp only [Exit.jump]
        go_ret
        exact ⟨0, rfl, by omega, HBAD.out⟩
    · have h3' : ¬ ((y.length : Int) < 3) := by omega
      have h3n : ¬ (y.length < 3) := h3
      obtain ⟨b, o, u0, rfl, hbl, hu0, hc0⟩ := HR.out.at_ (k := 0) (by omega)
      obtain ⟨_, _, u1, e, _, hu1, hc1⟩ := HR.out.at_ (k := 1) (by omega)
      injection e with e
      injection e with e1 e2
      subst e1 e2
      obtain ⟨_, _, u2, e, _, hu2, hc2'⟩ := HR.out.at_ (k := 2) (by omega)
      injection e with e
      injection e with e1 e2
      subst e1 e2
      rw [u8s_at y 0 (by omega)] at hu0
      rw [u8s_at y 1 (by omega)] at hu1
      rw [u8s_at y 2 (by omega)] at hu2
      obtain rfl := Option.some.inj hu0
      obtain rfl := Option.some.inj hu1
      obtain rfl := Option.some.inj hu2
      generalize y[0] = x0 at *
      generalize y[1] = x1 at *
      generalize y[2] = x2 at *
      rw [Nat.add_zero] at hc0
      have g1 : (0 : Int) < (y.length : Int) := by omega
      have g2 : (1 : Int) < (y.length : Int) := by omega
      have g3 : (2 : Int) < (y.length : Int) := by omega
      have g4 : 0 < y.length := by omega
      have g5 : 1 < y.length := by omega
      have g6 : 2 < y.length := by omega
      clear hu0 hu1 hu2 h3
      go_enter Tryz.func24, Tryz.ntmps24
      go_wp2
      refine wp_scope_jumps 0 (fun a' w' => False) (fun _ _ => 0) rfl ?_ (fun _ _ h => h.elim)
      go_wp2
      refine wp_region_held_drew (S := fun wx => wx.cell? ⟨RB, 0, none⟩ = some (.slice (some ⟨b, o, none⟩) y.length cap) ∧ wx.cell? ⟨b, o, none⟩ = some (.int .u8 x0.toNat) ∧ wx.cell? ⟨b, o + 1, none⟩ = some (.int .u8 x1.toNat) ∧ wx.cell? ⟨b, o + 2, none⟩ = some (.int .u8 x2.toNat)) (by kernel_rfl) ⟨c0, hc0, hc1, hc2'⟩ (fun hHeld => ?_)
      refine tk 0 (by assumption) ?_
      (try simp only [Act.put, List.setIfInBounds_toArray, List.set_cons_zero, List.set_cons_succ])
      refine tk 1 (by assumption) ?_
      (try simp only [Act.put, List.setIfInBounds_toArray, List.set_cons_zero, List.set_cons_succ])
      refine tk 2 (by assumption) ?_
      (try simp only [Act.put, List.setIfInBounds_toArray, List.set_cons_zero, List.set_cons_succ])
      refine tk 3 (by assumption) ?_
      (try simp only [Act.put, List.setIfInBounds_toArray, List.set_cons_zero, List.set_cons_succ])
      refine tk 4 (by assumption) ?_
      (try simp only [Act.put, List.setIfInBounds_toArray, List.set_cons_zero, List.set_cons_succ])
      refine tk 5 (by assumption) ?_
      (try simp only [Act.put, List.setIfInBounds_toArray, List.set_cons_zero, List.set_cons_succ])
      refine tk 6 (by assumption) ?_
      (try simp only [Act.put, List.setIfInBounds_toArray, List.set_cons_zero, List.set_cons_succ])
      refine tk 7 (by assumption) ?_
      (try simp only [Act.put, List.setIfInBounds_toArray, List.set_cons_zero, List.set_cons_succ])
      refine tk 8 (by assumption) ?_
      (try simp only [Act.put, List.setIfInBounds_toArray, List.set_cons_zero, List.set_cons_succ])
      refine tk 9 (by assumption) ?_
      (try simp only [Act.put, List.setIfInBounds_toArray, List.set_cons_zero, List.set_cons_succ])
      refine tk 10 (by assumption) ?_
      (try simp only [Act.put, List.setIfInBounds_toArray, List.set_cons_zero, List.set_cons_succ])
      refine tk 11 (by assumption) ?_
      (try simp only [Act.put, List.setIfInBounds_toArray, List.set_cons_zero, List.set_cons_succ])
      refine tk 12 (by assumption) ?_
      (try simp only [Act.put, List.setIfInBounds_toArray, List.set_cons_zero, List.set_cons_succ])
      refine tk 13 (by assumption) ?_
      (try simp only [Act.put, List.setIfInBounds_toArray, List.set_cons_zero, List.set_cons_succ])
      refine tk 14 (by assumption) ?_
      (try simp only [Act.put, List.setIfInBounds_toArray, List.set_cons_zero, List.set_cons_succ])
      refine tk 15 (by assumption) ?_
      (try simp only [Act.put, List.setIfInBounds_toArray, List.set_cons_zero, List.set_cons_succ])
      refine tk 16 (by assumption) ?_
      (try simp only [Act.put, List.setIfInBounds_toArray, List.set_cons_zero, List.set_cons_succ])
      refine tk 17 (by assumption) ?_
      (try simp only [Act.put, List.setIfInBounds_toArray, List.set_cons_zero, List.set_cons_succ])
      refine tk 18 (by assumption) ?_
      (try simp only [Act.put, List.setIfInBounds_toArray, List.set_cons_zero, List.set_cons_succ])
      refine tk 19 (by assumption) ?_
      (try simp only [Act.put, List.setIfInBounds_toArray, List.set_cons_zero, List.set_cons_succ])
      refine tk 20 (by assumption) ?_
      (try simp only [Act.put, List.setIfInBounds_toArray, List.set_cons_zero, List.set_cons_succ])
      refine tk 21 (by assumption) ?_
      (try simp only [Act.put, List.setIfInBounds_toArray, List.set_cons_zero, List.set_cons_succ])
      refine tk 22 (by assumption) ?_
      (try simp only [Act.put, List.setIfInBounds_toArray, List.set_cons_zero, List.set_cons_succ])
      refine tk 23 (by assumption) ?_
      (try simp only [Act.put, List.setIfInBounds_toArray, List.set_cons_zero, List.set_cons_succ])
      refine tk 24 (by assumption) ?_
      (try simp only [Act.put, List.setIfInBounds_toArray, List.set_cons_zero, List.set_cons_succ])
      refine tk 25 (by assumption) ?_
      (try simp only [Act.put, List.setIfInBounds_toArray, List.set_cons_zero, List.set_cons_succ])
      refine wpAnyH_done (by kernel_rfl) ?_ _
      have d0 : w.drew.cell? ⟨RB, 0, none⟩ = some (.slice (some ⟨b, o, none⟩) y.length cap) := c0
      have fr : w.drew.frozen? ⟨RB, 0, none⟩ = false := f0
      go_wp2
      all_goals
        simp only [Exit.jump]
        go_ret
        obtain ⟨nn, hnn⟩ := read3 x0 x1 x2
        have hd := rd_drop HR.out (j := 3) (by omega)
        refine ⟨nn, by rw [← hnn]; rfl, by omega, ⟨_, y.drop 3, false, (HW.out.drew.put 0 _), ?_, by rw [List.length_drop]; omega, hB⟩, (Left.refl _ _).drew.setCell (.inl (by simp)) _⟩
        rw [Nat.mul_one, u8s_drop] at hd
        simp only [*, if_true, if_false, Nat.mul_one, Nat.sub_self] at hd
        rw [List.length_drop]
        show Rd (w.setCell _ _) Bd 1 _ _ _
        exact rd_set hd hB
  · go_enter Tryz.func24, Tryz.ntmps24
    go_wp2
    refine wp_scope_jumps 0 (fun a' w' => w = w' ∧ ∃ u : Nat → Value, a' = { tmps := #[.pointer (some ⟨RB, 0, none⟩), u 1, u 2, u 3, u 4, u 5, u 6, u 7, u 8, u 9, u 10, u 11, u 12, u 13, u 14, u 15, u 16, u 17, u 18, u 19, u 20, u 21, u 22, u 23, u 24, u 25, u 26, u 27, u 28, u 29, u 30, u 31, u 32, u 33, u 34, u 35, u 36, u 37, u 38, u 39, u 40, u 41, u 42, u 43, u 44, u 45, u 46, u 47, u 48, u 49, u 50, u 51], defers := [] }) (fun _ _ => 0) rfl ?_ ?_
    · go_wp2
      go_step3
      exact ⟨rfl, rfl, frm_any rfl⟩
    · rintro a' w' ⟨rfl, u, rfl⟩
      go_wp2
      simp only [Exit.jump]
      go_ret
      exact ⟨0, rfl, by omega, HBAD.out⟩
/-- .. of which n at least are left. -/
def RdN (w : World) (Bd RB N n : Nat) : Prop := ∃ bv y bad, Whole w RB 43 [bv, .bool bad] ∧ Rd w Bd 1 bv y.length (u8s y) ∧ y.length ≤ N ∧ Bd ≤ RB ∧ n ≤ y.length
theorem RdN.at_ {w : World} {Bd RB N n : Nat} (h : RdN w Bd RB N n) : RdAt w Bd RB N := by
  obtain ⟨bv, y, bad, h1, h2, h3, h4, _⟩ := h
  exact ⟨bv, y, bad, h1, h2, h3, h4⟩
set_option maxRecDepth 20000 in
theorem count_r (w : World) (Bd RB N : Nat) (h : RdAt w Bd RB N) (hN : N ≤ 1000000000) :
    Calls Tryz.prog 12 #[.pointer (some ⟨RB, 0, none⟩)] w fun e w' => ∃ n : Nat, e = .returned (.int .i64 n) ∧ RdN w' Bd RB N n ∧ Left [RB] w w' := by
  have HN := Lib.hid (number_r w Bd RB N h hN)
  clear h
  go_enter Tryz.func12, Tryz.ntmps12
  go_wp2_with fail
  refine HN.out.mono ?_
  rintro e w1 ⟨n, rfl, hn0, ⟨bv, y, bad, hW, hR, hy, hB⟩, hl⟩
  obtain ⟨n, rfl⟩ := Int.eq_ofNat_of_zero_le hn0
  obtain ⟨ao, cap, rfl, hc, hm⟩ := hR.form
  have hc2 : cap ≤ 9223372036854775807 := by unfold maxLen at hm; omega
  have c0 := hW.cell 0
  have c1 := hW.cell 1
  have f1 := hW.free 1
  simp only [List.getElem?_cons_zero, List.getElem?_cons_succ] at c0 c1
  have HBAD : Hid (RdN (w1.setCell ⟨RB, 1, none⟩ (.bool true)) Bd RB N 0 ∧ Left [RB] w (w1.setCell ⟨RB, 1, none⟩ (.bool true))) := Lib.hid ⟨⟨_, y, true, hW.put 1 (.bool true), rd_set hR hB, hy, hB, by omega⟩, hl.setCell (.inl (by simp)) _⟩
  have HGOOD : Hid (n ≤ y.length → RdN (w1.setCell ⟨RB, 1, none⟩ (.bool false)) Bd RB N n ∧ Left [RB] w (w1.setCell ⟨RB, 1, none⟩ (.bool false))) := Lib.hid (fun hny => ⟨⟨_, y, false, hW.put 1 (.bool false), rd_set hR hB, hy, hB, hny⟩, hl.setCell (.inl (by simp)) _⟩)
  clear hW hR hm hl hn0
  cases bad
  · by_cases hny : n ≤ y.length
    · have hd : decide ((y.length : Int) < (n : Int)) = false := decide_eq_false (by omega)
      have hd' : decide (y.length < n) = false := decide_eq_false (by omega)
      go_wp2
      go_ret
      exact ⟨_, rfl, HGOOD.out hny⟩
    · have hd : decide ((y.length : Int) < (n : Int)) = true := decide_eq_true (by omega)
      have hd' : decide (y.length < n) = true := decide_eq_true (by omega)
      go_wp2
      go_ret
      exact ⟨0, rfl, HBAD.out⟩
  · go_wp2
    go_ret
    exact ⟨0, rfl, HBAD.out⟩
set_option maxRecDepth 20000 in
theorem text_r (w : World) (Bd RB N : Nat) (h : RdAt w Bd RB N) (hN : N ≤ 1000000000) :
    Calls Tryz.prog 25 #[.pointer (some ⟨RB, 0, none⟩)] w fun e w' => ∃ s : ByteArray, e = .returned (.string s) ∧ s.size ≤ N ∧ RdAt w' Bd RB N ∧ Left [RB] w w' := by
  have HN := Lib.hid (count_r w Bd RB N h hN)
  clear h
  go_enter Tryz.func25, Tryz.ntmps25
  go_wp2_with fail
  refine HN.out.mono ?_
  rintro e w1 ⟨n, rfl, ⟨bv, y, bad, hW, hR, hy, hB, hny⟩, hl⟩
  obtain ⟨ao, cap, rfl, hc, hm⟩ := hR.form
  have hc2 : cap ≤ 9223372036854775807 := by unfold maxLen at hm; omega
  have c0 := hW.cell 0
  have c1 := hW.cell 1
  have f0 := hW.free 0
  simp only [List.getElem?_cons_zero, List.getElem?_cons_succ] at c0 c1
  have HW := Lib.hid hW
  have HR := Lib.hid hR
  have HL := Lib.hid hl
  clear hW hm hl
  cases ao with
  | none =>
    obtain ⟨_, ao', cap', e, _, _, h5, h6⟩ := hR
    injection e with e1 e2 e3
    subst e1 e3
    obtain rfl := h5 rfl
    have hy0 : y = [] := List.eq_nil_of_length_eq_zero (by omega)
    subst hy0
    obtain rfl : n = 0 := by simpa using hny
    clear h5 h6
    have hcv := run_convert_bytes_nil (P := Tryz.prog) (w := w1) 23 5 Tryz.underlying23 Tryz.underlying5 0 0
    go_wp2
    go_ret
    exact ⟨_, rfl, by simp, ⟨_, [], bad, HW.out.put 0 _, rd_set HR.out hB, by simp, hB⟩, HL.out.setCell (.inl (by simp)) _⟩
  | some a =>
    have hcv : (convert 23 9 (.slice (some a) n cap)).run Tryz.prog w1 = .ok (.string ⟨(y.take n).toArray⟩) w1 := by
      by_cases h0 : n = 0
      · subst h0
        rw [run_convert_bytes_string w1 23 9 5 _ 0 cap Tryz.underlying23 Tryz.underlying5 Tryz.underlying9]
        simp [Conv.bytesToString, loadCells]
        rfl
      · obtain ⟨_, ao', cap', e, _, _, _, h6⟩ := hR
        injection e with e1 e2 e3
        subst e1
        obtain ⟨b, o, e, _, hc⟩ := h6 (by omega)
        injection e with e
        subst e
        have hl : (y.take n).length = n := by rw [List.length_take]; omega
        have := conv_bs w1 b o cap (y.take n) (fun j x hx => by
          rw [List.getElem?_take] at hx
          split at hx
          · exact hc j _ (by rw [u8s, List.getElem?_map, hx]; rfl)
          · cases hx)
        rw [hl] at this
        exact this
    have hd := rd_drop1 HR.out (j := n) hny
    have HD := Lib.hid hd
    have hnc : n ≤ cap := by omega
    have hsz : Hid ((ByteArray.mk (y.take n).toArray).size ≤ N) := Lib.hid (by
      show (y.take n).toArray.size ≤ N
      rw [List.size_toArray, List.length_take]
      omega)
    clear hR hd
    go_wp2
    all_goals
      go_ret
      refine ⟨_, rfl, hsz.out, ⟨_, y.drop n, bad, HW.out.put 0 _, ?_, by rw [List.length_drop]; omega, hB⟩, HL.out.setCell (.inl (by simp)) _⟩
      have hd := HD.out
      rw [u8s_drop] at hd
      simp only [*, if_true, if_false, Nat.sub_self] at hd
      rw [List.length_drop]
      exact rd_set hd hB
theorem RdAt.set {w : World} {Bd RB N T : Nat} (h : RdAt w Bd RB N) (hT : RB < T) (k : Nat) (u : Value) : RdAt (w.setCell ⟨T, k, none⟩ u) Bd RB N := by
  obtain ⟨bv, y, bad, h1, h2, h3, h4⟩ := h
  exact ⟨bv, y, bad, h1.other (by simp only; omega) u, rd_set h2 (by omega), h3, h4⟩
theorem is_r (w : World) (Bd RB N : Nat) (h : RdAt w Bd RB N) (hN : N ≤ 1000000000) :
    Calls Tryz.prog 27 #[.pointer (some ⟨RB, 0, none⟩)] w fun e w' => ∃ b : Bool, e = .returned (.bool b) ∧ RdAt w' Bd RB N ∧ Left [RB] w w' := by
  have HN := Lib.hid (number_r w Bd RB N h hN)
  clear h
  go_enter Tryz.func27, Tryz.ntmps27
  go_wp2_with fail
  refine HN.out.mono ?_
  rintro e w1 ⟨n, rfl, _, h1, h2⟩
  have H1 := Lib.hid h1
  have H2 := Lib.hid h2
  clear h1 h2
  go_wp2
  go_ret
  exact ⟨_, rfl, H1.out, H2.out⟩
/-- Texts that are not too long. -/
def MN (N : Nat) (m : Msg) : Prop := m.t.size ≤ N ∧ m.p.size ≤ N
set_option maxRecDepth 20000 in
theorem message_r (w : World) (Bd RB N : Nat) (h : RdAt w Bd RB N) (hN : N ≤ 1000000000) :
    Calls Tryz.prog 26 #[.pointer (some ⟨RB, 0, none⟩)] w fun e w' => ∃ m : Msg, e = .returned (msgV m) ∧ MN N m ∧ RdAt w' Bd RB N ∧ Left [RB] w w' := by
  obtain ⟨T, hT⟩ : ∃ T, T = w.heap.size := ⟨_, rfl⟩
  have hRB : RB < T := by obtain ⟨_, _, _, hW, _⟩ := h; rw [hT]; exact hW.lt
  obtain ⟨wa, hwa⟩ : ∃ wa, wa = w.alloc (.cells #[.string ⟨#[]⟩, .string ⟨#[]⟩, .int .i64 0, .bool false] 64) := ⟨_, rfl⟩
  have hla : Left [RB] w wa := by rw [hwa]; exact (Left.refl _ _).alloc _
  have hWa : Whole wa T 64 [.string ⟨#[]⟩, .string ⟨#[]⟩, .int .i64 0, .bool false] := by rw [hwa, hT]; exact Whole.new w 64 _
  have ha : RdAt wa Bd RB N := by
    obtain ⟨bv, y, bad, h1, h2, h3, h4⟩ := h
    rw [hwa]
    exact ⟨bv, y, bad, h1.alloc _, h2.below ((Below.refl _ _).alloc (by have := h1.lt; omega) _), h3, h4⟩
  have HWA := Lib.hid hwa
  have HT := Lib.hid hT
  clear h hwa hT
  go_enter Tryz.func26, Tryz.ntmps26
  go_upto_region 1 with fail
  rw [← HWA.out, ← HT.out]
  have HNN := Lib.hid hN
  have HWZ : Hid (∀ w', Left [RB] wa w' → Whole w' T 64 [.string ⟨#[]⟩, .string ⟨#[]⟩, .int .i64 0, .bool false]) := Lib.hid (fun w' hl => hWa.left hl (by simp; omega))
  have HSP : Hid (∀ w' a b c d, Left [RB] wa w' → Left [RB] w ((((w'.setCell ⟨T, 0, none⟩ a).setCell ⟨T, 1, none⟩ b).setCell ⟨T, 2, none⟩ c).setCell ⟨T, 3, none⟩ d)) := Lib.hid (fun w' a b c d hl => ((((hla.trans hl (fun k hk => .inl hk)).setCell (.inr (by simp only [HT.out]; omega)) _).setCell (.inr (by simp only [HT.out]; omega)) _).setCell (.inr (by simp only [HT.out]; omega)) _).setCell (.inr (by simp only [HT.out]; omega)) _)
  have hL := Left.refl [RB] wa
  have hra := ha
  clear hla hWa
  go_wp2_with first
    | (go_at_call 25; refine (text_r _ Bd RB N (by assumption) HNN.out).mono ?_; rintro e wq ⟨sq, rfl, hsq, hrq, hlq⟩; replace hL := hL.trans hlq (fun k hk => .inl hk); clear hlq)
    | (go_at_call 24; refine (number_r _ Bd RB N (by assumption) HNN.out).mono ?_; rintro e wq ⟨nq, rfl, hnq, hrq, hlq⟩; replace hL := hL.trans hlq (fun k hk => .inl hk); clear hlq)
    | (go_at_call 27; refine (is_r _ Bd RB N (by assumption) HNN.out).mono ?_; rintro e wq ⟨bq, rfl, hrq, hlq⟩; replace hL := hL.trans hlq (fun k hk => .inl hk); clear hlq; have hW4 := HWZ.out _ hL; have z0 := hW4.cell 0; have z1 := hW4.cell 1; have z2 := hW4.cell 2; have z3 := hW4.cell 3; simp only [List.getElem?_cons_zero, List.getElem?_cons_succ] at z0 z1 z2 z3; have y0 := hW4.free 0; have y1 := hW4.free 1; have y2 := hW4.free 2; have y3 := hW4.free 3; have HW4 := Lib.hid hW4; clear hW4)
  (try simp only [Exit.inBlock, Exit.then])
  refine bodyPost_ret (results_cell_row (P := Tryz.prog) (p := 2) (ty := 64) rfl _ _ (T) 64 _ (0, 0) _ rfl ((((HW4.out.put 0 _).put 1 _).put 2 _).put 3 _) Tryz.underlying64 rfl (by kernel_rfl)) rfl ?_
  exact ⟨⟨_, _, _, _⟩, rfl, ⟨by assumption, by assumption⟩, (((hrq.set hRB 0 _).set hRB 1 _).set hRB 2 _).set hRB 3 _, HSP.out _ _ _ _ _ hL⟩
end Go.Proofs.YtlehkaibbkblkaaGreatDoor
