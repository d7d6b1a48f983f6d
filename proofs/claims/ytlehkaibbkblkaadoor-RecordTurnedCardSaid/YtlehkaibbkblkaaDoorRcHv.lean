/- How much a broker is: wishes, messages. -/


import Derived.Test.YtlehkaibbkblkaaDoorRcMay3
namespace Go.Proofs.YtlehkaibbkblkaaDoor
open Go.RowKit
/-- As far as the reach goes. -/
def RR : Nat := 281474976710656
theorem RR_eq : RR = 281474976710656 := rfl
set_option maxRecDepth 20000 in
set_option maxHeartbeats 1000000 in
theorem wishes_any (w : World) (v : Value) (L : List Wish1) (Bd : Nat) (h : Rd w Bd 2 v L.length (eW.cells L)) (hl : L.length ≤ RR) (hs : ∀ x ∈ L, x.f.size ≤ RR) :
    Calls Tryd.prog 26 #[v] w fun e w' => ∃ n : Nat, e = .returned (.int .i64 n) ∧ n ≤ L.length + 1048576 + RR ∧ (n < 1048576 → L.length ≤ n ∧ ∀ x ∈ L, x.f.size ≤ n) ∧ w = w' := by
  obtain ⟨ao, cap, rfl, hc, hm⟩ := h.form
  have hm' : cap ≤ 9223372036854775807 := by unfold maxLen at hm; omega
  have H := Lib.hid h
  have HS := Lib.hid hs
  have hl2 : L.length ≤ 281474976710656 := hl
  clear h hm hs hl
  go_enter Tryd.func26, Tryd.ntmps26
  go_wp2
  go_loopw [3, 4] (fun s i wr => ∃ (n k : Nat), s = .int .i64 n ∧ i = .int .i64 k ∧ k ≤ L.length ∧ w = wr ∧ L.length ≤ n ∧ n ≤ L.length + 1048576 + 281474976710656 ∧ Hid (∀ j x, j < k → L[j]? = some x → x.f.size ≤ n)) (fun _ i _ => L.length - (intOf i).toNat)
  case atStart => exact ⟨L.length, 0, rfl, rfl, by omega, rfl, by omega, by omega, Lib.hid (fun j x hj => by omega)⟩
  case round =>
    obtain ⟨n, k, rfl, rfl, hk, rfl, hn1, hn2, HP⟩ := hrel
    by_cases hlt : k < L.length
    · have hlt' : (k : Int) < (L.length : Int) := by omega
      by_cases hbig : n < 1048576
      · have hbig' : (n : Int) < 1048576 := by omega
        obtain ⟨x, hx⟩ : ∃ x, L[k]? = some x := ⟨_, List.getElem?_eq_getElem hlt⟩
        obtain ⟨b, o, rfl, _, hcs⟩ := Enc.rd_cell (E := eW) H.out rfl hx
        obtain ⟨x0, x1⟩ := wi_cells (show w.rangeAt b (o + k * 2) (eW.c x) from hcs)
        have hsx : x.f.size ≤ 281474976710656 := HS.out x (List.mem_of_getElem? hx)
        have HP2 : Hid (∀ j y, j < k + 1 → L[j]? = some y → y.f.size ≤ n + x.f.size) := Lib.hid (fun j y hj hy => by
          by_cases e : j = k
          · subst e
            rw [hx] at hy
            injection hy with hy
            subst hy
            omega
          · have := HP.out j y (by omega) hy
            omega)
        clear hx hcs
        go_wp2
        go_roundw
        case rel => exact ⟨n + x.f.size, k + 1, by go_num, by go_num, by omega, by trivial, by omega, by omega, HP2⟩
        case measure => simp [intOf]; omega
      · have hbig' : ¬ ((n : Int) < 1048576) := by omega
        go_wp2
        go_ret
        exact ⟨n, rfl, by rw [RR_eq]; omega, fun h => absurd h hbig, rfl⟩
    · have hlt' : ¬ ((k : Int) < (L.length : Int)) := by omega
      have HE : Hid (∀ x ∈ L, x.f.size ≤ n) := Lib.hid (fun x hx => by
        obtain ⟨j, hj⟩ := List.getElem?_of_mem hx
        exact HP.out j x (by have := (List.getElem?_eq_some_iff.1 hj).1; omega) hj)
      go_wp2
      go_ret
      exact ⟨n, rfl, by rw [RR_eq]; omega, fun _ => ⟨hn1, HE.out⟩, rfl⟩
set_option maxRecDepth 20000 in
set_option maxHeartbeats 1000000 in
theorem mweight_any (w : World) (v : Value) (L : List Msg) (Bd : Nat) (h : Rd w Bd 4 v L.length (eM.cells L)) (hl : L.length ≤ RR) (hs : ∀ x ∈ L, x.t.size ≤ RR ∧ x.p.size ≤ RR) :
    Calls Tryd.prog 25 #[v] w fun e w' => ∃ n : Nat, e = .returned (.int .i64 n) ∧ n ≤ L.length + 1048576 + 2 * RR ∧ (n < 1048576 → L.length ≤ n ∧ ∀ x ∈ L, x.t.size ≤ n ∧ x.p.size ≤ n) ∧ Below w.heap.size w w' := by
  obtain ⟨ao, cap, rfl, hc, hm⟩ := h.form
  have hm' : cap ≤ 9223372036854775807 := by unfold maxLen at hm; omega
  have H := Lib.hid h
  have HS := Lib.hid hs
  have hl2 : L.length ≤ 281474976710656 := hl
  clear h hm hs hl
  go_enter Tryd.func25, Tryd.ntmps25
  go_wp2
  go_loopw [3, 4] (fun s i wr => ∃ (n k : Nat), s = .int .i64 n ∧ i = .int .i64 k ∧ k ≤ L.length ∧ (∃ nd, wr = w.drewN nd) ∧ L.length ≤ n ∧ n ≤ L.length + 1048576 + 562949953421312 ∧ Hid (∀ j x, j < k → L[j]? = some x → x.t.size ≤ n ∧ x.p.size ≤ n)) (fun _ i _ => L.length - (intOf i).toNat)
  case atStart => exact ⟨L.length, 0, rfl, rfl, by omega, ⟨0, rfl⟩, by omega, by omega, Lib.hid (fun j x hj => by omega)⟩
  case round =>
    obtain ⟨n, k, rfl, rfl, hk, ⟨nd, rfl⟩, hn1, hn2, HP⟩ := hrel
    have hbd : Hid (Below w.heap.size w (w.drewN nd)) := Lib.hid (below_drewN (Below.refl w.heap.size w) nd)
    by_cases hlt : k < L.length
    · have hlt' : (k : Int) < (L.length : Int) := by omega
      by_cases hbig : n < 1048576
      · have hbig' : (n : Int) < 1048576 := by omega
        obtain ⟨x, hx⟩ : ∃ x, L[k]? = some x := ⟨_, List.getElem?_eq_getElem hlt⟩
        obtain ⟨b, o, rfl, _, hcs⟩ := Enc.rd_cell (E := eM) H.out rfl hx
        obtain ⟨x0, x1, x2, x3⟩ := msg_cells (show w.rangeAt b (o + k * 4) (eM.c x) from hcs)
        have hsx := HS.out x (List.mem_of_getElem? hx)
        have hs1 : x.t.size ≤ 281474976710656 := hsx.1
        have hs2 : x.p.size ≤ 281474976710656 := hsx.2
        have HP2 : Hid (∀ j y, j < k + 1 → L[j]? = some y → y.t.size ≤ n + x.t.size + x.p.size ∧ y.p.size ≤ n + x.t.size + x.p.size) := Lib.hid (fun j y hj hy => by
          by_cases e : j = k
          · subst e
            rw [hx] at hy
            injection hy with hy
            subst hy
            omega
          · have := HP.out j y (by omega) hy
            omega)
        clear hx hcs hsx
        have hwr1 : IntKind.i64.wrap ((n : Int) + (x.t.size : Int)) = (n : Int) + (x.t.size : Int) := IntWalk.i64_in _ ⟨by omega, by omega⟩
        have hwr2 : IntKind.i64.wrap ((n : Int) + (x.t.size : Int) + (x.p.size : Int)) = (n : Int) + (x.t.size : Int) + (x.p.size : Int) := IntWalk.i64_in _ ⟨by omega, by omega⟩
        go_wp2
        refine wp_region_held_drew (S := fun wx => wx.cell? ⟨b, o + k * 4, none⟩ = some (.string x.t) ∧ wx.cell? ⟨b, o + k * 4 + 1, none⟩ = some (.string x.p)) (by kernel_rfl) ⟨x0, x1⟩ (fun hHeld => ?_)
        refine tk 0 (by assumption) ?_
        (try simp only [Act.put, List.setIfInBounds_toArray, List.set_cons_zero, List.set_cons_succ])
        refine tk 1 (by assumption) ?_
        (try simp only [Act.put, List.setIfInBounds_toArray, List.set_cons_zero, List.set_cons_succ])
        refine tk 2 (by assumption) ?_
        (try simp only [Act.put, List.setIfInBounds_toArray, List.set_cons_zero, List.set_cons_succ])
        refine tk 3 (by assumption) ?_
        (try simp only [Act.put, List.setIfInBounds_toArray, List.set_cons_zero, List.set_cons_succ])
        refine tk 4 (by assumption) ?_
        (try simp only [Act.put, List.setIfInBounds_toArray, List.set_cons_zero, List.set_cons_succ])
        refine tk 5 (by assumption) ?_
        (try simp only [Act.put, List.setIfInBounds_toArray, List.set_cons_zero, List.set_cons_succ])
        refine tk 6 (by assumption) ?_
        (try simp only [Act.put, List.setIfInBounds_toArray, List.set_cons_zero, List.set_cons_succ])
        refine tk 7 (by assumption) ?_
        (try simp only [Act.put, List.setIfInBounds_toArray, List.set_cons_zero, List.set_cons_succ])
        refine tk 8 (by assumption) ?_
        (try simp only [Act.put, List.setIfInBounds_toArray, List.set_cons_zero, List.set_cons_succ])
        refine tk 9 (by assumption) ?_
        (try simp only [Act.put, List.setIfInBounds_toArray, List.set_cons_zero, List.set_cons_succ])
        refine tk 10 (by assumption) ?_
        (try simp only [Act.put, List.setIfInBounds_toArray, List.set_cons_zero, List.set_cons_succ])
        refine tk 11 (by assumption) ?_
        (try simp only [Act.put, List.setIfInBounds_toArray, List.set_cons_zero, List.set_cons_succ])
        refine tk 12 (by assumption) ?_
        (try simp only [Act.put, List.setIfInBounds_toArray, List.set_cons_zero, List.set_cons_succ])
        refine tk 13 (by assumption) ?_
        (try simp only [Act.put, List.setIfInBounds_toArray, List.set_cons_zero, List.set_cons_succ])
        refine tk 14 (by assumption) ?_
        (try simp only [Act.put, List.setIfInBounds_toArray, List.set_cons_zero, List.set_cons_succ])
        refine tk 15 (by assumption) ?_
        (try simp only [Act.put, List.setIfInBounds_toArray, List.set_cons_zero, List.set_cons_succ])
        refine wpAnyH_done (by kernel_rfl) ?_ _
        clear hHeld
        go_wp2
        go_roundw
        case rel => exact ⟨n + x.t.size + x.p.size, k + 1, by go_num, by go_num, by omega, ⟨nd + 1, rfl⟩, by omega, by omega, HP2⟩
        case measure => simp [intOf]; omega
      · have hbig' : ¬ ((n : Int) < 1048576) := by omega
        go_wp2
        go_ret
        exact ⟨n, rfl, by rw [RR_eq]; omega, fun h => absurd h hbig, hbd.out⟩
    · have hlt' : ¬ ((k : Int) < (L.length : Int)) := by omega
      have HE : Hid (∀ x ∈ L, x.t.size ≤ n ∧ x.p.size ≤ n) := Lib.hid (fun x hx => by
        obtain ⟨j, hj⟩ := List.getElem?_of_mem hx
        exact HP.out j x (by have := (List.getElem?_eq_some_iff.1 hj).1; omega) hj)
      go_wp2
      go_ret
      exact ⟨n, rfl, by rw [RR_eq]; omega, fun _ => ⟨hn1, HE.out⟩, hbd.out⟩
set_option maxRecDepth 20000 in
set_option maxHeartbeats 2000000 in
theorem obw_any (w : World) (v : Value) (a : OB) (h : OR w v a) (hl : a.F.length ≤ RR ∧ a.Q.length ≤ RR) (hs : (∀ x ∈ a.Q, x.t.size ≤ RR ∧ x.p.size ≤ RR) ∧ ∀ x ∈ a.F, x.m.t.size ≤ RR ∧ x.m.p.size ≤ RR) :
    Calls Tryd.prog 27 #[v] w fun e w' => ∃ n : Nat, e = .returned (.int .i64 n) ∧ n ≤ 6 * RR ∧ (n < 1048576 → (a.Q.length ≤ n ∧ ∀ x ∈ a.Q, x.t.size ≤ n ∧ x.p.size ≤ n) ∧ a.F.length ≤ n ∧ ∀ x ∈ a.F, x.m.t.size ≤ n ∧ x.m.p.size ≤ n) ∧ Below w.heap.size w w' := by
  obtain ⟨last, F, Q⟩ := a
  obtain ⟨fv, qv, rfl, hf, hq⟩ := h
  simp only at hf hq hl hs ⊢
  obtain ⟨fo, fc, rfl, _, hfm⟩ := hf.form
  obtain ⟨qo, qc, rfl, _, _⟩ := hq.form
  have hm' : fc ≤ 9223372036854775807 := by unfold maxLen at hfm; omega
  obtain ⟨wa, hwa⟩ : ∃ wa, w.alloc (.cells #[.int .i64 last, .slice fo F.length fc, .slice qo Q.length qc] 51) = wa := ⟨_, rfl⟩
  have hb0 : Below w.heap.size w wa := by rw [← hwa]; exact (Below.refl _ _).alloc (Nat.le_refl _) _
  have hW : Whole wa w.heap.size 51 [.int .i64 last, .slice fo F.length fc, .slice qo Q.length qc] := by rw [← hwa]; exact Whole.new w 51 _
  have HMW := Lib.hid (mweight_any wa _ Q w.heap.size (hq.below hb0) hl.2 hs.1)
  have HF := Lib.hid (fun wx (hx : Below wa.heap.size wa wx) => (hf.below hb0).below (hx.mono hb0.size))
  have HCL := Lib.hid (fun wx (hx : Below wa.heap.size wa wx) => (hW.belowH hx).three)
  have HS := Lib.hid hs.2
  have hl1 : F.length ≤ 281474976710656 := hl.1
  have hl2 : Q.length ≤ 281474976710656 := hl.2
  have HWA := Lib.hid hwa
  have HB0 := Lib.hid hb0
  obtain ⟨c0, c1, c2, _, _, _⟩ := hW.three
  clear hf hq hl hs hwa hb0 hW hfm
  go_enter Tryd.func27, Tryd.ntmps27
  go_upto_region 1 with fail
  rw [HWA.out]
  go_wp2_with (go_at_call 25; refine HMW.out.mono ?_; rintro e w1 ⟨n0, rfl, hn0, hn1, hb1⟩; have d1 := b_cell hb1 c1)
  have HN1 := Lib.hid hn1
  rw [RR_eq] at hn0
  clear hn1
  go_loopw [3, 4] (fun s i wr => ∃ (n k : Nat), s = .int .i64 n ∧ i = .int .i64 k ∧ k ≤ F.length ∧ Below wa.heap.size wa wr ∧ n0 ≤ n ∧ k ≤ n ∧ (n ≤ n0 ∨ n ≤ 1048576 + 562949953421312) ∧ Hid (∀ j x, j < k → F[j]? = some x → x.m.t.size ≤ n ∧ x.m.p.size ≤ n)) (fun _ i _ => F.length - (intOf i).toNat)
  case atStart => exact ⟨n0, 0, rfl, rfl, by omega, hb1, by omega, by omega, by omega, Lib.hid (fun j x hj => by omega)⟩
  case round =>
    clear d1 hb1
    obtain ⟨n, k, rfl, rfl, hk, hb, hm1, hm2, hm3, HP⟩ := hrel
    obtain ⟨d0, d1, d2, _, _, _⟩ := HCL.out _ hb
    by_cases hlt : k < F.length
    · have hlt' : (k : Int) < (F.length : Int) := by omega
      by_cases hbig : n < 1048576
      · have hbig' : (n : Int) < 1048576 := by omega
        obtain ⟨x, hx⟩ : ∃ x, F[k]? = some x := ⟨_, List.getElem?_eq_getElem hlt⟩
        obtain ⟨b, o, rfl, _, hcs⟩ := Enc.rd_cell (E := eF) (HF.out _ hb) rfl hx
        obtain ⟨x0, x1, x2, x3, x4, x5⟩ := fl_cells (show World.rangeAt _ b (o + k * 6) (eF.c x) from hcs)
        have hsx := HS.out x (List.mem_of_getElem? hx)
        have hs1 : x.m.t.size ≤ 281474976710656 := hsx.1
        have hs2 : x.m.p.size ≤ 281474976710656 := hsx.2
        have HP2 : Hid (∀ j y, j < k + 1 → F[j]? = some y → y.m.t.size ≤ n + 1 + x.m.t.size + x.m.p.size ∧ y.m.p.size ≤ n + 1 + x.m.t.size + x.m.p.size) := Lib.hid (fun j y hj hy => by
          by_cases e : j = k
          · subst e
            rw [hx] at hy
            injection hy with hy
            subst hy
            omega
          · have := HP.out j y (by omega) hy
            omega)
        have hwr0 : IntKind.i64.wrap ((n : Int) + 1) = (n : Int) + 1 := IntWalk.i64_in _ ⟨by omega, by omega⟩
        have hwr1 : IntKind.i64.wrap ((n : Int) + 1 + (x.m.t.size : Int)) = (n : Int) + 1 + (x.m.t.size : Int) := IntWalk.i64_in _ ⟨by omega, by omega⟩
        have hwr2 : IntKind.i64.wrap ((n : Int) + 1 + (x.m.t.size : Int) + (x.m.p.size : Int)) = (n : Int) + 1 + (x.m.t.size : Int) + (x.m.p.size : Int) := IntWalk.i64_in _ ⟨by omega, by omega⟩
        clear hx hcs hsx x0 x3 x4 x5
        go_wp2
        refine wp_region_held_drew (S := fun wx => wx.cell? ⟨w.heap.size, 1, none⟩ = some (.slice (some ⟨b, o, none⟩) F.length fc) ∧ wx.cell? ⟨b, o + k * 6 + 1, none⟩ = some (.string x.m.t) ∧ wx.cell? ⟨b, o + k * 6 + 2, none⟩ = some (.string x.m.p)) (by kernel_rfl) ⟨d1, x1, x2⟩ (fun hHeld => ?_)
        refine tk 0 (by assumption) ?_
        (try simp only [Act.put, List.setIfInBounds_toArray, List.set_cons_zero, List.set_cons_succ])
        refine tk 1 (by assumption) ?_
        (try simp only [Act.put, List.setIfInBounds_toArray, List.set_cons_zero, List.set_cons_succ])
        refine tk 2 (by assumption) ?_
        (try simp only [Act.put, List.setIfInBounds_toArray, List.set_cons_zero, List.set_cons_succ])
        refine tk 3 (by assumption) ?_
        (try simp only [Act.put, List.setIfInBounds_toArray, List.set_cons_zero, List.set_cons_succ])
        refine tk 4 (by assumption) ?_
        (try simp only [Act.put, List.setIfInBounds_toArray, List.set_cons_zero, List.set_cons_succ])
        refine tk 5 (by assumption) ?_
        (try simp only [Act.put, List.setIfInBounds_toArray, List.set_cons_zero, List.set_cons_succ])
        refine tk 6 (by assumption) ?_
        (try simp only [Act.put, List.setIfInBounds_toArray, List.set_cons_zero, List.set_cons_succ])
        refine tk 7 (by assumption) ?_
        (try simp only [Act.put, List.setIfInBounds_toArray, List.set_cons_zero, List.set_cons_succ])
        refine tk 8 (by assumption) ?_
        (try simp only [Act.put, List.setIfInBounds_toArray, List.set_cons_zero, List.set_cons_succ])
        refine tk 9 (by assumption) ?_
        (try simp only [Act.put, List.setIfInBounds_toArray, List.set_cons_zero, List.set_cons_succ])
        refine tk 10 (by assumption) ?_
        (try simp only [Act.put, List.setIfInBounds_toArray, List.set_cons_zero, List.set_cons_succ])
        refine tk 11 (by assumption) ?_
        (try simp only [Act.put, List.setIfInBounds_toArray, List.set_cons_zero, List.set_cons_succ])
        refine tk 12 (by assumption) ?_
        (try simp only [Act.put, List.setIfInBounds_toArray, List.set_cons_zero, List.set_cons_succ])
        refine tk 13 (by assumption) ?_
        (try simp only [Act.put, List.setIfInBounds_toArray, List.set_cons_zero, List.set_cons_succ])
        refine tk 14 (by assumption) ?_
        (try simp only [Act.put, List.setIfInBounds_toArray, List.set_cons_zero, List.set_cons_succ])
        refine tk 15 (by assumption) ?_
        (try simp only [Act.put, List.setIfInBounds_toArray, List.set_cons_zero, List.set_cons_succ])
        refine tk 16 (by assumption) ?_
        (try simp only [Act.put, List.setIfInBounds_toArray, List.set_cons_zero, List.set_cons_succ])
        refine tk 17 (by assumption) ?_
        (try simp only [Act.put, List.setIfInBounds_toArray, List.set_cons_zero, List.set_cons_succ])
        refine tk 18 (by assumption) ?_
        (try simp only [Act.put, List.setIfInBounds_toArray, List.set_cons_zero, List.set_cons_succ])
        refine tk 19 (by assumption) ?_
        (try simp only [Act.put, List.setIfInBounds_toArray, List.set_cons_zero, List.set_cons_succ])
        refine tk 20 (by assumption) ?_
        (try simp only [Act.put, List.setIfInBounds_toArray, List.set_cons_zero, List.set_cons_succ])
        refine wpAnyH_done (by kernel_rfl) ?_ _
        clear hHeld
        go_wp2
        go_roundw
        case rel => exact ⟨n + 1 + x.m.t.size + x.m.p.size, k + 1, by go_num, by go_num, by omega, hb.drew, by omega, by omega, by omega, HP2⟩
        case measure => simp [intOf]; omega
      · have hbig' : ¬ ((n : Int) < 1048576) := by omega
        go_wp2
        go_ret
        exact ⟨n, rfl, by rw [RR_eq]; omega, fun h => absurd h hbig, b_tr HB0.out hb⟩
    · have hlt' : ¬ ((k : Int) < (F.length : Int)) := by omega
      have HE : Hid (n < 1048576 → (Q.length ≤ n ∧ ∀ x ∈ Q, x.t.size ≤ n ∧ x.p.size ≤ n) ∧ F.length ≤ n ∧ ∀ x ∈ F, x.m.t.size ≤ n ∧ x.m.p.size ≤ n) := Lib.hid (fun hn => by
        have h0 := HN1.out (by omega)
        refine ⟨⟨by omega, fun x hx => by have := h0.2 x hx; omega⟩, by omega, fun x hx => ?_⟩
        obtain ⟨j, hj⟩ := List.getElem?_of_mem hx
        exact HP.out j x (by have := (List.getElem?_eq_some_iff.1 hj).1; omega) hj)
      go_wp2
      go_ret
      exact ⟨n, rfl, by rw [RR_eq]; omega, HE.out, b_tr HB0.out hb⟩
end Go.Proofs.YtlehkaibbkblkaaDoor
