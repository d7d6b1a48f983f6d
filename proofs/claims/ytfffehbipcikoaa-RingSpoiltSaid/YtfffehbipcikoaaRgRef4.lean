/- The page's ring: Used, where it is taken. -/




import Derived.Test.YtfffehbipcikoaaRgRef3
import Derived.Outline
namespace Go.Proofs.Ytfffehbipcikoaa
open Go.RowKit

set_option maxRecDepth 20000 in
set_option maxHeartbeats 4000000 in
theorem rUsed_ok (w : World) (R bt bc bw m d q : Nat) (added last : Nat) (tk : List Bool) (ch : List (List Nat)) (wr : List Int) (F : List Nat) (B : List UInt8) (hd nn : Nat) (k : Int) (l : List Nat) (x : Int) (h : RefAt w R bt bc bw m q false added last tk ch wr F) (hM : MemAt 52 w m d B) (hB : B.length ≤ 65536) (hr : last ≤ 65535) (hq : 1 ≤ q ∧ q ≤ 64)
    (hk : aheadV B (usedAt q + 2) last = k) (hk0 : k ≠ 0) (hhd : usedHead B q last = (hd : Nat)) (hnn : usedLen B q last = (nn : Nat))
    (h1 : k ≤ (outN ch : Int)) (h2 : hd < q) (h3 : ch[hd]? = some l) (h4 : 0 < l.length) (h5 : wr[hd]? = some x) (h6 : (nn : Int) ≤ x) (h7 : ∀ y ∈ l, y < q) :
    Calls Try.prog 76 #[.pointer (some ⟨R, 0, none⟩)] w fun e w' => e = .returned (.tuple #[.int .i64 (hd : Nat), .int .i64 (nn : Nat), .bool true, .int .i64 0]) ∧ RefAt w' R bt bc bw m q false added ((last + 1) % 65536) (setAll tk l false) (ch.set hd []) wr F ∧ Left [R, bt, bc] w w' := by
  have H1 := Lib.hid h1
  have H3 := Lib.hid h3
  have H5 := Lib.hid h5
  have H7 := Lib.hid h7
  clear h1 h3 h5 h7
  obtain ⟨w0, hw0⟩ : ∃ w0, w0 = w := ⟨_, rfl⟩
  have HLe : Hid (Left [] w0 w) := Lib.hid (hw0 ▸ Left.refl _ _)
  have HW0 := Lib.hid hw0
  obtain ⟨u, hu⟩ : ∃ u, usedAt (q : Nat) = u := ⟨_, rfl⟩
  have hu1 : 0 ≤ u ∧ u ≤ 2000 := by rw [← hu]; unfold usedAt; omega
  have c0 : w.cell? ⟨R, 0, none⟩ = some (.pointer (some ⟨m, 0, none⟩)) := by rw [h.head.cell]; rfl
  have c1 : w.cell? ⟨R, 1, none⟩ = some (.int .i64 q) := by rw [h.head.cell]; rfl
  have c3 : w.cell? ⟨R, 3, none⟩ = some (.int .i64 u) := by rw [h.head.cell, ← hu]; rfl
  have c5 : w.cell? ⟨R, 5, none⟩ = some (.int .i64 last) := by rw [h.head.cell]; rfl
  have c6 : w.cell? ⟨R, 6, none⟩ = some (.slice (some ⟨bt, 0, none⟩) q q) := by rw [h.head.cell]; rfl
  have c7 : w.cell? ⟨R, 7, none⟩ = some (.slice (some ⟨bc, 0, none⟩) q q) := by rw [h.head.cell]; rfl
  have c8 : w.cell? ⟨R, 8, none⟩ = some (.slice (some ⟨bw, 0, none⟩) q q) := by rw [h.head.cell]; rfl
  have c9 : w.cell? ⟨R, 9, none⟩ = some (.bool false) := by rw [h.head.cell]; rfl
  have HM := Lib.hid hM
  have HR := Lib.hid h
  have hg := getV_lt B (u + 2) 2
  have hg1 := hg.1
  have hg2 := hg.2.2 (by omega)
  obtain ⟨gv, hgv⟩ : ∃ gv, getV B (u + 2) 2 = gv := ⟨_, rfl⟩
  rw [hgv] at hg1 hg2
  rw [hu] at hk
  have hah : Hid ((gv - last) % 65536 = k) := Lib.hid (by rw [← hk]; unfold aheadV; rw [hgv]; omega)
  have HGV := Lib.hid hgv
  have hwg : IntKind.i64.wrap (gv - last) = gv - last := IntWalk.i64_in _ ⟨by omega, by omega⟩
  have hwu : IntKind.i64.wrap (u + 2) = u + 2 := IntWalk.i64_in _ ⟨by omega, by omega⟩
  have hkb : 0 ≤ k ∧ k < 65536 := by rw [← hk]; unfold aheadV; omega
  obtain ⟨hkb1, hkb2⟩ := hkb
  obtain ⟨rr, hrr⟩ : ∃ rr : Nat, last % q = rr := ⟨_, rfl⟩
  have hrr2 : rr ≤ 63 := by have := Nat.mod_lt last hq.1; omega
  have htm : ((last : Int)).tmod (q : Int) = (rr : Int) := by rw [← hrr]; rfl
  have hq0 : ¬ q = 0 := by omega
  have hpos : usedPos (q : Nat) last = u + 4 + 8 * (rr : Int) := by unfold usedPos; rw [hu]; simp [hrr]
  unfold usedHead at hhd
  unfold usedLen at hnn
  rw [hpos] at hhd hnn
  have HHD := Lib.hid hhd
  have HNN := Lib.hid hnn
  have hb1 := getV_lt B (u + 4 + 8 * (rr : Int)) 4
  have hb2 := getV_lt B (u + 4 + 8 * (rr : Int) + 4) 4
  rw [hhd] at hb1
  rw [hnn] at hb2
  have hd2 := hb1.2.1 (by omega)
  have hn2 := hb2.2.1 (by omega)
  have HG2 : Hid (∀ n, Calls Try.prog 91 #[.pointer (some ⟨R, 0, none⟩), .int .i64 (u + 2), .int .i64 2] (w.drewN n) fun e w' => e = .returned (.int .i64 gv) ∧ w' = w.drewN n) := Lib.hid (fun n => by
    have := rget_small (w.drewN n) R m d B (u + 2) 2 c0 (HM.out.drewN n) hB (by omega)
    rw [hgv] at this
    exact this)
  have HU := Lib.hid hu
  obtain ⟨on, hon⟩ : ∃ on, outN ch = on := ⟨_, rfl⟩
  have HON := Lib.hid hon
  have hon2 : on ≤ 64 := by have := outN_le ch; rw [h.len.2.1] at this; omega
  clear h hM hu hk hg hgv hrr hpos hhd hnn hb1 hb2 hw0 hon
  go_enter Try.func76, Try.ntmps76
  go_wp2_with fail
  go_quiet ((first | (go_at_call 91; exact Calls.quiet_of_same (HG2.out _)) | (go_at_call 90; exact Calls.quiet_of_same (rMod_any _ (gv - last) (by omega) (by omega)))))
  clear hwg hwu HG2 c9
  replace c0 : (w.drewN nq).cell? ⟨R, 0, none⟩ = some (.pointer (some ⟨m, 0, none⟩)) := c0
  replace c1 : (w.drewN nq).cell? ⟨R, 1, none⟩ = some (.int .i64 q) := c1
  replace c3 : (w.drewN nq).cell? ⟨R, 3, none⟩ = some (.int .i64 u) := c3
  replace c5 : (w.drewN nq).cell? ⟨R, 5, none⟩ = some (.int .i64 last) := c5
  replace c6 : (w.drewN nq).cell? ⟨R, 6, none⟩ = some (.slice (some ⟨bt, 0, none⟩) q q) := c6
  replace c7 : (w.drewN nq).cell? ⟨R, 7, none⟩ = some (.slice (some ⟨bc, 0, none⟩) q q) := c7
  replace c8 : (w.drewN nq).cell? ⟨R, 8, none⟩ = some (.slice (some ⟨bw, 0, none⟩) q q) := c8
  replace HM : Hid (MemAt 52 (w.drewN nq) m d B) := Lib.hid (HM.out.drewN nq)
  replace HR : Hid (RefAt (w.drewN nq) R bt bc bw m q false added last tk ch wr F) := Lib.hid (HR.out.drewN nq)
  replace HLe : Hid (Left [] w0 (w.drewN nq)) := Lib.hid (HLe.out.drewN nq)
  generalize w.drewN nq = w1 at c0 c1 c3 c5 c6 c7 c8 HM HR HLe ⊢
  rw [hah.out]
  have hk0' : (k == 0) = false := beq_eq_false_iff_ne.2 hk0
  have hw2 : IntKind.i64.wrap (8 * (rr : Int)) = 8 * (rr : Int) := IntWalk.i64_in _ ⟨by omega, by omega⟩
  have hw1 : IntKind.i64.wrap (u + 4) = u + 4 := IntWalk.i64_in _ ⟨by omega, by omega⟩
  have hw3 : IntKind.i64.wrap (u + 4 + 8 * (rr : Int)) = u + 4 + 8 * (rr : Int) := IntWalk.i64_in _ ⟨by omega, by omega⟩
  go_wp2_with fail
  go_quiet (fail)
  clear hw1 hw2 hw3 htm
  replace c0 : (w1.drewN nq).cell? ⟨R, 0, none⟩ = some (.pointer (some ⟨m, 0, none⟩)) := c0
  replace c1 : (w1.drewN nq).cell? ⟨R, 1, none⟩ = some (.int .i64 q) := c1
  replace c3 : (w1.drewN nq).cell? ⟨R, 3, none⟩ = some (.int .i64 u) := c3
  replace c5 : (w1.drewN nq).cell? ⟨R, 5, none⟩ = some (.int .i64 last) := c5
  replace c6 : (w1.drewN nq).cell? ⟨R, 6, none⟩ = some (.slice (some ⟨bt, 0, none⟩) q q) := c6
  replace c7 : (w1.drewN nq).cell? ⟨R, 7, none⟩ = some (.slice (some ⟨bc, 0, none⟩) q q) := c7
  replace c8 : (w1.drewN nq).cell? ⟨R, 8, none⟩ = some (.slice (some ⟨bw, 0, none⟩) q q) := c8
  replace HM : Hid (MemAt 52 (w1.drewN nq) m d B) := Lib.hid (HM.out.drewN nq)
  replace HR : Hid (RefAt (w1.drewN nq) R bt bc bw m q false added last tk ch wr F) := Lib.hid (HR.out.drewN nq)
  replace HLe : Hid (Left [] w0 (w1.drewN nq)) := Lib.hid (HLe.out.drewN nq)
  generalize w1.drewN nq = w2 at c0 c1 c3 c5 c6 c7 c8 HM HR HLe ⊢
  have HG4 : Hid (Calls Try.prog 91 #[.pointer (some ⟨R, 0, none⟩), .int .i64 (u + 4 + 8 * (rr : Int)), .int .i64 4] w2 fun e w' => e = .returned (.int .i64 (hd : Nat)) ∧ w2 = w') := Lib.hid (by
    refine (rget_small w2 R m d B (u + 4 + 8 * (rr : Int)) 4 c0 HM.out hB (by omega)).mono fun e w' ⟨h1, h2⟩ => ⟨?_, h2.symm⟩
    rw [h1, HHD.out])
  have HG5 : Hid (Calls Try.prog 91 #[.pointer (some ⟨R, 0, none⟩), .int .i64 (u + 4 + 8 * (rr : Int) + 4), .int .i64 4] w2 fun e w' => e = .returned (.int .i64 (nn : Nat)) ∧ w2 = w') := Lib.hid (by
    refine (rget_small w2 R m d B (u + 4 + 8 * (rr : Int) + 4) 4 c0 HM.out hB (by omega)).mono fun e w' ⟨h1, h2⟩ => ⟨?_, h2.symm⟩
    rw [h1, HNN.out])
  have HO : Hid (Calls Try.prog 92 #[.pointer (some ⟨R, 0, none⟩)] w2 fun e w' => e = .returned (.int .i64 (on : Nat)) ∧ w2 = w') := Lib.hid (by
    refine (rout_any _ _ _ _ _ _ _ _ _ _ _ _ _ _ HR.out hq.2).mono fun e w' ⟨h1, h2⟩ => ⟨?_, h2.symm⟩
    rw [h1, HON.out])
  go_wp2_with fail
  refine HG4.out.mono ?_
  rintro e w' ⟨rfl, rfl⟩
  go_wp2_with fail
  refine HG5.out.mono ?_
  rintro e w' ⟨rfl, rfl⟩
  go_wp2_with fail
  refine HO.out.mono ?_
  rintro e w' ⟨rfl, rfl⟩
  clear HG4 HG5 HO
  have hA : ¬ (on : Int) < k := by have := H1.out; rw [HON.out] at this; omega
  have hC1 : (hd : Int) < (q : Int) := by omega
  have hC2 : ¬ (q : Int) ≤ (hd : Int) := by omega
  have hC3 : (0 : Int) ≤ (hd : Int) := by omega
  obtain ⟨C, hCw, hCr⟩ := HR.out.chain
  obtain ⟨v, hv, hO⟩ := hCr.at_ hd l H3.out
  obtain ⟨ao, cap, rfl, hcap, hm⟩ := (Rd.of_own hO).form
  obtain ⟨g, cap', hv', _, hgl⟩ := own_form' hO h4
  injection hv' with e1 e2 e3
  subst e1
  have cch : w2.cell? ⟨bc, hd, none⟩ = some (.slice (some ⟨g, 0, none⟩) l.length cap) := by rw [hCw.cell]; exact hv
  have cwr : w2.cell? ⟨bw, hd, none⟩ = some (.int .i64 x) := by rw [HR.out.writes.cell, List.getElem?_map, H5.out]; rfl
  have hlm : l.length ≤ 9223372036854775807 := by unfold maxLen at hm; omega
  have hl0 : ((l.length : Int) == 0) = false := beq_eq_false_iff_ne.2 (by omega)
  have hC4 : ¬ q ≤ hd := by omega
  have hx1 : ¬ x < (nn : Int) := by omega
  have hlne : l ≠ [] := by intro e; rw [e] at h4; simp at h4
  obtain ⟨n1, n2, n3, n4, n5, n6⟩ := HR.out.nes
  have HO := Lib.hid hO
  have HC := Lib.hid hCw
  have HCr := Lib.hid hCr
  have HV := Lib.hid hv
  have hgF : g ≠ bt ∧ g ≠ bc ∧ g ≠ R := by
    obtain ⟨v', hv2, _, hF⟩ := hCr.at2 hd l H3.out
    rw [hv] at hv2
    injection hv2 with hv2
    subst hv2
    have := HR.out.apart g (hF g rfl)
    exact ⟨this.2.1, this.2.2.1, this.1⟩
  obtain ⟨hgb, hgc, hgR⟩ := hgF
  clear hCw hCr hv hO hcap hm e2 e3 hgl
  have hT0 := Lib.hid HR.out.taken
  have ftk := hT0.out.free
  go_wp2
  go_loopw [10] (fun i w' => ∃ j : Nat, j ≤ l.length ∧ i = .int .i64 j ∧ Whole w' bt 4 ((setAll tk (l.take j) false).map (.bool ·)) ∧ Left [bt] w2 w') (fun i _ => l.length - (intOf i).toNat)
  case atStart => exact ⟨0, by omega, rfl, hT0.out, Left.refl _ _⟩
  case round =>
    obtain ⟨j, hj, rfl, hSj, hLj⟩ := hrel
    have HSj := Lib.hid hSj
    have HLj := Lib.hid hLj
    clear hSj hLj
    have e6 := cell_left' c6 HLj.out (by simp [n1])
    have e7 := cell_left' c7 HLj.out (by simp [n1])
    have ech := cell_left' cch HLj.out (by simp [n4.symm])
    clear c0 c1 c3 c6 c7 c8 cch cwr
    by_cases hjl : j < l.length
    · obtain ⟨y, hyj⟩ : ∃ y, l[j]? = some y := ⟨_, List.getElem?_eq_getElem hjl⟩
      have HY := Lib.hid hyj
      have hyb : y < q := H7.out y (List.mem_of_getElem? hyj)
      have hcj : wr.cell? ⟨g, j, none⟩ = some (.int .i64 y) := by
        have h0 := HO.out.cellAt j (by omega)
        have : w2.cell? ⟨g, j, none⟩ = some (.int .i64 y) := by
          rw [h0, i64s, List.getElem?_map, hyj]
          rfl
        exact cell_left' this HLj.out (by simp [hgb])
      have hcx : ∃ bv, wr.cell? ⟨bt, y, none⟩ = some (.bool bv) := by
        obtain ⟨bv, hbv⟩ : ∃ bv, (setAll tk (l.take j) false)[y]? = some bv := ⟨_, List.getElem?_eq_getElem (by rw [setAll_length, HR.out.len.1]; exact hyb)⟩
        exact ⟨bv, by rw [HSj.out.cell, List.getElem?_map, hbv]; rfl⟩
      obtain ⟨bv, hcx⟩ := hcx
      have hfx := HSj.out.free y
      have b1 : (0 : Int) ≤ (j : Int) := by omega
      have b2 : (j : Int) < (l.length : Int) := by omega
      have b3 : (0 : Int) ≤ (y : Int) := by omega
      have b4 : (y : Int) < (q : Int) := by omega
      clear hyj
      go_wp2
      refine wp_region_held_drew (S := fun wx => wx.cell? ⟨R, 6, none⟩ = some (.slice (some ⟨bt, 0, none⟩) q q) ∧ wx.cell? ⟨R, 7, none⟩ = some (.slice (some ⟨bc, 0, none⟩) q q) ∧ wx.cell? ⟨bc, hd, none⟩ = some (.slice (some ⟨g, 0, none⟩) l.length cap) ∧ wx.cell? ⟨g, j, none⟩ = some (.int .i64 y)) (by kernel_rfl) ⟨e6, e7, ech, hcj⟩ (fun hHeld => ?_)
      refine take_h 0 ⟨?_, ?_, ?_, by kernel_rfl, by kernel_rfl, by kernel_rfl, ?_, ?_, by assumption, ?_⟩
      rotate_left 2
      · (simp only [List.getElem?_toArray, List.getElem?_cons_zero]; exact rfl)
      · exact fun _ _ _ h => h
      · first
          | (refine Or.inr ⟨by rfl, ?_⟩; exact rfl)
          | (refine Or.inl ⟨by rfl, ?_⟩
             intro w hSw
             (try dsimp only at hSw)
             (try go_split_ands)
             go_simp
             (first | done | with_reducible rfl))
      try simp only [Act.put, List.setIfInBounds_toArray, List.set_cons_zero, List.set_cons_succ]
      refine take_h 1 ⟨?_, ?_, ?_, by kernel_rfl, by kernel_rfl, by kernel_rfl, ?_, ?_, by assumption, ?_⟩
      rotate_left 2
      · (simp only [List.getElem?_toArray, List.getElem?_cons_succ, List.getElem?_cons_zero]; exact rfl)
      · exact fun _ _ _ h => h
      · first
          | (refine Or.inr ⟨by rfl, ?_⟩; exact rfl)
          | (refine Or.inl ⟨by rfl, ?_⟩
             intro w hSw
             (try dsimp only at hSw)
             (try go_split_ands)
             go_simp
             (first | done | with_reducible rfl))
      try simp only [Act.put, List.setIfInBounds_toArray, List.set_cons_zero, List.set_cons_succ]
      refine take_h 2 ⟨?_, ?_, ?_, by kernel_rfl, by kernel_rfl, by kernel_rfl, ?_, ?_, by assumption, ?_⟩
      rotate_left 2
      · (simp only [List.getElem?_toArray, List.getElem?_cons_succ, List.getElem?_cons_zero]; exact rfl)
      · exact fun _ _ _ h => h
      · first
          | (refine Or.inr ⟨by rfl, ?_⟩; exact rfl)
          | (refine Or.inl ⟨by rfl, ?_⟩
             intro w hSw
             (try dsimp only at hSw)
             (try go_split_ands)
             go_simp
             (first | done | with_reducible rfl))
      try simp only [Act.put, List.setIfInBounds_toArray, List.set_cons_zero, List.set_cons_succ]
      refine take_h 3 ⟨?_, ?_, ?_, by kernel_rfl, by kernel_rfl, by kernel_rfl, ?_, ?_, by assumption, ?_⟩
      rotate_left 2
      · (simp only [List.getElem?_toArray, List.getElem?_cons_succ, List.getElem?_cons_zero]; exact rfl)
      · exact fun _ _ _ h => h
      · first
          | (refine Or.inr ⟨by rfl, ?_⟩; exact rfl)
          | (refine Or.inl ⟨by rfl, ?_⟩
             intro w hSw
             (try dsimp only at hSw)
             (try go_split_ands)
             go_simp
             (first | done | with_reducible rfl))
      try simp only [Act.put, List.setIfInBounds_toArray, List.set_cons_zero, List.set_cons_succ]
      refine take_h 4 ⟨?_, ?_, ?_, by kernel_rfl, by kernel_rfl, by kernel_rfl, ?_, ?_, by assumption, ?_⟩
      rotate_left 2
      · (simp only [List.getElem?_toArray, List.getElem?_cons_succ, List.getElem?_cons_zero]; exact rfl)
      · exact fun _ _ _ h => h
      · first
          | (refine Or.inr ⟨by rfl, ?_⟩; exact rfl)
          | (refine Or.inl ⟨by rfl, ?_⟩
             intro w hSw
             (try dsimp only at hSw)
             (try go_split_ands)
             go_simp
             (first | done | with_reducible rfl))
      try simp only [Act.put, List.setIfInBounds_toArray, List.set_cons_zero, List.set_cons_succ]
      refine take_h 5 ⟨?_, ?_, ?_, by kernel_rfl, by kernel_rfl, by kernel_rfl, ?_, ?_, by assumption, ?_⟩
      rotate_left 2
      · (simp only [List.getElem?_toArray, List.getElem?_cons_succ, List.getElem?_cons_zero]; exact rfl)
      · exact fun _ _ _ h => h
      · first
          | (refine Or.inr ⟨by rfl, ?_⟩; exact rfl)
          | (refine Or.inl ⟨by rfl, ?_⟩
             intro w hSw
             (try dsimp only at hSw)
             (try go_split_ands)
             go_simp
             (first | done | with_reducible rfl))
      try simp only [Act.put, List.setIfInBounds_toArray, List.set_cons_zero, List.set_cons_succ]
      refine take_h 6 ⟨?_, ?_, ?_, by kernel_rfl, by kernel_rfl, by kernel_rfl, ?_, ?_, by assumption, ?_⟩
      rotate_left 2
      · (simp only [List.getElem?_toArray, List.getElem?_cons_succ, List.getElem?_cons_zero]; exact rfl)
      · exact fun _ _ _ h => h
      · first
          | (refine Or.inr ⟨by rfl, ?_⟩; exact rfl)
          | (refine Or.inl ⟨by rfl, ?_⟩
             intro w hSw
             (try dsimp only at hSw)
             (try go_split_ands)
             go_simp
             (first | done | with_reducible rfl))
      try simp only [Act.put, List.setIfInBounds_toArray, List.set_cons_zero, List.set_cons_succ]
      refine take_h 7 ⟨?_, ?_, ?_, by kernel_rfl, by kernel_rfl, by kernel_rfl, ?_, ?_, by assumption, ?_⟩
      rotate_left 2
      · (simp only [List.getElem?_toArray, List.getElem?_cons_succ, List.getElem?_cons_zero]; exact rfl)
      · exact fun _ _ _ h => h
      · first
          | (refine Or.inr ⟨by rfl, ?_⟩; exact rfl)
          | (refine Or.inl ⟨by rfl, ?_⟩
             intro w hSw
             (try dsimp only at hSw)
             (try go_split_ands)
             go_simp
             (first | done | with_reducible rfl))
      try simp only [Act.put, List.setIfInBounds_toArray, List.set_cons_zero, List.set_cons_succ]
      refine take_h 8 ⟨?_, ?_, ?_, by kernel_rfl, by kernel_rfl, by kernel_rfl, ?_, ?_, by assumption, ?_⟩
      rotate_left 2
      · (simp only [List.getElem?_toArray, List.getElem?_cons_succ, List.getElem?_cons_zero]; exact rfl)
      · exact fun _ _ _ h => h
      · first
          | (refine Or.inr ⟨by rfl, ?_⟩; exact rfl)
          | (refine Or.inl ⟨by rfl, ?_⟩
             intro w hSw
             (try dsimp only at hSw)
             (try go_split_ands)
             go_simp
             (first | done | with_reducible rfl))
      try simp only [Act.put, List.setIfInBounds_toArray, List.set_cons_zero, List.set_cons_succ]
      refine take_h 9 ⟨?_, ?_, ?_, by kernel_rfl, by kernel_rfl, by kernel_rfl, ?_, ?_, by assumption, ?_⟩
      rotate_left 2
      · (simp only [List.getElem?_toArray, List.getElem?_cons_succ, List.getElem?_cons_zero]; exact rfl)
      · exact fun _ _ _ h => h
      · first
          | (refine Or.inr ⟨by rfl, ?_⟩; exact rfl)
          | (refine Or.inl ⟨by rfl, ?_⟩
             intro w hSw
             (try dsimp only at hSw)
             (try go_split_ands)
             go_simp
             (first | done | with_reducible rfl))
      try simp only [Act.put, List.setIfInBounds_toArray, List.set_cons_zero, List.set_cons_succ]
      refine take_h 10 ⟨?_, ?_, ?_, by kernel_rfl, by kernel_rfl, by kernel_rfl, ?_, ?_, by assumption, ?_⟩
      rotate_left 2
      · (simp only [List.getElem?_toArray, List.getElem?_cons_succ, List.getElem?_cons_zero]; exact rfl)
      · exact fun _ _ _ h => h
      · first
          | (refine Or.inr ⟨by rfl, ?_⟩; exact rfl)
          | (refine Or.inl ⟨by rfl, ?_⟩
             intro w hSw
             (try dsimp only at hSw)
             (try go_split_ands)
             go_simp
             (first | done | with_reducible rfl))
      try simp only [Act.put, List.setIfInBounds_toArray, List.set_cons_zero, List.set_cons_succ]
      refine take_h 11 ⟨?_, ?_, ?_, by kernel_rfl, by kernel_rfl, by kernel_rfl, ?_, ?_, by assumption, ?_⟩
      rotate_left 2
      · (simp only [List.getElem?_toArray, List.getElem?_cons_succ, List.getElem?_cons_zero]; exact rfl)
      · exact fun _ _ _ h => h
      · first
          | (refine Or.inr ⟨by rfl, ?_⟩; exact rfl)
          | (refine Or.inl ⟨by rfl, ?_⟩
             intro w hSw
             (try dsimp only at hSw)
             (try go_split_ands)
             go_simp
             (first | done | with_reducible rfl))
      try simp only [Act.put, List.setIfInBounds_toArray, List.set_cons_zero, List.set_cons_succ]
      refine take_h 12 ⟨?_, ?_, ?_, by kernel_rfl, by kernel_rfl, by kernel_rfl, ?_, ?_, by assumption, ?_⟩
      rotate_left 2
      · (simp only [List.getElem?_toArray, List.getElem?_cons_succ, List.getElem?_cons_zero]; exact rfl)
      · exact fun _ _ _ h => h
      · first
          | (refine Or.inr ⟨by rfl, ?_⟩; exact rfl)
          | (refine Or.inl ⟨by rfl, ?_⟩
             intro w hSw
             (try dsimp only at hSw)
             (try go_split_ands)
             go_simp
             (first | done | with_reducible rfl))
      try simp only [Act.put, List.setIfInBounds_toArray, List.set_cons_zero, List.set_cons_succ]
      refine take_h 13 ⟨?_, ?_, ?_, by kernel_rfl, by kernel_rfl, by kernel_rfl, ?_, ?_, by assumption, ?_⟩
      rotate_left 2
      · (simp only [List.getElem?_toArray, List.getElem?_cons_succ, List.getElem?_cons_zero]; exact rfl)
      · exact fun _ _ _ h => h
      · first
          | (refine Or.inr ⟨by rfl, ?_⟩; exact rfl)
          | (refine Or.inl ⟨by rfl, ?_⟩
             intro w hSw
             (try dsimp only at hSw)
             (try go_split_ands)
             go_simp
             (first | done | with_reducible rfl))
      try simp only [Act.put, List.setIfInBounds_toArray, List.set_cons_zero, List.set_cons_succ]
      refine take_h 14 ⟨?_, ?_, ?_, by kernel_rfl, by kernel_rfl, by kernel_rfl, ?_, ?_, by assumption, ?_⟩
      rotate_left 2
      · (simp only [List.getElem?_toArray, List.getElem?_cons_succ, List.getElem?_cons_zero]; exact rfl)
      · exact fun _ _ _ h => h
      · first
          | (refine Or.inr ⟨by rfl, ?_⟩; exact rfl)
          | (refine Or.inl ⟨by rfl, ?_⟩
             intro w hSw
             (try dsimp only at hSw)
             (try go_split_ands)
             go_simp
             (first | done | with_reducible rfl))
      try simp only [Act.put, List.setIfInBounds_toArray, List.set_cons_zero, List.set_cons_succ]
      refine wpAnyH_ready (rs := [15]) (by kernel_rfl) (by simp) ?_
      refine call_h 15 ⟨?_, ?_, fun K hK => ?_⟩
      rotate_left 1
      · (simp only [List.getElem?_toArray, List.getElem?_cons_succ, List.getElem?_cons_zero]; exact rfl)
      go_simp
      have hLn : Left [bt] wr ((wr.setCell ⟨bt, y, none⟩ (.bool false)).drew) := ((Left.refl _ _).setCell (Or.inl (by simp)) _).drew
      refine hK.out _ _ ⟨cell_left' e6 hLn (by simp [n1]), cell_left' e7 hLn (by simp [n1]), cell_left' ech hLn (by simp [n4.symm]), cell_left' hcj hLn (by simp [hgb])⟩ (fun hHeld => ?_)
      clear hK K
      (try simp only [Act.put, List.setIfInBounds_toArray, List.set_cons_zero, List.set_cons_succ])
      refine wpAnyH_done (by kernel_rfl) ?_ _
      clear hHeld
      go_wp2
      go_roundw
      case rel =>
        refine ⟨j + 1, by omega, by go_num, ?_, (HLj.out.setCell (Or.inl (by simp)) _).drew⟩
        have e1 : l.take (j + 1) = l.take j ++ [y] := by rw [List.take_add_one, HY.out]; rfl
        rw [e1, setAll_snoc, List.map_set]
        exact HSj.out.put y (.bool false)
      case measure => simp [intOf]; omega
    · have hjL : j = l.length := by omega
      subst hjL
      rw [List.take_length] at HSj
      have HW2 := Lib.hid (HR.out.head.left HLj.out (by simp [n1]))
      have e5 := cell_left' c5 HLj.out (by simp [n1])
      have hCw := HC.out.left HLj.out (by simp [n4.symm])
      have fch := hCw.free hd
      have f5 := HW2.out.free 5
      have HC2 := Lib.hid hCw
      clear hCw c5
      go_wp2
      have hwt : ((last : Int) + 1) % 65536 = (((last + 1) % 65536 : Nat) : Int) := by omega
      rw [hwt]
      ((try simp only [Exit.inBlock, Exit.then]); refine bodyPost_ret (results_tmp4 rfl _ _ _) rfl ?_)
      have hlc : Left [bc] wr (wr.setCell ⟨bc, hd, none⟩ (.slice none 0 0)) := (Left.refl _ _).setCell (Or.inl (by simp)) _
      have hlr : Left [R] (wr.setCell ⟨bc, hd, none⟩ (.slice none 0 0)) ((wr.setCell ⟨bc, hd, none⟩ (.slice none 0 0)).setCell ⟨R, 5, none⟩ (.int .i64 ((last + 1) % 65536 : Nat))) := (Left.refl _ _).setCell (Or.inl (by simp)) _
      have hall : Left [R, bt, bc] w2 ((wr.setCell ⟨bc, hd, none⟩ (.slice none 0 0)).setCell ⟨R, 5, none⟩ (.int .i64 ((last + 1) % 65536 : Nat))) :=
        ((HLj.out.mono (T := [R, bt, bc]) (by simp)).trans (T := [bc]) hlc (by simp)).trans (T := [R]) hlr (by simp)
      have hF := HR.out.apart
      refine ⟨rfl, ⟨?_, ?_, ⟨C.set hd (.slice none 0 0), ?_, ?_⟩, ?_, ?_, hF⟩, ?_⟩
      · exact (HW2.out.left hlc (by simp [n2])).put 5 _
      · exact (HSj.out.left hlc (by simp [n4])).left hlr (by simp [n1.symm])
      · exact (HC2.out.put hd _).left hlr (by simp [n2.symm])
      · refine RowsI.left hlr (by simp; exact fun hm => (hF R hm).1 rfl) (RowsI.set_ ?_ hd _ [] ⟨rfl, .inl ⟨rfl, rfl⟩⟩ (by intro k hk; cases hk))
        exact RowsI.left hlc (by simp; exact fun hm => (hF bc hm).2.2.1 rfl) (RowsI.left HLj.out (by simp; exact fun hm => (hF bt hm).2.1 rfl) HCr.out)
      · exact ((HR.out.writes.left HLj.out (by simp [n5.symm])).left hlc (by simp [n6.symm])).left hlr (by simp [n3.symm])
      · have := HR.out.len
        rw [setAll_length, List.length_set]
        exact this
      · have := (HLe.out.mono (T := [R, bt, bc]) (by simp)).trans (T := [R, bt, bc]) hall (by simp)
        rwa [HW0.out] at this
end Go.Proofs.Ytfffehbipcikoaa
