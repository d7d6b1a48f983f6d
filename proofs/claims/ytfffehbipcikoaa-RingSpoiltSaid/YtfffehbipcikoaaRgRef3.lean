/- The page's ring: Used, where something came back. -/




import Derived.Test.YtfffehbipcikoaaRgRef2
import Derived.Test.YtfffehbipcikoaaDraw
namespace Go.Proofs.Ytfffehbipcikoaa
open Go.RowKit
set_option maxRecDepth 20000 in
set_option maxHeartbeats 2000000 in
theorem rUsed_bad (w : World) (R bt bc bw m d q : Nat) (added last : Nat) (tk : List Bool) (ch : List (List Nat)) (wr : List Int) (F : List Nat) (B : List UInt8) (hd nn : Nat) (k : Int) (h : RefAt w R bt bc bw m q false added last tk ch wr F) (hM : MemAt 52 w m d B) (hB : B.length ≤ 65536) (hr : last ≤ 65535) (hq : 1 ≤ q ∧ q ≤ 64)
    (hk : aheadV B (usedAt q + 2) last = k) (hk0 : k ≠ 0) (hhd : usedHead B q last = (hd : Nat)) (hnn : usedLen B q last = (nn : Nat))
    (hbad : (outN ch : Int) < k ∨ q ≤ hd ∨ ch[hd]? = some [] ∨ ∃ x, wr[hd]? = some x ∧ x < nn) :
    Calls Try.prog 76 #[.pointer (some ⟨R, 0, none⟩)] w fun e w' => e = .returned (.tuple #[.int .i64 0, .int .i64 0, .bool false, .int .i64 1]) ∧ RefAt w' R bt bc bw m q true added last tk ch wr F ∧ Left [R] w w' := by
  have HBad := Lib.hid hbad
  clear hbad
  obtain ⟨w0, hw0⟩ : ∃ w0, w0 = w := ⟨_, rfl⟩
  have HLe : Hid (Left [] w0 w) := Lib.hid (hw0 ▸ Left.refl _ _)
  have HW0 := Lib.hid hw0
  obtain ⟨u, hu⟩ : ∃ u, usedAt (q : Nat) = u := ⟨_, rfl⟩
  have hu1 : 0 ≤ u ∧ u ≤ 2000 := by rw [← hu]; unfold usedAt; omega
  have c0 : w.cell? ⟨R, 0, none⟩ = some (.pointer (some ⟨m, 0, none⟩)) := by rw [h.head.cell]; rfl
  have c1 : w.cell? ⟨R, 1, none⟩ = some (.int .i64 q) := by rw [h.head.cell]; rfl
  have c3 : w.cell? ⟨R, 3, none⟩ = some (.int .i64 u) := by rw [h.head.cell, ← hu]; rfl
  have c5 : w.cell? ⟨R, 5, none⟩ = some (.int .i64 last) := by rw [h.head.cell]; rfl
  have c6 : w.cell? ⟨R, 6, none⟩ = some (.slice (some ⟨bt, 0, none⟩) q q) := by rw [h.head.cell]; rfl
  have c7 : w.cell? ⟨R, 7, none⟩ = some (.slice (some ⟨bc, 0, none⟩) q q) := by rw [h.head.cell]; rfl
  have c8 : w.cell? ⟨R, 8, none⟩ = some (.slice (some ⟨bw, 0, none⟩) q q) := by rw [h.head.cell]; rfl
  have c9 : w.cell? ⟨R, 9, none⟩ = some (.bool false) := by rw [h.head.cell]; rfl
  have HM := Lib.hid hM
  have HR := Lib.hid h
  have hg := getV_lt B (u + 2) 2
  have hg1 := hg.1
  have hg2 := hg.2.2 (by omega)
  obtain ⟨gv, hgv⟩ : ∃ gv, getV B (u + 2) 2 = gv := ⟨_, rfl⟩
  rw [hgv] at hg1 hg2
  rw [hu] at hk
  have hah : Hid ((gv - last) % 65536 = k) := Lib.hid (by rw [← hk]; unfold aheadV; rw [hgv]; omega)
  have HGV := Lib.hid hgv
  have hwg : IntKind.i64.wrap (gv - last) = gv - last := IntWalk.i64_in _ ⟨by omega, by omega⟩
  have hwu : IntKind.i64.wrap (u + 2) = u + 2 := IntWalk.i64_in _ ⟨by omega, by omega⟩
  have hkb : 0 ≤ k ∧ k < 65536 := by rw [← hk]; unfold aheadV; omega
  obtain ⟨hkb1, hkb2⟩ := hkb
  obtain ⟨rr, hrr⟩ : ∃ rr : Nat, last % q = rr := ⟨_, rfl⟩
  have hrr2 : rr ≤ 63 := by have := Nat.mod_lt last hq.1; omega
  have htm : ((last : Int)).tmod (q : Int) = (rr : Int) := by rw [← hrr]; rfl
  have hq0 : ¬ q = 0 := by omega
  have hpos : usedPos (q : Nat) last = u + 4 + 8 * (rr : Int) := by unfold usedPos; rw [hu]; simp [hrr]
  unfold usedHead at hhd
  unfold usedLen at hnn
  rw [hpos] at hhd hnn
  have HHD := Lib.hid hhd
  have HNN := Lib.hid hnn
  have hb1 := getV_lt B (u + 4 + 8 * (rr : Int)) 4
  have hb2 := getV_lt B (u + 4 + 8 * (rr : Int) + 4) 4
  rw [hhd] at hb1
  rw [hnn] at hb2
  have hd2 := hb1.2.1 (by omega)
  have hn2 := hb2.2.1 (by omega)
  have HG2 : Hid (∀ n, Calls Try.prog 91 #[.pointer (some ⟨R, 0, none⟩), .int .i64 (u + 2), .int .i64 2] (w.drewN n) fun e w' => e = .returned (.int .i64 gv) ∧ w' = w.drewN n) := Lib.hid (fun n => by
    have := rget_small (w.drewN n) R m d B (u + 2) 2 c0 (HM.out.drewN n) hB (by omega)
    rw [hgv] at this
    exact this)
  have HU := Lib.hid hu
  obtain ⟨on, hon⟩ : ∃ on, outN ch = on := ⟨_, rfl⟩
  have HON := Lib.hid hon
  have hon2 : on ≤ 64 := by have := outN_le ch; rw [h.len.2.1] at this; omega
  clear h hM hu hk hg hgv hrr hpos hhd hnn hb1 hb2 hw0 hon
  go_enter Try.func76, Try.ntmps76
  go_wp2_with fail
  go_quiet ((first | (go_at_call 91; exact Calls.quiet_of_same (HG2.out _)) | (go_at_call 90; exact Calls.quiet_of_same (rMod_any _ (gv - last) (by omega) (by omega)))))
  clear hwg hwu HG2 c9
  replace c0 : (w.drewN nq).cell? ⟨R, 0, none⟩ = some (.pointer (some ⟨m, 0, none⟩)) := c0
  replace c1 : (w.drewN nq).cell? ⟨R, 1, none⟩ = some (.int .i64 q) := c1
  replace c3 : (w.drewN nq).cell? ⟨R, 3, none⟩ = some (.int .i64 u) := c3
  replace c5 : (w.drewN nq).cell? ⟨R, 5, none⟩ = some (.int .i64 last) := c5
  replace c6 : (w.drewN nq).cell? ⟨R, 6, none⟩ = some (.slice (some ⟨bt, 0, none⟩) q q) := c6
  replace c7 : (w.drewN nq).cell? ⟨R, 7, none⟩ = some (.slice (some ⟨bc, 0, none⟩) q q) := c7
  replace c8 : (w.drewN nq).cell? ⟨R, 8, none⟩ = some (.slice (some ⟨bw, 0, none⟩) q q) := c8
  replace HM : Hid (MemAt 52 (w.drewN nq) m d B) := Lib.hid (HM.out.drewN nq)
  replace HR : Hid (RefAt (w.drewN nq) R bt bc bw m q false added last tk ch wr F) := Lib.hid (HR.out.drewN nq)
  replace HLe : Hid (Left [] w0 (w.drewN nq)) := Lib.hid (HLe.out.drewN nq)
  generalize w.drewN nq = w1 at c0 c1 c3 c5 c6 c7 c8 HM HR HLe ⊢
  rw [hah.out]
  have hk0' : (k == 0) = false := beq_eq_false_iff_ne.2 hk0
  have hw2 : IntKind.i64.wrap (8 * (rr : Int)) = 8 * (rr : Int) := IntWalk.i64_in _ ⟨by omega, by omega⟩
  have hw1 : IntKind.i64.wrap (u + 4) = u + 4 := IntWalk.i64_in _ ⟨by omega, by omega⟩
  have hw3 : IntKind.i64.wrap (u + 4 + 8 * (rr : Int)) = u + 4 + 8 * (rr : Int) := IntWalk.i64_in _ ⟨by omega, by omega⟩
  go_wp2_with fail
  go_quiet (fail)
  clear hw1 hw2 hw3 htm
  replace c0 : (w1.drewN nq).cell? ⟨R, 0, none⟩ = some (.pointer (some ⟨m, 0, none⟩)) := c0
  replace c1 : (w1.drewN nq).cell? ⟨R, 1, none⟩ = some (.int .i64 q) := c1
  replace c3 : (w1.drewN nq).cell? ⟨R, 3, none⟩ = some (.int .i64 u) := c3
  replace c5 : (w1.drewN nq).cell? ⟨R, 5, none⟩ = some (.int .i64 last) := c5
  replace c6 : (w1.drewN nq).cell? ⟨R, 6, none⟩ = some (.slice (some ⟨bt, 0, none⟩) q q) := c6
  replace c7 : (w1.drewN nq).cell? ⟨R, 7, none⟩ = some (.slice (some ⟨bc, 0, none⟩) q q) := c7
  replace c8 : (w1.drewN nq).cell? ⟨R, 8, none⟩ = some (.slice (some ⟨bw, 0, none⟩) q q) := c8
  replace HM : Hid (MemAt 52 (w1.drewN nq) m d B) := Lib.hid (HM.out.drewN nq)
  replace HR : Hid (RefAt (w1.drewN nq) R bt bc bw m q false added last tk ch wr F) := Lib.hid (HR.out.drewN nq)
  replace HLe : Hid (Left [] w0 (w1.drewN nq)) := Lib.hid (HLe.out.drewN nq)
  generalize w1.drewN nq = w2 at c0 c1 c3 c5 c6 c7 c8 HM HR HLe ⊢
  have HG4 : Hid (Calls Try.prog 91 #[.pointer (some ⟨R, 0, none⟩), .int .i64 (u + 4 + 8 * (rr : Int)), .int .i64 4] w2 fun e w' => e = .returned (.int .i64 (hd : Nat)) ∧ w2 = w') := Lib.hid (by
    refine (rget_small w2 R m d B (u + 4 + 8 * (rr : Int)) 4 c0 HM.out hB (by omega)).mono fun e w' ⟨h1, h2⟩ => ⟨?_, h2.symm⟩
    rw [h1, HHD.out])
  have HG5 : Hid (Calls Try.prog 91 #[.pointer (some ⟨R, 0, none⟩), .int .i64 (u + 4 + 8 * (rr : Int) + 4), .int .i64 4] w2 fun e w' => e = .returned (.int .i64 (nn : Nat)) ∧ w2 = w') := Lib.hid (by
    refine (rget_small w2 R m d B (u + 4 + 8 * (rr : Int) + 4) 4 c0 HM.out hB (by omega)).mono fun e w' ⟨h1, h2⟩ => ⟨?_, h2.symm⟩
    rw [h1, HNN.out])
  have HO : Hid (Calls Try.prog 92 #[.pointer (some ⟨R, 0, none⟩)] w2 fun e w' => e = .returned (.int .i64 (on : Nat)) ∧ w2 = w') := Lib.hid (by
    refine (rout_any _ _ _ _ _ _ _ _ _ _ _ _ _ _ HR.out hq.2).mono fun e w' ⟨h1, h2⟩ => ⟨?_, h2.symm⟩
    rw [h1, HON.out])
  go_wp2_with fail
  refine HG4.out.mono ?_
  rintro e w' ⟨rfl, rfl⟩
  go_wp2_with fail
  refine HG5.out.mono ?_
  rintro e w' ⟨rfl, rfl⟩
  go_wp2_with fail
  refine HO.out.mono ?_
  rintro e w' ⟨rfl, rfl⟩
  clear HG4 HG5 HO
  have f9 := HR.out.head.free 9
  have c9 : w2.cell? ⟨R, 9, none⟩ = some (.bool false) := by rw [HR.out.head.cell]; rfl
  by_cases hA : (on : Int) < k
  · go_wp2
    ((try simp only [Exit.inBlock, Exit.then]); refine bodyPost_ret (results_tmp4 rfl _ _ _) rfl ?_)
    have hL : Left [R] w2 (w2.setCell ⟨R, 9, none⟩ (.bool true)) := (Left.refl _ _).setCell (Or.inl (by simp)) _
    refine ⟨rfl, (HR.out.head_ hL (HR.out.head.put 9 (.bool true))), ?_⟩
    have := (HLe.out.mono (T := [R]) (by simp)).trans (T := [R]) hL (by simp)
    rwa [HW0.out] at this
  · by_cases hC : q ≤ hd
    · have hC' : (q : Int) ≤ (hd : Int) := by omega
      go_wp2
      ((try simp only [Exit.inBlock, Exit.then]); refine bodyPost_ret (results_tmp4 rfl _ _ _) rfl ?_)
      have hL : Left [R] w2 (w2.setCell ⟨R, 9, none⟩ (.bool true)) := (Left.refl _ _).setCell (Or.inl (by simp)) _
      refine ⟨rfl, (HR.out.head_ hL (HR.out.head.put 9 (.bool true))), ?_⟩
      have := (HLe.out.mono (T := [R]) (by simp)).trans (T := [R]) hL (by simp)
      rwa [HW0.out] at this
    · have hC1 : (hd : Int) < (q : Int) := by omega
      have hC2 : ¬ (q : Int) ≤ (hd : Int) := by omega
      have hC3 : (0 : Int) ≤ (hd : Int) := by omega
      obtain ⟨l, hl⟩ : ∃ l, ch[hd]? = some l := ⟨_, List.getElem?_eq_getElem (by rw [HR.out.len.2.1]; omega)⟩
      obtain ⟨x, hx⟩ : ∃ x, wr[hd]? = some x := ⟨_, List.getElem?_eq_getElem (by rw [HR.out.len.2.2]; omega)⟩
      obtain ⟨C, hCw, hCr⟩ := HR.out.chain
      obtain ⟨v, hv, hO⟩ := hCr.at_ hd l hl
      obtain ⟨ao, cap, rfl, hcap, hm⟩ := (Rd.of_own hO).form
      have cch : w2.cell? ⟨bc, hd, none⟩ = some (.slice ao l.length cap) := by rw [hCw.cell]; exact hv
      have cwr : w2.cell? ⟨bw, hd, none⟩ = some (.int .i64 x) := by rw [HR.out.writes.cell, List.getElem?_map, hx]; rfl
      have hlm : l.length ≤ 9223372036854775807 := by unfold maxLen at hm; omega
      have HLL : Hid (ch[hd]? = some l) := Lib.hid hl
      have HXX : Hid (wr[hd]? = some x) := Lib.hid hx
      have HONN := HON.out
      have hcase : l.length = 0 ∨ (0 < l.length ∧ x < (nn : Int)) := by
        rcases HBad.out with h | h | h | ⟨x', h1, h2⟩
        · omega
        · omega
        · rw [hl] at h; injection h with h; left; rw [h]; rfl
        · rw [hx] at h1; injection h1 with h1; subst h1
          by_cases h0 : l.length = 0
          · exact Or.inl h0
          · exact Or.inr ⟨by omega, h2⟩
      clear hl hx hCw hCr hv hO hcap hm HONN
      generalize l.length = ln at cch hlm hcase
      rcases hcase with rfl | ⟨hl1, hx1⟩
      · go_wp2
        ((try simp only [Exit.inBlock, Exit.then]); refine bodyPost_ret (results_tmp4 rfl _ _ _) rfl ?_)
        have hL : Left [R] w2 (w2.setCell ⟨R, 9, none⟩ (.bool true)) := (Left.refl _ _).setCell (Or.inl (by simp)) _
        refine ⟨rfl, (HR.out.head_ hL (HR.out.head.put 9 (.bool true))), ?_⟩
        have := (HLe.out.mono (T := [R]) (by simp)).trans (T := [R]) hL (by simp)
        rwa [HW0.out] at this
      · have hl2 : ¬ ln = 0 := by omega
        go_wp2
        ((try simp only [Exit.inBlock, Exit.then]); refine bodyPost_ret (results_tmp4 rfl _ _ _) rfl ?_)
        have hL : Left [R] w2 (w2.setCell ⟨R, 9, none⟩ (.bool true)) := (Left.refl _ _).setCell (Or.inl (by simp)) _
        refine ⟨rfl, (HR.out.head_ hL (HR.out.head.put 9 (.bool true))), ?_⟩
        have := (HLe.out.mono (T := [R]) (by simp)).trans (T := [R]) hL (by simp)
        rwa [HW0.out] at this
end Go.Proofs.Ytfffehbipcikoaa
