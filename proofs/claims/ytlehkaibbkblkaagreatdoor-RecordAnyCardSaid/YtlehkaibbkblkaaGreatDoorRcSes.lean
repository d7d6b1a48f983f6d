/- Writing a session's bytes. -/


import Derived.Test.YtlehkaibbkblkaaGreatDoorGa
import Derived.Test.YtlehkaibbkblkaaGreatDoorRcWr
import Derived.Test.YtlehkaibbkblkaaGreatDoorGb
namespace Go.Proofs.YtlehkaibbkblkaaGreatDoor
open Go.RowKit
theorem wi_cells {w : World} {b o : Nat} {x : Wish1} (h : w.rangeAt b o (eW.c x)) : w.cell? ⟨b, o, none⟩ = some (.string x.f) ∧ w.cell? ⟨b, o + 1, none⟩ = some (.int .i64 x.q) := ⟨h 0 _ rfl, h 1 _ rfl⟩
set_option maxRecDepth 20000 in
set_option maxHeartbeats 4000000 in
theorem Session_put (w : World) (r : Rs) (h : SRd w w.heap.size r) (hn : (s3 r.s).length ≤ 10000000) :
    Calls Tryz.prog 32 #[seV r] w fun e w' => ∃ v', e = .returned v' ∧ OwnU w' w.heap.size v' (s3 r.s) ∧ Below w.heap.size w w' := by
  obtain ⟨⟨c, cl, ln, S, ⟨last, F, Q⟩, I, ⟨wi, wt, wp, wq, wr⟩, keep, idle⟩, sa, sc, fa, fc, qa, qc, ia, ic⟩ := r
  obtain ⟨hS, hF, hQ, hI⟩ := h
  unfold seV
  simp only at hS hF hQ hI hn ⊢
  obtain ⟨X, hX⟩ : ∃ X, X = s3 ⟨c, cl, ln, S, ⟨last, F, Q⟩, I, ⟨wi, wt, wp, wq, wr⟩, keep, idle⟩ := ⟨_, rfl⟩
  rw [← hX] at hn ⊢
  obtain ⟨P0, hP0⟩ : ∃ P, P = t3 c ++ n3 S.length := ⟨_, rfl⟩
  obtain ⟨P1, hP1⟩ : ∃ P, P = P0 ++ S.flatMap w3 := ⟨_, rfl⟩
  obtain ⟨P2, hP2⟩ : ∃ P, P = P1 ++ n3 last ++ n3 F.length := ⟨_, rfl⟩
  obtain ⟨P3, hP3⟩ : ∃ P, P = P2 ++ F.flatMap f3 := ⟨_, rfl⟩
  obtain ⟨P4, hP4⟩ : ∃ P, P = P3 ++ n3 Q.length := ⟨_, rfl⟩
  obtain ⟨P5, hP5⟩ : ∃ P, P = P4 ++ Q.flatMap m3 := ⟨_, rfl⟩
  obtain ⟨P6, hP6⟩ : ∃ P, P = P5 ++ n3 I.length := ⟨_, rfl⟩
  have HX : Hid (P6 ++ I.flatMap n3 = X) := Lib.hid (by rw [hX, hP6, hP5, hP4, hP3, hP2, hP1, hP0]; rfl)
  have e1 := congrArg List.length HX.out
  have l0 := congrArg List.length hP0
  have l1 := congrArg List.length hP1
  have l2 := congrArg List.length hP2
  have l3 := congrArg List.length hP3
  have l4 := congrArg List.length hP4
  have l5 := congrArg List.length hP5
  have l6 := congrArg List.length hP6
  simp only [List.length_append, t3_len, n3_len] at e1 l0 l1 l2 l3 l4 l5 l6
  have HL : Hid (c.size ≤ 10000000 ∧ P0.length ≤ 10000000 ∧ P1.length ≤ 10000000 ∧ (P1 ++ n3 last).length ≤ 10000000 ∧ P2.length ≤ 10000000 ∧ P3.length ≤ 10000000 ∧ P4.length ≤ 10000000 ∧ P5.length ≤ 10000000 ∧ P6.length ≤ 10000000) := Lib.hid (by simp only [List.length_append, n3_len]; omega)
  have HLA : Hid (∀ k x, S[k]? = some x → (P0 ++ (S.take k).flatMap w3).length ≤ 10000000 ∧ (P0 ++ (S.take k).flatMap w3 ++ t3 x.f).length ≤ 10000000 ∧ x.f.size ≤ 10000000) := Lib.hid (fun k x hx => by
    have h1 := fm_le (f := w3) (L := S) (k := k + 1)
    rw [fm_take hx] at h1
    simp only [List.length_append, w3, t3_len, n3_len] at h1 ⊢
    omega)
  have HLB : Hid (∀ k x, F[k]? = some x → (P2 ++ (F.take k).flatMap f3).length ≤ 10000000 ∧ (P2 ++ (F.take k).flatMap f3 ++ n3 x.id).length ≤ 10000000 ∧ (P2 ++ (F.take k).flatMap f3 ++ n3 x.id ++ m3 x.m).length ≤ 10000000 ∧ x.m.t.size ≤ 10000000 ∧ x.m.p.size ≤ 10000000) := Lib.hid (fun k x hx => by
    have h1 := fm_le (f := f3) (L := F) (k := k + 1)
    rw [fm_take hx] at h1
    simp only [List.length_append, f3, m3, t3_len, n3_len] at h1 ⊢
    omega)
  have HLC : Hid (∀ k x, Q[k]? = some x → (P4 ++ (Q.take k).flatMap m3).length ≤ 10000000 ∧ x.t.size ≤ 10000000 ∧ x.p.size ≤ 10000000) := Lib.hid (fun k x hx => by
    have h1 := fm_le (f := m3) (L := Q) (k := k + 1)
    rw [fm_take hx] at h1
    simp only [List.length_append, m3, t3_len, n3_len] at h1 ⊢
    omega)
  have HLD : Hid (∀ k x, I[k]? = some x → (P6 ++ (I.take k).flatMap n3).length ≤ 10000000) := Lib.hid (fun k x hx => by
    have h1 := fm_le (f := n3) (L := I) (k := k)
    simp only [List.length_append] at h1 ⊢
    omega)
  have lS : Hid (S.length ≤ 10000000) := Lib.hid (by have := fm_len (f := w3) (L := S) (fun x => by simp only [w3, List.length_append, n3_len]; omega); omega)
  have lF : Hid (F.length ≤ 10000000) := Lib.hid (by have := fm_len (f := f3) (L := F) (fun x => by simp only [f3, List.length_append, n3_len]; omega); omega)
  have lQ : Hid (Q.length ≤ 10000000) := Lib.hid (by have := fm_len (f := m3) (L := Q) (fun x => by simp only [m3, List.length_append, n3_len]; omega); omega)
  have lI : Hid (I.length ≤ 10000000) := Lib.hid (by have := fm_len (f := n3) (L := I) (fun x => by rw [n3_len]; omega); omega)
  have HP0 := Lib.hid hP0
  have HP1 := Lib.hid hP1
  have HP2 := Lib.hid hP2
  have HP3 := Lib.hid hP3
  have HP4 := Lib.hid hP4
  have HP5 := Lib.hid hP5
  have HP6 := Lib.hid hP6
  clear e1 l0 l1 l2 l3 l4 l5 l6 hP0 hP1 hP2 hP3 hP4 hP5 hP6
  clear hX hn
  obtain ⟨B, hBe⟩ : ∃ B, B = w.heap.size := ⟨_, rfl⟩
  obtain ⟨wa, hwa⟩ : ∃ wa, wa = w.alloc (.cells #[.string c, .bool cl, .int .i64 ln, .slice sa S.length sc, .int .i64 last, .slice fa F.length fc, .slice qa Q.length qc, .slice ia I.length ic, .bool wi, .string wt, .string wp, .int .i64 wq, .bool wr, .int .i64 keep, .int .i64 idle] 52) := ⟨_, rfl⟩
  have hla : Below B w wa := by rw [hwa, hBe]; exact (Below.refl _ _).alloc (Nat.le_refl _) _
  have hW : Whole wa B 52 [.string c, .bool cl, .int .i64 ln, .slice sa S.length sc, .int .i64 last, .slice fa F.length fc, .slice qa Q.length qc, .slice ia I.length ic, .bool wi, .string wt, .string wp, .int .i64 wq, .bool wr, .int .i64 keep, .int .i64 idle] := by rw [hwa, hBe]; exact Whole.new w 52 _
  have HC : Hid (∀ w', LU B wa w' → w'.cell? ⟨B, 0, none⟩ = some (.string c) ∧ w'.cell? ⟨B, 3, none⟩ = some (.slice sa S.length sc) ∧ w'.cell? ⟨B, 4, none⟩ = some (.int .i64 last) ∧ w'.cell? ⟨B, 5, none⟩ = some (.slice fa F.length fc) ∧ w'.cell? ⟨B, 6, none⟩ = some (.slice qa Q.length qc) ∧ w'.cell? ⟨B, 7, none⟩ = some (.slice ia I.length ic)) := Lib.hid (fun w' hl => by
    have h := hl.whole hW (by decide)
    exact ⟨h.cell 0, h.cell 3, h.cell 4, h.cell 5, h.cell 6, h.cell 7⟩)
  have hwz : wa.heap.size = B + 1 := by rw [hwa, hBe]; simp
  rw [← hBe] at hS hF hQ hI
  have HSR : Hid (∀ w', LU B wa w' → Rd w' B 2 (.slice sa S.length sc) S.length (eW.cells S)) := Lib.hid (fun w' hl => (hS.below hla).below (hl.below (Nat.le_refl _) (by omega)))
  have HFR : Hid (∀ w', LU B wa w' → Rd w' B 6 (.slice fa F.length fc) F.length (eF.cells F)) := Lib.hid (fun w' hl => (hF.below hla).below (hl.below (Nat.le_refl _) (by omega)))
  have HQR : Hid (∀ w', LU B wa w' → Rd w' B 4 (.slice qa Q.length qc) Q.length (eM.cells Q)) := Lib.hid (fun w' hl => (hQ.below hla).below (hl.below (Nat.le_refl _) (by omega)))
  have HIR : Hid (∀ w', LU B wa w' → Rd w' B 1 (.slice ia I.length ic) I.length (eI.cells I)) := Lib.hid (fun w' hl => (hI.below hla).below (hl.below (Nat.le_refl _) (by omega)))
  have HZ : Hid (B ≤ wa.heap.size) := Lib.hid (by omega)
  have HFIN : Hid (∀ w', LU B wa w' → Below B w w') := Lib.hid (fun w' hl => hla.trans (hl.below (Nat.le_refl _) (by omega)))
  have HTY : Hid (∀ w', LU B wa w' → ¬ Ty w' B 5) := Lib.hid (fun w' hl h2 => (((hl.whole hW (by decide)).ty).ne h2 (by decide)) rfl)
  have HWA := Lib.hid hwa
  rw [← hBe]
  have HBE := Lib.hid hBe
  clear hS hF hQ hI hla hW hwa hwz
  go_enter Tryz.func32, Tryz.ntmps32
  go_upto_region 1 with fail
  rw [← HWA.out, ← HBE.out]
  clear hBe
  obtain ⟨c0, c3, c4, c5, c6, c7⟩ := HC.out _ (LU.refl B wa).drew
  refine wp_region_held_drew (S := fun wx => wx.cell? ⟨B, 0, none⟩ = some (.string c) ∧ wx.cell? ⟨B, 3, none⟩ = some (.slice sa S.length sc)) (by kernel_rfl) ⟨c0, c3⟩ (fun hHeld => ?_)
  refine tk 0 (by assumption) ?_
  (try simp only [Act.put, List.setIfInBounds_toArray, List.set_cons_zero, List.set_cons_succ])
  refine tk 1 (by assumption) ?_
  (try simp only [Act.put, List.setIfInBounds_toArray, List.set_cons_zero, List.set_cons_succ])
  refine tk 3 (by assumption) ?_
  (try simp only [Act.put, List.setIfInBounds_toArray, List.set_cons_zero, List.set_cons_succ])
  refine tk 4 (by assumption) ?_
  (try simp only [Act.put, List.setIfInBounds_toArray, List.set_cons_zero, List.set_cons_succ])
  refine tk 5 (by assumption) ?_
  (try simp only [Act.put, List.setIfInBounds_toArray, List.set_cons_zero, List.set_cons_succ])
  have hty := HTY.out _ (LU.refl B wa).drew
  refine wpAnyH_ready (rs := [2]) (by kernel_rfl) (by simp) ?_
  refine call_h 2 ⟨?_, ?_, fun K hK => ?_⟩
  rotate_left 1
  · (simp only [List.getElem?_toArray, List.getElem?_cons_succ, List.getElem?_cons_zero]; exact rfl)
  go_simp
  (go_at_call 49; refine (text_any wa.drew B _ [] c (OwnU.nil wa.drew B) (show B ≤ wa.drew.heap.size from HZ.out) (by simp) (by have := HL.out.1; omega)).mono ?_; rintro e wz ⟨vz, rfl, hoz, hlz⟩)
  go_wp2_with fail
  refine hK.out _ _ ⟨hlz.cell hHeld.1 (.inr hty), hlz.cell hHeld.2 (.inr hty)⟩ (fun hHeld => ?_)
  clear hK K
  (try simp only [Act.put, List.setIfInBounds_toArray, List.set_cons_zero, List.set_cons_succ])
  have hl1 := (LU.refl B wa).drew.trans hlz
  have ho1 : OwnU wz B vz (t3 c) := hoz
  have HB1 := Nat.le_trans HZ.out hl1.size
  clear hlz hoz hty
  have hty := HTY.out _ hl1
  refine wpAnyH_ready (rs := [6]) (by kernel_rfl) (by simp) ?_
  refine call_h 6 ⟨?_, ?_, fun K hK => ?_⟩
  rotate_left 1
  · (simp only [List.getElem?_toArray, List.getElem?_cons_succ, List.getElem?_cons_zero]; exact rfl)
  go_simp
  (go_at_call 31; refine (number_any _ B _ _ _ ho1 HB1 (by rw [t3_len]; have := HL.out.1; omega)).mono ?_; rintro e wz ⟨vz, rfl, hoz, hlz⟩)
  go_wp2_with fail
  refine hK.out _ _ ⟨hlz.cell hHeld.1 (.inr hty), hlz.cell hHeld.2 (.inr hty)⟩ (fun hHeld => ?_)
  clear hK K
  (try simp only [Act.put, List.setIfInBounds_toArray, List.set_cons_zero, List.set_cons_succ])
  have hl2 := hl1.trans hlz
  rw [← HP0.out] at hoz
  have ho2 := Lib.hid hoz
  clear hlz hoz hty c0 c3 c4 c5 c6 c7
  refine tk 7 (by assumption) ?_
  (try simp only [Act.put, List.setIfInBounds_toArray, List.set_cons_zero, List.set_cons_succ])
  refine wpAnyH_done (by kernel_rfl) ?_ _
  obtain ⟨c0, c3, c4, c5, c6, c7⟩ := HC.out _ hl2
  have h3 := HSR.out _ hl2
  clear h3
  go_wp2
  go_loopw [3, 22] (fun v i wr => ∃ k : Nat, k ≤ S.length ∧ i = .int .i64 k ∧ Hid (OwnU wr B v (P0 ++ (S.take k).flatMap w3)) ∧ LU B wa wr) (fun _ i _ => S.length - (intOf i).toNat)
  case atStart => exact ⟨0, by omega, rfl, by simpa using ho2, hl2⟩
  case round =>
    clear c0 c3 c4 c5 c6 c7 hl2 ho2 hHeld
    obtain ⟨k, hk, rfl, HO, hl⟩ := hrel
    by_cases hlt : k < S.length
    · obtain ⟨x, hx⟩ : ∃ x, S[k]? = some x := ⟨_, List.getElem?_eq_getElem hlt⟩
      obtain ⟨b, o, rfl, hbl, hcs⟩ := Enc.rd_cell (E := eW) (HSR.out _ hl) rfl hx
      obtain ⟨x0, x1⟩ := wi_cells (show World.rangeAt _ b (o + k * 2) (eW.c x) from hcs)
      have HXX := Lib.hid hx
      have hlS := lS.out
      clear hx hcs
      go_upto_region 5 with fail
      clear x0 x1
      obtain ⟨wb, hwb, hbb, hBX⟩ := box_facts B wr [.string x.f, .int .i64 x.q] 62 (by decide)
      rw [hwb]
      have HBX := Lib.hid hBX
      obtain ⟨z1, z2, z3⟩ := HLA.out k x HXX.out
      have HOb := HO.out.keep hbb
      have hlb := hl.trans (LU.of_below hbb)
      have HBb := Nat.le_trans HZ.out hlb.size
      obtain ⟨hcl, hty⟩ := hBX _ (LU.refl B wb).drew
      have b0 := hcl 0
      have b1 := hcl 1
      simp only [List.getElem?_cons_zero, List.getElem?_cons_succ] at b0 b1
      clear hwb hbb hBX hcl
      refine wp_region_held_drew (S := fun wx => wx.cell? ⟨wr.heap.size, 0, none⟩ = some (.string x.f) ∧ wx.cell? ⟨wr.heap.size, 1, none⟩ = some (.int .i64 x.q)) (by kernel_rfl) ⟨b0, b1⟩ (fun hHeld => ?_)
      refine tk 0 (by assumption) ?_
      (try simp only [Act.put, List.setIfInBounds_toArray, List.set_cons_zero, List.set_cons_succ])
      refine tk 1 (by assumption) ?_
      (try simp only [Act.put, List.setIfInBounds_toArray, List.set_cons_zero, List.set_cons_succ])
      refine tk 2 (by assumption) ?_
      (try simp only [Act.put, List.setIfInBounds_toArray, List.set_cons_zero, List.set_cons_succ])
      refine tk 4 (by assumption) ?_
      (try simp only [Act.put, List.setIfInBounds_toArray, List.set_cons_zero, List.set_cons_succ])
      refine tk 5 (by assumption) ?_
      (try simp only [Act.put, List.setIfInBounds_toArray, List.set_cons_zero, List.set_cons_succ])
      refine wpAnyH_ready (rs := [3]) (by kernel_rfl) (by simp) ?_
      refine call_h 3 ⟨?_, ?_, fun K hK => ?_⟩
      rotate_left 1
      · (simp only [List.getElem?_toArray, List.getElem?_cons_succ, List.getElem?_cons_zero]; exact rfl)
      go_simp
      (go_at_call 49; refine (text_any wb.drew B _ _ x.f (show OwnU wb.drew B _ _ from HOb) (show B ≤ wb.drew.heap.size from HBb) (by omega) (by omega)).mono ?_; rintro e wz ⟨vz, rfl, hoz, hlz⟩)
      go_wp2_with fail
      refine hK.out _ _ ⟨hlz.cell hHeld.1 (.inr hty), hlz.cell hHeld.2 (.inr hty)⟩ (fun hHeld => ?_)
      clear hK K
      (try simp only [Act.put, List.setIfInBounds_toArray, List.set_cons_zero, List.set_cons_succ])
      have hl1 := (LU.refl B wb).drew.trans hlz
      have ho1 := hoz
      have HB1 := Nat.le_trans HBb hl1.size
      clear hlz hoz hty
      have hty := (HBX.out _ hl1).2
      refine wpAnyH_ready (rs := [6]) (by kernel_rfl) (by simp) ?_
      refine call_h 6 ⟨?_, ?_, fun K hK => ?_⟩
      rotate_left 1
      · (simp only [List.getElem?_toArray, List.getElem?_cons_succ, List.getElem?_cons_zero]; exact rfl)
      go_simp
      (go_at_call 31; refine (number_any _ B _ _ _ ho1 HB1 (by omega)).mono ?_; rintro e wz ⟨vz, rfl, hoz, hlz⟩)
      go_wp2_with fail
      refine hK.out _ _ ⟨hlz.cell hHeld.1 (.inr hty), hlz.cell hHeld.2 (.inr hty)⟩ (fun hHeld => ?_)
      clear hK K
      (try simp only [Act.put, List.setIfInBounds_toArray, List.set_cons_zero, List.set_cons_succ])
      have hl2 := hlb.trans (hl1.trans hlz)
      have ho2 : Hid (OwnU wz B vz (P0 ++ (S.take (k + 1)).flatMap w3)) := Lib.hid (by rw [fm_take HXX.out, w3]; simpa [List.append_assoc] using hoz)
      refine tk 7 (by assumption) ?_
      (try simp only [Act.put, List.setIfInBounds_toArray, List.set_cons_zero, List.set_cons_succ])
      clear hlz hoz hty hHeld b0 b1 ho1 hl1 HOb
      refine wpAnyH_done (by kernel_rfl) ?_ _
      go_wp2
      go_roundw
      case rel => exact ⟨k + 1, by omega, by go_num, ho2, hl2⟩
      case measure => simp [intOf]; omega
    · obtain rfl : k = S.length := by omega
      have HO1 : Hid (OwnU wr B u3 P1) := Lib.hid (by rw [HP1.out]; simpa using HO.out)
      clear HO hlt hk
      obtain ⟨c0, c3, c4, c5, c6, c7⟩ := HC.out _ hl
      go_upto_region 7 with fail
      refine wp_region_held_drew (S := fun wx => wx.cell? ⟨B, 4, none⟩ = some (.int .i64 last) ∧ wx.cell? ⟨B, 5, none⟩ = some (.slice fa F.length fc)) (by kernel_rfl) ⟨c4, c5⟩ (fun hHeld => ?_)
      refine tk 0 (by assumption) ?_
      (try simp only [Act.put, List.setIfInBounds_toArray, List.set_cons_zero, List.set_cons_succ])
      refine tk 1 (by assumption) ?_
      (try simp only [Act.put, List.setIfInBounds_toArray, List.set_cons_zero, List.set_cons_succ])
      refine tk 2 (by assumption) ?_
      (try simp only [Act.put, List.setIfInBounds_toArray, List.set_cons_zero, List.set_cons_succ])
      refine tk 3 (by assumption) ?_
      (try simp only [Act.put, List.setIfInBounds_toArray, List.set_cons_zero, List.set_cons_succ])
      refine tk 5 (by assumption) ?_
      (try simp only [Act.put, List.setIfInBounds_toArray, List.set_cons_zero, List.set_cons_succ])
      refine tk 6 (by assumption) ?_
      (try simp only [Act.put, List.setIfInBounds_toArray, List.set_cons_zero, List.set_cons_succ])
      refine tk 7 (by assumption) ?_
      (try simp only [Act.put, List.setIfInBounds_toArray, List.set_cons_zero, List.set_cons_succ])
      refine tk 8 (by assumption) ?_
      (try simp only [Act.put, List.setIfInBounds_toArray, List.set_cons_zero, List.set_cons_succ])
      have hty := HTY.out _ hl.drew
      have HBr := Nat.le_trans HZ.out hl.size
      refine wpAnyH_ready (rs := [4]) (by kernel_rfl) (by simp) ?_
      refine call_h 4 ⟨?_, ?_, fun K hK => ?_⟩
      rotate_left 1
      · (simp only [List.getElem?_toArray, List.getElem?_cons_succ, List.getElem?_cons_zero]; exact rfl)
      go_simp
      (go_at_call 31; refine (number_any _ B _ _ last (show OwnU wr.drew B _ _ from HO1.out) (show B ≤ wr.drew.heap.size from HBr) (by have := HL.out.2.2.1; omega)).mono ?_; rintro e wz ⟨vz, rfl, hoz, hlz⟩)
      go_wp2_with fail
      refine hK.out _ _ ⟨hlz.cell hHeld.1 (.inr hty), hlz.cell hHeld.2 (.inr hty)⟩ (fun hHeld => ?_)
      clear hK K
      (try simp only [Act.put, List.setIfInBounds_toArray, List.set_cons_zero, List.set_cons_succ])
      have hl1 := hl.drew.trans hlz
      have ho1 := hoz
      have HB1 := Nat.le_trans HZ.out hl1.size
      clear hlz hoz hty
      have hty := HTY.out _ hl1
      refine wpAnyH_ready (rs := [9]) (by kernel_rfl) (by simp) ?_
      refine call_h 9 ⟨?_, ?_, fun K hK => ?_⟩
      rotate_left 1
      · (simp only [List.getElem?_toArray, List.getElem?_cons_succ, List.getElem?_cons_zero]; exact rfl)
      go_simp
      (go_at_call 31; refine (number_any _ B _ _ _ ho1 HB1 (by have := HL.out.2.2.2.1; omega)).mono ?_; rintro e wz ⟨vz, rfl, hoz, hlz⟩)
      go_wp2_with fail
      refine hK.out _ _ ⟨hlz.cell hHeld.1 (.inr hty), hlz.cell hHeld.2 (.inr hty)⟩ (fun hHeld => ?_)
      clear hK K
      (try simp only [Act.put, List.setIfInBounds_toArray, List.set_cons_zero, List.set_cons_succ])
      have hl2 := hl1.trans hlz
      rw [← HP2.out] at hoz
      refine tk 10 (by assumption) ?_
      (try simp only [Act.put, List.setIfInBounds_toArray, List.set_cons_zero, List.set_cons_succ])
      have ho2 := Lib.hid hoz
      clear hlz hoz hty hHeld c0 c3 c4 c5 c6 c7 ho1 hl1
      refine wpAnyH_done (by kernel_rfl) ?_ _
      obtain ⟨c0, c3, c4, c5, c6, c7⟩ := HC.out _ hl2
      go_wp2
      go_loopw [3, 48] (fun v i wr => ∃ k : Nat, k ≤ F.length ∧ i = .int .i64 k ∧ Hid (OwnU wr B v (P2 ++ (F.take k).flatMap f3)) ∧ LU B wa wr) (fun _ i _ => F.length - (intOf i).toNat)
      case atStart => exact ⟨0, by omega, rfl, by simpa using ho2, hl2⟩
      case round =>
        clear c0 c3 c4 c5 c6 c7 hl2 ho2 hl HO1
        obtain ⟨k, hk, rfl, HO, hl⟩ := hrel
        by_cases hlt : k < F.length
        · obtain ⟨x, hx⟩ : ∃ x, F[k]? = some x := ⟨_, List.getElem?_eq_getElem hlt⟩
          obtain ⟨b, o, rfl, hbl, hcs⟩ := Enc.rd_cell (E := eF) (HFR.out _ hl) rfl hx
          obtain ⟨x0, x1, x2, x3, x4, x5⟩ := fl_cells (show World.rangeAt _ b (o + k * 6) (eF.c x) from hcs)
          have HXX := Lib.hid hx
          have hlS := lF.out
          clear hx hcs
          go_upto_region 11 with fail
          clear x0 x1 x2 x3 x4 x5
          obtain ⟨wb, hwb, hbb, hBX⟩ := box_facts B _ [.int .i64 x.id, .string x.m.t, .string x.m.p, .int .i64 x.m.q, .bool x.m.r, .bool x.rc] 67 (by decide)
          rw [hwb]
          have HBX := Lib.hid hBX
          obtain ⟨z1, z2, z3, z4, z5⟩ := HLB.out k x HXX.out
          have HOb := HO.out.keep hbb
          have hlb := hl.trans (LU.of_below hbb)
          have HBb := Nat.le_trans HZ.out hlb.size
          obtain ⟨hcl, hty⟩ := hBX _ (LU.refl B wb).drew
          have b0 := hcl 0
          have b1 := hcl 1
          have b2 := hcl 2
          have b3 := hcl 3
          have b4 := hcl 4
          have b5 := hcl 5
          simp only [List.getElem?_cons_zero, List.getElem?_cons_succ] at b0 b1 b2 b3 b4 b5
          clear hwb hbb hBX hcl
          refine wp_region_held_drew (S := fun wx => wx.cell? ⟨wr.heap.size, 0, none⟩ = some (.int .i64 x.id) ∧ wx.cell? ⟨wr.heap.size, 1, none⟩ = some (.string x.m.t) ∧ wx.cell? ⟨wr.heap.size, 2, none⟩ = some (.string x.m.p) ∧ wx.cell? ⟨wr.heap.size, 3, none⟩ = some (.int .i64 x.m.q) ∧ wx.cell? ⟨wr.heap.size, 4, none⟩ = some (.bool x.m.r) ∧ wx.cell? ⟨wr.heap.size, 5, none⟩ = some (.bool x.rc)) (by kernel_rfl) ⟨b0, b1, b2, b3, b4, b5⟩ (fun hHeld => ?_)
          refine tk 0 (by assumption) ?_
          (try simp only [Act.put, List.setIfInBounds_toArray, List.set_cons_zero, List.set_cons_succ])
          refine tk 1 (by assumption) ?_
          (try simp only [Act.put, List.setIfInBounds_toArray, List.set_cons_zero, List.set_cons_succ])
          refine tk 2 (by assumption) ?_
          (try simp only [Act.put, List.setIfInBounds_toArray, List.set_cons_zero, List.set_cons_succ])
          refine tk 4 (by assumption) ?_
          (try simp only [Act.put, List.setIfInBounds_toArray, List.set_cons_zero, List.set_cons_succ])
          refine tk 5 (by assumption) ?_
          (try simp only [Act.put, List.setIfInBounds_toArray, List.set_cons_zero, List.set_cons_succ])
          refine tk 7 (by assumption) ?_
          (try simp only [Act.put, List.setIfInBounds_toArray, List.set_cons_zero, List.set_cons_succ])
          refine tk 8 (by assumption) ?_
          (try simp only [Act.put, List.setIfInBounds_toArray, List.set_cons_zero, List.set_cons_succ])
          refine wpAnyH_ready (rs := [3]) (by kernel_rfl) (by simp) ?_
          refine call_h 3 ⟨?_, ?_, fun K hK => ?_⟩
          rotate_left 1
          · (simp only [List.getElem?_toArray, List.getElem?_cons_succ, List.getElem?_cons_zero]; exact rfl)
          go_simp
          (go_at_call 31; refine (number_any wb.drew B _ _ x.id (show OwnU wb.drew B _ _ from HOb) (show B ≤ wb.drew.heap.size from HBb) (by omega)).mono ?_; rintro e wz ⟨vz, rfl, hoz, hlz⟩)
          go_wp2_with fail
          refine hK.out _ _ ⟨hlz.cell hHeld.1 (.inr hty), hlz.cell hHeld.2.1 (.inr hty), hlz.cell hHeld.2.2.1 (.inr hty), hlz.cell hHeld.2.2.2.1 (.inr hty), hlz.cell hHeld.2.2.2.2.1 (.inr hty), hlz.cell hHeld.2.2.2.2.2 (.inr hty)⟩ (fun hHeld => ?_)
          clear hK K
          (try simp only [Act.put, List.setIfInBounds_toArray, List.set_cons_zero, List.set_cons_succ])
          have hl1 := (LU.refl B wb).drew.trans hlz
          have ho1 := hoz
          have HB1 := Nat.le_trans HBb hl1.size
          clear hlz hoz hty
          have hty := (HBX.out _ hl1).2
          refine wpAnyH_ready (rs := [6]) (by kernel_rfl) (by simp) ?_
          refine call_h 6 ⟨?_, ?_, fun K hK => ?_⟩
          rotate_left 1
          · (simp only [List.getElem?_toArray, List.getElem?_cons_succ, List.getElem?_cons_zero]; exact rfl)
          go_simp
          (go_at_call 50; refine (message_put _ B _ _ x.m ho1 HB1 (by omega) (by omega) (by omega)).mono ?_; rintro e wz ⟨vz, rfl, hoz, hlz⟩)
          go_wp2_with fail
          refine hK.out _ _ ⟨hlz.cell hHeld.1 (.inr hty), hlz.cell hHeld.2.1 (.inr hty), hlz.cell hHeld.2.2.1 (.inr hty), hlz.cell hHeld.2.2.2.1 (.inr hty), hlz.cell hHeld.2.2.2.2.1 (.inr hty), hlz.cell hHeld.2.2.2.2.2 (.inr hty)⟩ (fun hHeld => ?_)
          clear hK K
          (try simp only [Act.put, List.setIfInBounds_toArray, List.set_cons_zero, List.set_cons_succ])
          have hl2 := hl1.trans hlz
          have ho2 := hoz
          have HB2 := Nat.le_trans HBb hl2.size
          clear hlz hoz hty
          have hty := (HBX.out _ hl2).2
          refine wpAnyH_ready (rs := [9]) (by kernel_rfl) (by simp) ?_
          refine call_h 9 ⟨?_, ?_, fun K hK => ?_⟩
          rotate_left 1
          · (simp only [List.getElem?_toArray, List.getElem?_cons_succ, List.getElem?_cons_zero]; exact rfl)
          go_simp
          (go_at_call 51; refine (bit_any _ _).mono ?_; rintro e wz ⟨rfl, rfl⟩)
          go_wp2_with fail
          refine hK.out _ _ hHeld (fun hHeld => ?_)
          clear hK K
          (try simp only [Act.put, List.setIfInBounds_toArray, List.set_cons_zero, List.set_cons_succ])
          refine wpAnyH_ready (rs := [10]) (by kernel_rfl) (by simp) ?_
          refine call_h 10 ⟨?_, ?_, fun K hK => ?_⟩
          rotate_left 1
          · (simp only [List.getElem?_toArray, List.getElem?_cons_succ, List.getElem?_cons_zero]; exact rfl)
          go_simp
          (go_at_call 31; refine (number_any _ B _ _ _ ho2 HB2 (by omega)).mono ?_; rintro e wz ⟨vz, rfl, hoz, hlz⟩)
          go_wp2_with fail
          refine hK.out _ _ ⟨hlz.cell hHeld.1 (.inr hty), hlz.cell hHeld.2.1 (.inr hty), hlz.cell hHeld.2.2.1 (.inr hty), hlz.cell hHeld.2.2.2.1 (.inr hty), hlz.cell hHeld.2.2.2.2.1 (.inr hty), hlz.cell hHeld.2.2.2.2.2 (.inr hty)⟩ (fun hHeld => ?_)
          clear hK K
          (try simp only [Act.put, List.setIfInBounds_toArray, List.set_cons_zero, List.set_cons_succ])
          have hl3 := hlb.trans (hl2.trans hlz)
          have ho3 : Hid (OwnU wz B vz (P2 ++ (F.take (k + 1)).flatMap f3)) := Lib.hid (by rw [fm_take HXX.out, f3]; simpa [List.append_assoc] using hoz)
          refine tk 11 (by assumption) ?_
          (try simp only [Act.put, List.setIfInBounds_toArray, List.set_cons_zero, List.set_cons_succ])
          clear hlz hoz hty hHeld b0 b1 b2 b3 b4 b5 ho1 hl1 HOb ho2 hl2
          refine wpAnyH_done (by kernel_rfl) ?_ _
          go_wp2
          go_roundw
          case rel => exact ⟨k + 1, by omega, by go_num, ho3, hl3⟩
          case measure => simp [intOf]; omega
        · obtain rfl : k = F.length := by omega
          have HO1 : Hid (OwnU _ B _ P3) := Lib.hid (by rw [HP3.out]; simpa using HO.out)
          clear HO hlt hk
          obtain ⟨c0, c3, c4, c5, c6, c7⟩ := HC.out _ hl
          have HBr := Nat.le_trans HZ.out hl.size
          go_wp2_with (go_at_call 31; refine (number_any _ B _ _ _ HO1.out HBr (by have := HL.out.2.2.2.2.2.1; omega)).mono ?_; rintro e wz ⟨vz, rfl, hoz, hlz⟩; rw [← HP4.out] at hoz; have hl2 := hl.trans hlz; have ho2 := Lib.hid hoz; clear hoz c0 c3 c4 c5 c6 c7; obtain ⟨c0, c3, c4, c5, c6, c7⟩ := HC.out _ hl2)
          clear hlz
          go_loopw [3, 74] (fun v i wr => ∃ k : Nat, k ≤ Q.length ∧ i = .int .i64 k ∧ Hid (OwnU wr B v (P4 ++ (Q.take k).flatMap m3)) ∧ LU B wa wr) (fun _ i _ => Q.length - (intOf i).toNat)
          case atStart => exact ⟨0, by omega, rfl, by simpa using ho2, hl2⟩
          case round =>
            clear c0 c3 c4 c5 c6 c7 hl2 ho2 hl HO1
            obtain ⟨k, hk, rfl, HO, hl⟩ := hrel
            by_cases hlt : k < Q.length
            · obtain ⟨x, hx⟩ : ∃ x, Q[k]? = some x := ⟨_, List.getElem?_eq_getElem hlt⟩
              obtain ⟨b, o, rfl, hbl, hcs⟩ := Enc.rd_cell (E := eM) (HQR.out _ hl) rfl hx
              obtain ⟨x0, x1, x2, x3⟩ := msg_cells (show World.rangeAt _ b (o + k * 4) (eM.c x) from hcs)
              have HXX := Lib.hid hx
              have hlS := lQ.out
              clear hx hcs
              go_upto_region 17 with fail
              clear x0 x1 x2 x3
              obtain ⟨wb, hwb, hbb, hBX⟩ := box_facts B _ [.string x.t, .string x.p, .int .i64 x.q, .bool x.r] 64 (by decide)
              rw [hwb]
              obtain ⟨z1, z4, z5⟩ := HLC.out k x HXX.out
              have HOb := HO.out.keep hbb
              have hlb := hl.trans (LU.of_below hbb)
              have HBb := Nat.le_trans HZ.out hlb.size
              obtain ⟨hcl, hty⟩ := hBX _ (LU.refl B wb)
              have b0 := hcl 0
              have b1 := hcl 1
              have b2 := hcl 2
              have b3 := hcl 3
              simp only [List.getElem?_cons_zero, List.getElem?_cons_succ] at b0 b1 b2 b3
              clear hwb hbb hBX hcl
              have HMP := Lib.hid (message_put wb B _ _ x HOb HBb (by omega) (by omega) (by omega))
              clear HOb
              go_wp2_with (go_at_call 50; refine HMP.out.mono ?_; rintro e wz ⟨vz, rfl, hoz, hlz⟩; have hl2 := hlb.trans hlz; have ho2 : Hid (OwnU wz B vz (P4 ++ (Q.take (k + 1)).flatMap m3)) := Lib.hid (by rw [fm_take HXX.out]; simpa [List.append_assoc] using hoz); clear hoz hlz)
              go_roundw
              case rel => exact ⟨k + 1, by omega, by go_num, ho2, hl2⟩
              case measure => simp [intOf]; omega
            · obtain rfl : k = Q.length := by omega
              have HO1 : Hid (OwnU _ B _ P5) := Lib.hid (by rw [HP5.out]; simpa using HO.out)
              clear HO hlt hk
              obtain ⟨c0, c3, c4, c5, c6, c7⟩ := HC.out _ hl
              have HBr := Nat.le_trans HZ.out hl.size
              go_wp2_with (go_at_call 31; refine (number_any _ B _ _ _ HO1.out HBr (by have := HL.out.2.2.2.2.2.2.2.1; omega)).mono ?_; rintro e wz ⟨vz, rfl, hoz, hlz⟩; rw [← HP6.out] at hoz; have hl2 := hl.trans hlz; have ho2 := Lib.hid hoz; clear hoz c0 c3 c4 c5 c6 c7; obtain ⟨c0, c3, c4, c5, c6, c7⟩ := HC.out _ hl2)
              clear hlz
              go_loopw [3, 90] (fun v i wr => ∃ k : Nat, k ≤ I.length ∧ i = .int .i64 k ∧ Hid (OwnU wr B v (P6 ++ (I.take k).flatMap n3)) ∧ LU B wa wr) (fun _ i _ => I.length - (intOf i).toNat)
              case atStart => exact ⟨0, by omega, rfl, by simpa using ho2, hl2⟩
              case round =>
                clear c0 c3 c4 c5 c6 c7 hl2 ho2 hl HO1
                obtain ⟨k, hk, rfl, HO, hl⟩ := hrel
                by_cases hlt : k < I.length
                · obtain ⟨x, hx⟩ : ∃ x, I[k]? = some x := ⟨_, List.getElem?_eq_getElem hlt⟩
                  obtain ⟨b, o, rfl, hbl, hcs⟩ := Enc.rd_cell (E := eI) (HIR.out _ hl) rfl hx
                  have x0 : wr.cell? ⟨b, o + k, none⟩ = some (.int .i64 x) := by simpa [eI] using hcs 0 _ rfl
                  have HXX := Lib.hid hx
                  have hlS := lI.out
                  have HBb := Nat.le_trans HZ.out hl.size
                  have z1 := HLD.out k x hx
                  have HNP := Lib.hid (number_any _ B _ _ x HO.out HBb (by omega))
                  clear hx hcs
                  go_wp2_with (go_at_call 31; refine HNP.out.mono ?_; rintro e wz ⟨vz, rfl, hoz, hlz⟩; have hl2 := hl.trans hlz; have ho2 : Hid (OwnU wz B vz (P6 ++ (I.take (k + 1)).flatMap n3)) := Lib.hid (by rw [fm_take HXX.out]; simpa [List.append_assoc] using hoz); clear hoz hlz)
                  go_roundw
                  case rel => exact ⟨k + 1, by omega, by go_num, ho2, hl2⟩
                  case measure => simp [intOf]; omega
                · obtain rfl : k = I.length := by omega
                  have HO1 : Hid (OwnU _ B _ X) := Lib.hid (by rw [← HX.out]; simpa using HO.out)
                  have HF := Lib.hid (HFIN.out _ hl)
                  clear HO hlt hk
                  go_wp2
                  go_ret
                  exact ⟨_, rfl, HO1.out, HF.out⟩
end Go.Proofs.YtlehkaibbkblkaaGreatDoor
