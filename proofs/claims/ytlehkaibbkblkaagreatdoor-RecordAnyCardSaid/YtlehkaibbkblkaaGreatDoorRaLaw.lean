/- The law's may: a broker that lasts lasts as it is. -/


import Derived.Test.YtlehkaibbkblkaaGreatDoorRaMay
import Derived.Test.YtlehkaibbkblkaaGreatDoorRaDur
import Derived.Test.YtlehkaibbkblkaaGreatDoorRcEqB2
namespace Go.Proofs.YtlehkaibbkblkaaGreatDoor
open Go.RowKit Go.Shelf Go.Proofs
set_option maxRecDepth 20000 in
set_option maxHeartbeats 2000000 in
theorem lmay_ok (w : World) (lv sv kv : Value) (R : List Rs) (b : Br) (h : BRd w w.heap.size lv sv kv R b) (hk : rmOk b) (hE : Env w) :
    Calls Tryz.prog 10 #[.agg #[lv, sv, kv]] w fun e w' => e = .returned (.bool true) ∧ Below w.heap.size w w' := by
  obtain ⟨la, lc, rfl, _, _⟩ := h.l.form
  obtain ⟨sa, sc, rfl, _, _⟩ := h.s.form
  obtain ⟨ka, kc, rfl, _, _⟩ := h.k.form
  obtain ⟨wa, hwa⟩ : ∃ wa, w.alloc (.cells #[.slice la b.L.length lc, .slice sa R.length sc, .slice ka b.K.length kc] 29) = wa := ⟨_, rfl⟩
  have hb0 : Below w.heap.size w wa := by rw [← hwa]; exact (Below.refl _ _).alloc (Nat.le_refl _) _
  have hW : Whole wa w.heap.size 29 [.slice la b.L.length lc, .slice sa R.length sc, .slice ka b.K.length kc] := by rw [← hwa]; exact Whole.new w 29 _
  have hg := fun wx (hx : Below wa.heap.size wa wx) => ((h.below hb0).below (hx.mono hb0.size)).more (Nat.le_trans hb0.size hx.size)
  have HMY := Lib.hid (fun wx (hx : Below wa.heap.size wa wx) => rbMay_ok wx _ _ _ R b (hg wx hx) hk ((hE.below hb0).below hx))
  have HDU := Lib.hid (fun wx (hx : Below wa.heap.size wa wx) => Dur_any wx _ _ _ R b (hg wx hx) hk.1)
  have HG := Lib.hid hg
  have HK := Lib.hid hk
  have HCA := Lib.hid (fun wx (hx : Below wa.heap.size wa wx) => (hW.belowH hx).three)
  have HWA := Lib.hid hwa
  have HB0 := Lib.hid hb0
  have hcur := (Below.refl wa.heap.size wa).drew
  obtain ⟨x0, x1, x2, _, _, _⟩ := hW.three
  clear h hk hE hwa hb0 hW hg
  go_enter Tryz.func10, Tryz.ntmps10
  go_upto_region 1 with fail
  rw [HWA.out]
  refine wp_region_held_drew (S := fun wx => wx.cell? ⟨w.heap.size, 0, none⟩ = some (.slice la b.L.length lc) ∧ wx.cell? ⟨w.heap.size, 1, none⟩ = some (.slice sa R.length sc) ∧ wx.cell? ⟨w.heap.size, 2, none⟩ = some (.slice ka b.K.length kc)) (by kernel_rfl) ⟨x0, x1, x2⟩ (fun hHeld => ?_)
  refine tk 0 (by assumption) ?_
  (try simp only [Act.put, List.setIfInBounds_toArray, List.set_cons_zero, List.set_cons_succ])
  refine wpAnyH_ready (rs := [1]) (by kernel_rfl) (by simp) ?_
  refine call_h 1 ⟨?_, ?_, fun K hK => ?_⟩
  rotate_left 1
  · (simp only [List.getElem?_toArray, List.getElem?_cons_succ, List.getElem?_cons_zero]; exact rfl)
  go_simp
  (go_at_call 22; refine (HMY.out _ hcur).mono ?_; rintro e w1 ⟨rfl, hb1⟩)
  go_wp2_with fail
  have hc1 := b_tr hcur hb1
  refine hK.out _ _ ⟨b_cell hb1 x0, b_cell hb1 x1, b_cell hb1 x2⟩ (fun hHeld => ?_)
  clear hK K
  (try simp only [Act.put, List.setIfInBounds_toArray, List.set_cons_zero, List.set_cons_succ])
  refine tk 2 (by assumption) ?_
  (try simp only [Act.put, List.setIfInBounds_toArray, List.set_cons_zero, List.set_cons_succ])
  refine tk 3 (by assumption) ?_
  (try simp only [Act.put, List.setIfInBounds_toArray, List.set_cons_zero, List.set_cons_succ])
  refine tk 4 (by assumption) ?_
  (try simp only [Act.put, List.setIfInBounds_toArray, List.set_cons_zero, List.set_cons_succ])
  refine wpAnyH_ready (rs := [5]) (by kernel_rfl) (by simp) ?_
  refine call_h 5 ⟨?_, ?_, fun K hK => ?_⟩
  rotate_left 1
  · (simp only [List.getElem?_toArray, List.getElem?_cons_succ, List.getElem?_cons_zero]; exact rfl)
  go_simp
  (go_at_call 23; refine (HDU.out _ hc1).mono ?_; rintro e w2 ⟨sv2, kv2, rfl, ⟨R2, hr2⟩, hb2⟩; obtain ⟨sa2, sc2, rfl, _, _⟩ := hr2.s.form; obtain ⟨ka2, kc2, rfl, _, _⟩ := hr2.k.form)
  go_wp2_with fail
  have hb12 := b_tr hb1 hb2
  have hc2 := b_tr hc1 hb2
  have HEQ := Lib.hid (eqB_any w2 _ _ _ _ _ _ R R2 b (durB b) (HG.out _ hc2) hr2)
  rw [durB_same HK.out, yes_true rfl] at HEQ
  refine hK.out _ _ ⟨b_cell hb12 x0, b_cell hb12 x1, b_cell hb12 x2⟩ (fun hHeld => ?_)
  clear hK K
  (try simp only [Act.put, List.setIfInBounds_toArray, List.set_cons_zero, List.set_cons_succ])
  refine wpAnyH_ready (rs := [6]) (by kernel_rfl) (by simp) ?_
  refine call_h 6 ⟨?_, ?_, fun K hK => ?_⟩
  rotate_left 1
  · (simp only [List.getElem?_toArray, List.getElem?_cons_succ, List.getElem?_cons_zero]; exact rfl)
  go_simp
  (go_at_call 8; refine HEQ.out.mono ?_; rintro e w3 ⟨rfl, hb3⟩)
  go_wp2_with fail
  have hb13 := b_tr hb12 hb3
  have hc3 := b_tr hc2 hb3
  refine hK.out _ _ ⟨b_cell hb13 x0, b_cell hb13 x1, b_cell hb13 x2⟩ (fun hHeld => ?_)
  clear hK K
  (try simp only [Act.put, List.setIfInBounds_toArray, List.set_cons_zero, List.set_cons_succ])
  refine tk 7 (by assumption) ?_
  (try simp only [Act.put, List.setIfInBounds_toArray, List.set_cons_zero, List.set_cons_succ])
  refine tk 8 (by assumption) ?_
  (try simp only [Act.put, List.setIfInBounds_toArray, List.set_cons_zero, List.set_cons_succ])
  refine wpAnyH_done (by kernel_rfl) ?_ _
  clear hHeld
  go_wp2
  go_ret
  exact ⟨rfl, b_tr HB0.out hc3⟩
end Go.Proofs.YtlehkaibbkblkaaGreatDoor
