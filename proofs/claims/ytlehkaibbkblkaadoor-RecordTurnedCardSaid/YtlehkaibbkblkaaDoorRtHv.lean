/- Heavy, of layer 25, of any broker. -/

import Derived.Test.YtlehkaibbkblkaaDoorRcWei
namespace Go.Proofs.YtlehkaibbkblkaaDoor
open Go.RowKit
theorem Heavy_any (w : World) (lv sv kv : Value) (R : List Rs) (b : Br) (h : BRd w w.heap.size lv sv kv R b) (hr : BW RR b) :
    Calls Tryd.prog 4 #[.agg #[lv, sv, kv]] w fun e w' => ∃ r : Bool, e = .returned (.bool r) ∧ (r = false → ShB b) ∧ Below w.heap.size w w' := by
  obtain ⟨wa, hwa⟩ : ∃ wa, w.alloc (.cells #[lv, sv, kv] 28) = wa := ⟨_, rfl⟩
  obtain ⟨la, lc, rfl, _, _⟩ := h.l.form
  obtain ⟨sa, sc, rfl, _, _⟩ := h.s.form
  obtain ⟨ka, kc, rfl, _, _⟩ := h.k.form
  have hb0 : Below w.heap.size w wa := by rw [← hwa]; exact (Below.refl _ _).alloc (Nat.le_refl _) _
  have hW : Whole wa w.heap.size 28 [.slice la b.L.length lc, .slice sa R.length sc, .slice ka b.K.length kc] := by rw [← hwa]; exact Whole.new w 28 _
  have HBW := Lib.hid (bw_any wa _ _ _ R b ((h.below hb0).more hb0.size) hr)
  have HWA := Lib.hid hwa
  have HB0 := Lib.hid hb0
  obtain ⟨c0, c1, c2, _, _, _⟩ := hW.three
  clear h hr hwa hb0 hW
  go_enter Tryd.func4, Tryd.ntmps4
  go_upto_region 1 with fail
  rw [HWA.out]
  go_wp2_with (go_at_call 13; refine HBW.out.mono ?_; rintro e w1 ⟨n, rfl, hn, hf, hb1⟩)
  go_ret
  exact ⟨_, rfl, fun h => (hf (by simp at h; omega)).sh (by simp at h; omega), b_tr HB0.out hb1⟩
end Go.Proofs.YtlehkaibbkblkaaDoor
