/- SubsExact: the page's Best, Within, and the walk. -/

import Derived.Test.YtimjbojoeacaeaaDoorSbEq
import Derived.Test.YtimjbojoeacaeaaDoorSbHeavy
import Derived.Test.YtimjbojoeacaeaaDoorSbWakes
import Derived.Outline
import Derived.IntWalk
import Derived.Deep.DeepCutAuto
namespace Go.Proofs.YtimjbojoeacaeaaDoor
open Go.RowKit Go.Shelf Go.Proofs

def within (i n : Int) : Int := i % 18446744073709551616 % n
theorem within_nn (i n : Int) (h : 1 ≤ n) : 0 ≤ within i n := Int.emod_nonneg _ (by omega)
theorem within_lt (i n : Int) (h : 1 ≤ n) : within i n < n := Int.emod_lt_of_pos _ (by omega)
theorem within_eq (i n : Int) (h : 1 ≤ n) (h2 : n ≤ 65536) : wrap64 ((IntKind.u64.wrap i).tmod n) = within i n := by
  have h0 : 0 ≤ IntKind.u64.wrap i := by rw [IntKind.wrap_u64]; omega
  rw [Int.tmod_eq_emod_of_nonneg h0, IntKind.wrap_u64]
  have a := within_nn i n h
  have b := within_lt i n h
  unfold within at a b ⊢
  exact IntWalk.wrap64_in _ ⟨by omega, by omega⟩
set_option maxHeartbeats 400000 in
theorem Within_any (w : World) (i n : Int) (h : 1 ≤ n) (h2 : n ≤ 65536) :
    Calls Tryd.prog 24 #[.int .i64 i, .int .i64 n] w fun e w' => e = .returned (.int .i64 (within i n)) ∧ w = w' := by
  go_enter Tryd.func24, Tryd.ntmps24
  go_wp2
  rw [within_eq i n h h2]
  go_ret
  exact ⟨rfl, rfl⟩

set_option maxHeartbeats 2000000 in
theorem rBest_any (w : World) (v : Value) (L : List Wish1) (t : ByteArray) (h : Rd w w.heap.size 2 v L.length (wCells L)) (hs : Short L) (ht : t.size ≤ 100000) (ht1 : 1 ≤ t.size)
    (hq : ∀ (i : Nat) (x : Wish1), L[i]? = some x → mayW x = true) :
    Calls Tryd.prog 43 #[v, .string t] w fun e w' => e = .returned (.int .i64 (bestFrom t (-1) L)) ∧ Below w.heap.size w w' := by
  obtain ⟨ao, cap, rfl, hc, hm⟩ := h.form
  have hc2 : cap ≤ 9223372036854775807 := by unfold maxLen at hm; omega
  have H := Lib.hid h
  have HS := Lib.hid hs
  have HQ := Lib.hid hq
  clear h hm hs hq
  go_enter Tryd.func43, Tryd.ntmps43
  go_wp2
  go_loopw [5, 6] (fun q i wr => ∃ (k : Nat) (z : Int), k ≤ L.length ∧ i = .int .i64 k ∧ q = .int .i64 z ∧ -1 ≤ z ∧ z ≤ 2 ∧ Hid (bestFrom t (-1) L = bestFrom t z (L.drop k)) ∧ Below w.heap.size w wr) (fun _ i _ => L.length - (intOf i).toNat)
  case atStart => exact ⟨0, -1, by omega, rfl, rfl, by omega, by omega, Lib.hid (by simp), Below.refl _ _⟩
  case round =>
    obtain ⟨i, z, hi, rfl, rfl, hz1, hz2, HB, hb⟩ := hrel
    by_cases hlt : i < L.length
    · obtain ⟨x, hx⟩ : ∃ x, L[i]? = some x := ⟨_, List.getElem?_eq_getElem hlt⟩
      obtain ⟨b, o, rfl, hbl, c0, c1⟩ := wish_cell (H.out.below hb) rfl hx
      have hsx := HS.out i x hx
      have hmx := HQ.out i x hx
      obtain ⟨hxq, hxq2⟩ := mayW_q hmx
      have HD := Lib.hid (bestFrom_drop t z hx)
      have hbs := hb.size
      clear hx
      obtain ⟨xf, xq⟩ := x
      simp only at c0 c1 hsx hxq hxq2
      have hft : ft xf = true := by unfold mayW at hmx; rw [Bool.and_eq_true] at hmx; exact hmx.1
      have hx1 : 1 ≤ xf.size := (ft_len hft).1
      have HRF := Lib.hid (ref_fit (t := t) hft)
      clear hmx hft
      go_wp2_with fail
      refine (rMatch_any _ _ _ hsx ht hx1 ht1).mono ?_
      rintro e w1 ⟨rfl, hb1⟩
      rw [HRF.out]
      have hbb := bel_tr hb hb1
      cases hf : fitB xf t
      · have HD2 : Hid (bestFrom t (-1) L = bestFrom t z (L.drop (i + 1))) := Lib.hid (by rw [HB.out, HD.out, hf]; rfl)
        clear hf
        go_wp2
        go_roundw
        case rel => exact ⟨i + 1, z, by omega, by go_num, rfl, by omega, by omega, HD2, hbb⟩
        case measure => simp [intOf]; omega
      · have HD2 : Hid (bestFrom t (-1) L = bestFrom t (max z xq) (L.drop (i + 1))) := Lib.hid (by rw [HB.out, HD.out, hf]; rfl)
        have d1 := cell_bel c1 hb1
        have hmx1 : -1 ≤ max z xq := by omega
        have hmx2 : max z xq ≤ 2 := by omega
        clear hf
        go_wp2
        go_roundw
        case rel => exact ⟨i + 1, max z xq, by omega, by go_num, rfl, hmx1, hmx2, HD2, hbb⟩
        case measure => simp [intOf]; omega
    · have : i = L.length := by omega
      subst this
      go_wp2
      go_ret
      exact ⟨by rw [HB.out, List.drop_length]; rfl, hb⟩
end Go.Proofs.YtimjbojoeacaeaaDoor
