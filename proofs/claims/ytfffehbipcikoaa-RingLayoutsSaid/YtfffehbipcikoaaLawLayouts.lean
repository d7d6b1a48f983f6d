/- RingLayouts: the walk: for every list of integers the law returns true and leaves what was there alone. -/

import Derived.Test.YtfffehbipcikoaaLay
namespace Go.Proofs.Ytfffehbipcikoaa
open Go.RowKit

set_option maxHeartbeats 1000000 in
theorem RingLayouts_any (ao : Option Addr) (len cap : Nat) (zs : List Int) (w : World) (hm : len ≤ 9223372036854775807)
    (hc : ∀ i, i < len → ∃ a, ao = some a ∧ a.spot = none ∧ w.cell? ⟨a.block, a.off + i, none⟩ = some (.int .i64 (zs.getD i 0)) ∧ a.block < w.heap.size) :
    Calls Try.prog 3 #[.slice ao len cap] w fun e w' => e = .returned (.bool true) ∧ Below w.heap.size w w' := by
  have HC := Lib.hid hc
  clear hc
  go_enter Try.func3, Try.ntmps3
  go_wp2
  go_loopw [3] (fun q wr => ∃ k : Int, -2 ≤ k ∧ k ≤ 131 ∧ q = .int .i64 k ∧ Below w.heap.size w wr) (fun q _ => (131 - intOf q).toNat)
  case atStart => exact ⟨-2, by omega, by omega, rfl, Below.refl _ _⟩
  case round =>
    obtain ⟨k, hk1, hk2, rfl, hb⟩ := hrel
    by_cases hlt : k ≤ 130
    · by_cases hq : isQ k = true
      · have HQ := Lib.hid hq
        clear hq
        go_wp2_with fail
        refine (Layout_yes _ _ HQ.out).mono ?_
        rintro e w1 ⟨rfl, hb1⟩
        go_wp2_with fail
        refine (rLayout_yes _ _ HQ.out).mono ?_
        rintro e w2 ⟨rfl, rfl⟩
        go_wp2
        go_roundw
        case rel => exact ⟨k + 1, by omega, by omega, rfl, hb.trans (hb1.mono hb.size)⟩
        case measure => simp [intOf]; omega
      · have HQ := Lib.hid (eq_false_of_ne_true hq)
        clear hq
        go_wp2_with fail
        refine (Layout_no _ _ HQ.out).mono ?_
        rintro e w1 ⟨rfl, hb1⟩
        go_wp2_with fail
        refine (rLayout_no _ _ HQ.out).mono ?_
        rintro e w2 ⟨rfl, rfl⟩
        go_wp2
        go_roundw
        case rel => exact ⟨k + 1, by omega, by omega, rfl, hb.trans (hb1.mono hb.size)⟩
        case measure => simp [intOf]; omega
    · go_wp2
      have hz := hb.size
      obtain ⟨wo, hwo⟩ : ∃ wo : World, wo = wr := ⟨_, rfl⟩
      subst hwo
      go_loopw [12] (fun q wr => ∃ k : Nat, k ≤ len ∧ k ≤ 40 ∧ q = .int .i64 k ∧ Below w.heap.size w wr) (fun q _ => (40 - intOf q).toNat)
      case atStart => exact ⟨0, by omega, by omega, rfl, hb⟩
      case round =>
        obtain ⟨j, hj1, hj2, rfl, hb⟩ := hrel
        by_cases hjl : j < len
        · by_cases hj40 : j < 40
          · obtain ⟨a, rfl, hsp, hcell, hblk⟩ := HC.out j hjl
            have hcx := (hb.cell (p := ⟨a.block, a.off + j, none⟩) hblk).trans hcell
            obtain ⟨z, hz'⟩ : ∃ z, z = zs.getD j 0 := ⟨_, rfl⟩
            rw [← hz'] at hcx
            clear hz' hcell
            obtain ⟨ab, aoff, aspot⟩ := a
            simp only at hsp hcx hblk
            subst hsp
            by_cases hq : isQ z = true
            · have HQ := Lib.hid hq
              clear hq
              go_wp2_with fail
              refine (Layout_yes _ _ HQ.out).mono ?_
              rintro e w1 ⟨rfl, hb1⟩
              have hz1 := hb.size
              have hcy := (hb1.cell (p := ⟨ab, aoff + j, none⟩) (by simp only; omega)).trans hcx
              go_wp2_with fail
              refine (rLayout_yes _ _ HQ.out).mono ?_
              rintro e w2 ⟨rfl, rfl⟩
              go_wp2
              go_roundw
              case rel => exact ⟨j + 1, by omega, by omega, by go_num, hb.trans (hb1.mono hb.size)⟩
              case measure => simp [intOf]; omega
            · have HQ := Lib.hid (eq_false_of_ne_true hq)
              clear hq
              go_wp2_with fail
              refine (Layout_no _ _ HQ.out).mono ?_
              rintro e w1 ⟨rfl, hb1⟩
              have hz1 := hb.size
              have hcy := (hb1.cell (p := ⟨ab, aoff + j, none⟩) (by simp only; omega)).trans hcx
              go_wp2_with fail
              refine (rLayout_no _ _ HQ.out).mono ?_
              rintro e w2 ⟨rfl, rfl⟩
              go_wp2
              go_roundw
              case rel => exact ⟨j + 1, by omega, by omega, by go_num, hb.trans (hb1.mono hb.size)⟩
              case measure => simp [intOf]; omega
          · go_wp2_with fail
            refine (wakes_any _).mono ?_
            rintro e w1 ⟨rfl, hb1⟩
            go_wp2
            go_ret
            exact ⟨rfl, hb.trans (hb1.mono hb.size)⟩
        · go_wp2_with fail
          refine (wakes_any _).mono ?_
          rintro e w1 ⟨rfl, hb1⟩
          go_wp2
          go_ret
          exact ⟨rfl, hb.trans (hb1.mono hb.size)⟩
end Go.Proofs.Ytfffehbipcikoaa
