/- The contract of Driver.Free. -/

import Derived.Test.YtfffehbipcikoaaRing3
namespace Go.Proofs.Ytfffehbipcikoaa
open Go.RowKit

def freeN (bz : List Bool) : Nat := (bz.filter (fun b => !b)).length
theorem freeN_le (bz : List Bool) : freeN bz ≤ bz.length := List.length_filter_le _ _
theorem freeN_take {bz : List Bool} {i : Nat} {b : Bool} (h : bz[i]? = some b) : freeN (bz.take (i + 1)) = freeN (bz.take i) + if b then 0 else 1 := by
  rw [List.take_add_one, h]
  unfold freeN
  rw [List.filter_append, List.length_append]
  cases b <;> rfl

set_option maxHeartbeats 1000000 in
theorem Free_any (w : World) (D bs : Nat) (q : Int) (m : Nat) (br : Bool) (wr rd : Nat) (bz : List Bool) (x y : Value)
    (hH : Whole w D 123 (halfCells q m br wr rd ++ [.slice (some ⟨bs, 0, none⟩) bz.length bz.length, x, y])) (hB : Whole w bs 4 (bz.map (.bool ·))) (hl : bz.length ≤ 64) :
    Calls Try.prog 39 #[.pointer (some ⟨D, 0, none⟩)] w fun e w' => e = .returned (.int .i64 (freeN bz)) ∧ w' = w := by
  have c8 : w.cell? ⟨D, 8, none⟩ = some (.slice (some ⟨bs, 0, none⟩) bz.length bz.length) := by rw [hH.cell]; rfl
  have HB := Lib.hid hB
  clear hH hB
  go_enter Try.func39, Try.ntmps39
  go_wp2
  go_loopw [2, 4, 10] (fun n _ i wr => ∃ k : Nat, k ≤ bz.length ∧ n = .int .i64 (freeN (bz.take k)) ∧ i = .int .i64 k ∧ wr = w) (fun _ _ i _ => bz.length - (intOf i).toNat)
  case atStart => exact ⟨0, by omega, rfl, rfl, rfl⟩
  case round =>
    obtain ⟨k, hk, rfl, rfl, rfl⟩ := hrel
    by_cases hlt : k < bz.length
    · obtain ⟨b, hb⟩ : ∃ b, bz[k]? = some b := ⟨_, List.getElem?_eq_getElem hlt⟩
      have hT := freeN_take hb
      have hc : wr.cell? ⟨bs, k, none⟩ = some (.bool b) := by rw [HB.out.cell, List.getElem?_map, hb]; rfl
      have HT := Lib.hid hT
      have hle := freeN_le (bz.take k)
      rw [List.length_take] at hle
      have hle2 : freeN (bz.take k) ≤ 64 := by omega
      clear hT hb hle
      cases b
      · go_wp2
        go_roundw
        case rel => exact ⟨k + 1, by omega, by rw [HT.out]; go_num, by go_num, trivial⟩
        case measure => simp [intOf]; omega
      · go_wp2
        go_roundw
        case rel => exact ⟨k + 1, by omega, by rw [HT.out]; rfl, by go_num, trivial⟩
        case measure => simp [intOf]; omega
    · have hk' : k = bz.length := by omega
      subst hk'
      go_wp2
      rw [List.take_length]
      go_ret
      exact ⟨rfl, rfl⟩
end Go.Proofs.Ytfffehbipcikoaa
