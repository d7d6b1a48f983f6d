/- Layer 4: heavy. -/

import Derived.Test.YtbhoiibcfibmhaaDlArg
namespace Go.Proofs.Ytbhoiibcfibmhaa
open Go.RowKit
def HvPost (w : World) (n m : Nat) (e : Ending) (w' : World) : Prop := ∃ b, e = .returned (.bool b) ∧ (b = false → n ≤ 2560 ∧ m ≤ 200) ∧ Below w.heap.size w w'
set_option maxHeartbeats 400000 in
theorem heavy4 (w : World) (bo lo : Option Addr) (n bc m lc : Nat) (hn : n ≤ bc) (hbc : bc ≤ 9223372036854775807) (hm : m ≤ lc) (hlc : lc ≤ 9223372036854775807) :
    Calls Try.prog 5 #[.agg #[.slice bo n bc, .slice lo m lc]] w (HvPost w n m) := by
  by_cases h1 : 2560 < n
  · go_enter Try.func5, Try.ntmps5
    go_wp2
    go_ret
    exact ⟨_, rfl, fun h => by simp_all, ((Below.refl _ _).alloc (Nat.le_refl _) _)⟩
  · have h1' : n ≤ 2560 := by omega
    clear h1
    go_enter Try.func5, Try.ntmps5
    go_wp2
    go_ret
    refine ⟨_, rfl, fun h => ?_, ((Below.refl _ _).alloc (Nat.le_refl _) _)⟩
    simp at h
    omega
end Go.Proofs.Ytbhoiibcfibmhaa
