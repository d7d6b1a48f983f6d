/- slices.Clone at bytes. -/

import Derived.Test.YtcgdlmlolmfinaaSli
namespace Go.Proofs.Ytcgdlmlolmfinaa
open Go.RowKit
theorem info_u8 : (Try.prog.info? 5).map (fun i => (i.zero, i.size, i.bytes)) = some (some (.int .u8 0), 1, 1) := by kernel_rfl
set_option maxHeartbeats 400000 in
theorem Clone_any (w : World) (v : Value) (n : Nat) (xs : List Value) (h : Rd w w.heap.size 1 v n xs) (h1 : ∀ u ∈ xs, u.oneCell' = true) (hn : n ≤ 1048576) :
    Calls Try.prog 38 #[v] w fun e w' => ∃ v', e = .returned v' ∧ w'.ownsRow w.heap.size 5 1 v' n xs ∧ Below w.heap.size w w' := by
  obtain ⟨ao, cap, rfl, hc, hm⟩ := h.form
  clear hm
  rcases ao with _ | ad
  · obtain ⟨hl, ao', cap', e', h3, _, h5, _⟩ := h
    injection e' with e1 _ e3
    subst e1 e3
    have hc0 := h5 rfl
    subst hc0
    have hn0 : n = 0 := by omega
    subst hn0
    have hx : xs = [] := List.eq_nil_of_length_eq_zero (by omega)
    subst hx
    clear h5 hl hc h1 h3 hn
    have hnil := fun w => Lib.run_eql_slice_nil (P := Try.prog) w 33 5 none 0 0 0 0 Try.underlying33
    go_enter Try.func38, Try.ntmps38
    go_wp2
    go_ret
    exact ⟨_, rfl, World.ownsRow_nil _ _ _ _, Below.refl _ _⟩
  · have hnil := fun w => Lib.run_eql_slice_nil (P := Try.prog) w 33 5 (some ad) n cap 0 0 Try.underlying33
    have H := Lib.hid h
    have H1 := Lib.hid h1
    clear h h1
    go_enter Try.func38, Try.ntmps38
    go_wp2_with (at_builtin; refine wpList_app _ rfl (.tmp 5) (.tmp 6) _ rfl w.heap.size 5 (.int .u8 0) 1 1 Try.underlying33 info_u8 rfl (by omega) (.slice (some ⟨w.heap.size, 0, none⟩) 0 0) 0 [] rfl (World.ownsRow_made w #[] 0 (Nat.le_refl _) (by unfold maxLen; omega) rfl) w.heap.size _ n xs rfl (H.out.below ((Below.refl _ _).alloc (Nat.le_refl _) _)) H1.out ?_ ?_ (by simp) ?_; unfold maxLen; omega; omega; intro v1 w1 hown hg hat; have hb1 := ((Below.refl w.heap.size w).alloc (Nat.le_refl _) (.cells #[] 5)).grown hg (by simp) (by simp [Value.ownBlock]))
    go_ret
    exact ⟨v1, rfl, by simpa using hown, hb1⟩
end Go.Proofs.Ytcgdlmlolmfinaa
