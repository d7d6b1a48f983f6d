/- The log: Open. -/

import Derived.Test.YtcgdlmlolmfinaaLgLoad
namespace Go.Proofs.Ytcgdlmlolmfinaa
open Go.RowKit
def OpP (w : World) (base RD : Nat) (F : List Nat) (L' : LS) (R : Nat) (w' : World) : Prop := ∃ F' lv', LgAt w' base R RD F' lv' L' ∧ Left F w w' ∧ (∀ x ∈ F', x ∈ F ∨ w.heap.size ≤ x) ∧ (∀ k, lv'.ownBlock = some k → w.heap.size ≤ k) ∧ w.heap.size ≤ R
section
variable {w w' w1 : World} {base R RD : Nat} {F F1 : List Nat} {s s1 s' : DS}
set_option maxRecDepth 20000 in
set_option maxHeartbeats 2000000 in
theorem lopen (hd : DkG w base RD F s) (hz : base ≤ w.heap.size) (hon : On s) (hlast : 0 ≤ s.last ∧ s.last ≤ 800000000) :
    Calls Try.prog 6 #[.pointer (some ⟨RD, 0, none⟩)] w fun e w' => e = .returned (.tuple #[.pointer (if (openS cbL s).1 = 0 then some ⟨w.heap.size, 0, none⟩ else none), .int .i64 (openS cbL s).1]) ∧ OpP w base RD F (openS cbL s).2 w.heap.size w' := by
  have HSE := Lib.hid (Sectors_g hd)
  rw [hon.len] at HSE
  have e4 : ((262144 / 64 : Nat) : Int) = 4096 := by omega
  rw [e4] at HSE
  obtain ⟨wa, hwa⟩ : ∃ wa, wa = w.alloc (.cells #[.pointer (some ⟨RD, 0, none⟩), .slice none 0 0, .int .i64 0, .int .i64 0, .int .i64 0, .int .i64 1, .bool false] 54) := ⟨_, rfl⟩
  have hF := hd.lt
  have hla : Left [] w wa := by rw [hwa]; exact (Left.refl _ _).alloc _
  have hA : LgAt wa base w.heap.size RD F (.slice none 0 0) ⟨s, [], 0, 0, 0, 1, false⟩ :=
    ⟨by rw [hwa]; exact Whole.new w 54 (lgHead RD (.slice none 0 0) ⟨s, [], 0, 0, 0, 1, false⟩), hd.left0 hla, World.ownsRow_nil _ _ _ _, fun hm => by have := (hF _ hm).2; omega, fun k hk => (by cases hk), hz⟩
  have HLD := Lib.hid (lload hA (by have := hla.size; omega) hon hlast)
  have HA := Lib.hid hla
  have hch := hwa.symm
  clear hA hla hF hd hz hon hlast e4 hwa
  obtain ⟨e5, L5, h5⟩ : ∃ e5 L5, openS cbL s = (e5, L5) := ⟨_, _, rfl⟩
  rw [h5] at HLD ⊢
  clear h5
  go_enter Try.func6, Try.ntmps6
  go_wp2_with (go_at_call 22; refine HSE.out.mono ?_; rintro e w' ⟨rfl, rfl⟩)
  refine HLD.out.mono ?_
  rintro e w2 ⟨rfl, F2, lv2, h2, hl2, hf2, hv2⟩
  have hR : OpP w base RD F L5 w.heap.size w2 := by
    have hsz := HA.out.size
    refine ⟨F2, lv2, h2, (HA.out.mono (T := F) (by simp)).trans hl2 (fun k hk => ?_), fun x hx => ?_, fun k hk => ?_, Nat.le_refl _⟩
    · rcases List.mem_cons.1 hk with h | h
      · exact .inr (by omega)
      · exact .inl h
    · rcases hf2 x hx with h | h
      · exact .inl h
      · exact .inr (by omega)
    · have := hv2 k hk; omega
  have HR := Lib.hid hR
  clear h2 hl2 hf2 hv2 hR hch
  by_cases h0 : e5 = 0
  · subst h0
    go_wp2
    go_ret2
    exact ⟨rfl, HR.out⟩
  · have hne : (e5 != 0) = true := bne_iff_ne.2 h0
    go_wp2
    go_ret2
    exact ⟨rfl, HR.out⟩
set_option maxRecDepth 20000 in
theorem lopen_nil (w : World) : Calls Try.prog 6 #[.pointer none] w fun e w' => e = .returned (.tuple #[.pointer none, .int .i64 1]) ∧ w = w' := by
  go_enter Try.func6, Try.ntmps6
  go_wp2
  go_ret2
  exact ⟨rfl, rfl⟩
end
end Go.Proofs.Ytcgdlmlolmfinaa
