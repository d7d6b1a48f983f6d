/- Law 6: wakes. -/

import Derived.Test.YtcgdlmlolmfinaaLkHelp
namespace Go.Proofs.Ytcgdlmlolmfinaa
open Go.RowKit
theorem KP.below {w w' : World} {base R B : Nat} {X : List Nat} {ls l : List (List UInt8)} {G N : Int} (h : KP w base R X ls l G N w') (hB : B ≤ w.heap.size) (hX : ∀ k ∈ X, B ≤ k) : Below B w w' ∧ ∃ X', KG w' base R X' ls l G N ∧ ∀ k ∈ X', B ≤ k := by
  obtain ⟨X', h1, h2, h3⟩ := h
  refine ⟨h2.belowB hB hX, X', h1, fun k hk => ?_⟩
  rcases h3 k hk with h | h
  · exact hX k h
  · omega
set_option maxRecDepth 20000 in
set_option maxHeartbeats 4000000 in
theorem kwakes (w : World) : Calls Try.prog 13 #[] w fun e w' => e = .returned (.bool true) ∧ Below w.heap.size w w' := by
  have HDI := Lib.hid (kdisk w)
  go_enter Try.func13, Try.ntmps13
  go_wp2_with fail
  refine HDI.out.mono ?_
  rintro e w1 ⟨RD, F, rfl, hd, hl⟩
  have hb1 : Below w.heap.size w w1 := hl.below
  have hFlt := hd.lt
  have hz1 : w.heap.size + 1 ≤ w1.heap.size := by
    obtain ⟨_, _, _, _, _, h⟩ := hd
    have := h.lt RD h.blk.1
    omega
  have HOP := Lib.hid (kopen noughts_len hd hz1 (same_zero (fun m hm => secN_nought m hm)))
  have HB1 := Lib.hid (And.intro hb1 (And.intro hFlt hz1))
  clear hd hl hb1 hFlt hz1
  go_wp2_with fail
  refine HOP.out.mono ?_
  rintro e w2 ⟨rfl, X, hk, hl, hX⟩
  have hb2 : Below w.heap.size w w2 := HB1.out.1.trans (hl.belowB HB1.out.1.size (fun k hk => by have := (HB1.out.2.1 k hk).1; omega))
  have hXB : ∀ k ∈ X, w.heap.size ≤ k := fun k hk => by
    rcases hX k hk with h | h
    · have := (HB1.out.2.1 k h).1; omega
    · have := HB1.out.2.2; omega
  have hz2 : w.heap.size + 1 ≤ w2.heap.size := by have := hl.size; have := HB1.out.2.2; omega
  have HAP := Lib.hid (kappend hk hz2 (by omega) [97] (by simp) (by simp [wtL]))
  have H2 := Lib.hid (And.intro hb2 (And.intro hXB hz2))
  obtain ⟨R, hR⟩ : ∃ R, w1.heap.size = R := ⟨_, rfl⟩
  rw [hR] at HAP ⊢
  clear hk hl hX hb2 hXB hz2 hR
  go_wp2_with (go_at_call 8; refine (knum _ _).mono ?_; rintro e w' ⟨rfl, rfl⟩)
  refine HAP.out.mono ?_
  rintro e w3 ⟨rfl, hP⟩
  obtain ⟨hb3, X3, hk3, hX3⟩ := hP.below (B := w.heap.size) H2.out.1.size H2.out.2.1
  have hz3 : w.heap.size + 1 ≤ w3.heap.size := by have := hb3.size; have := H2.out.2.2; omega
  have HSY := Lib.hid (ksync hk3 hz3 (by omega))
  have H3 := Lib.hid (And.intro (H2.out.1.trans hb3) (And.intro hX3 hz3))
  clear hP hb3 hk3 hX3 hz3
  go_wp2_with (go_at_call 8; refine (knum _ _).mono ?_; rintro e w' ⟨rfl, rfl⟩)
  refine HSY.out.mono ?_
  rintro e w4 ⟨rfl, hP⟩
  obtain ⟨hb4, X4, hk4, hX4⟩ := hP.below (B := w.heap.size) H3.out.1.size H3.out.2.1
  have HAL := Lib.hid (kall hk4)
  have H4 := Lib.hid (H3.out.1.trans hb4)
  clear hP hb4 hk4 hX4
  go_wp2_with (go_at_call 8; refine (knum _ _).mono ?_; rintro e w' ⟨rfl, rfl⟩)
  refine HAL.out.mono ?_
  rintro e w5 ⟨v, rfl, hv, hb⟩
  obtain ⟨vo, vc, rfl, _, _⟩ := (Rd.of_own hv).form
  have hrd := (Rd.of_own hv).belowH ((Below.refl _ w5).alloc (Nat.le_refl _) (.cells #[.string ⟨#[97]⟩] 9)) (Nat.le_refl _)
  have HEQ := Lib.hid (keqs (w5.alloc (.cells #[.string ⟨#[97]⟩] 9)) _ (.slice (some ⟨w5.heap.size, 0, none⟩) 1 1) _ [[97]] _ _ hrd (one_newS w5 (.string ⟨#[97]⟩)))
  have H5 := Lib.hid (H4.out.trans (hb.mono H4.out.size))
  clear hv hb hrd
  go_wp2_with fail
  refine HEQ.out.mono ?_
  rintro e w6 ⟨rfl, nd, rfl⟩
  have hde : decide (([] : List (List UInt8)) ++ [[97]] = [[97]]) = true := rfl
  rw [hde]
  go_wp2
  go_ret
  exact ⟨rfl, below_drewN (H5.out.alloc H5.out.size _) _⟩
end Go.Proofs.Ytcgdlmlolmfinaa
