/- The log: write, read, flush. -/

import Derived.Test.YtcgdlmlolmfinaaLgD
import Derived.Test.YtcgdlmlolmfinaaDkOps
import Derived.Test.YtcgdlmlolmfinaaDkComp
namespace Go.Proofs.Ytcgdlmlolmfinaa
open Go.RowKit
def DkP (w : World) (base RD : Nat) (F : List Nat) (s' : DS) (w' : World) : Prop := ∃ F', DkG w' base RD F' s' ∧ Left F w w' ∧ ∀ k ∈ F', k ∈ F ∨ w.heap.size ≤ k
section
variable {w w' w1 : World} {base R RD : Nat} {F F1 : List Nat} {s s1 s' : DS}
theorem DkP.refl (h : DkG w base RD F s) : DkP w base RD F s w := ⟨F, h, Left.refl _ _, fun _ h => .inl h⟩
theorem DkP.trans (hl : Left F w w1) (hF : ∀ k ∈ F1, k ∈ F ∨ w.heap.size ≤ k) (h : DkP w1 base RD F1 s' w') : DkP w base RD F s' w' := by
  obtain ⟨F', hd, hl2, hf⟩ := h
  have hz := hl.size
  refine ⟨F', hd, hl.trans hl2 hF, fun k hk => ?_⟩
  rcases hf k hk with h | h
  · exact hF k h
  · exact .inr (by omega)
set_option maxRecDepth 20000 in
set_option maxHeartbeats 2000000 in
theorem lflush (h0 : w.cell? ⟨R, 0, none⟩ = some (.pointer (some ⟨RD, 0, none⟩))) (hd : DkG w base RD F s) (hRF : R ∉ F) (hz : base ≤ w.heap.size) (hlast : 0 ≤ s.last ∧ s.last ≤ 1000000000) :
    Calls Try.prog 34 #[.pointer (some ⟨R, 0, none⟩)] w fun e w' => e = .returned (.int .i64 (flS s).1) ∧ DkP w base RD F (flS s).2 w' := by
  have HA := Lib.hid (Flush_g hd hz hlast)
  obtain ⟨id1, e1, s1, hA⟩ : ∃ id1 e1 s1, askS s 2 0 [] true = (id1, e1, s1) := ⟨_, _, _, rfl⟩
  unfold flS
  rw [hA] at HA ⊢
  clear hd hlast hA
  go_enter Try.func34, Try.ntmps34
  go_wp2_with fail
  refine HA.out.mono ?_
  rintro e w1 ⟨rfl, F1, hd1, hl1, hf1⟩
  have c0 : w1.cell? ⟨R, 0, none⟩ = some (.pointer (some ⟨RD, 0, none⟩)) := cell_left' h0 hl1 hRF
  have HC := Lib.hid (Complete_g hd1 (by have := hl1.size; omega) 0)
  have H1 := Lib.hid (And.intro hd1 (And.intro hl1 hf1))
  clear h0 hd1 hl1 hf1
  by_cases h0 : e1 = 0
  · subst h0
    go_wp2_with fail
    refine HC.out.mono ?_
    rintro e w2 ⟨v, rfl, _, F2, hd2, hl2, hf2, _⟩
    have HR := Lib.hid (DkP.trans H1.out.2.1 H1.out.2.2 ⟨F2, hd2, hl2, fun k hk => .inl (hf2 k hk)⟩)
    clear hd2 hl2 hf2
    go_wp2
    go_ret
    exact ⟨rfl, HR.out⟩
  · have hne : (e1 != 0) = true := bne_iff_ne.2 h0
    go_wp2
    go_ret
    simp only [ne_eq, h0, not_false_eq_true, if_true]
    exact ⟨rfl, F1, H1.out⟩
set_option maxRecDepth 20000 in
set_option maxHeartbeats 2000000 in
theorem lread (h0 : w.cell? ⟨R, 0, none⟩ = some (.pointer (some ⟨RD, 0, none⟩))) (hd : DkG w base RD F s) (hRF : R ∉ F) (hz : base ≤ w.heap.size) (n : Nat) (hlast : 0 ≤ s.last ∧ s.last ≤ 1000000000) :
    Calls Try.prog 47 #[.pointer (some ⟨R, 0, none⟩), .int .i64 n] w fun e w' => ∃ v, e = .returned (.tuple #[v, .int .i64 (rdS s n).2.1]) ∧ w'.ownsRow w.heap.size 5 1 v (rdS s n).1.length (u8s (rdS s n).1) ∧ (∃ F', DkG w' base RD F' (rdS s n).2.2 ∧ Left F w w' ∧ (∀ k ∈ F', k ∈ F ∨ w.heap.size ≤ k) ∧ ∀ k, v.ownBlock = some k → k ∉ F') := by
  have HA := Lib.hid (Read_g hd hz n hlast)
  obtain ⟨id1, e1, s1, hA⟩ : ∃ id1 e1 s1, askS s 0 n [] (isS s.K n) = (id1, e1, s1) := ⟨_, _, _, rfl⟩
  unfold rdS
  rw [hA] at HA ⊢
  clear hd hlast hA
  go_enter Try.func47, Try.ntmps47
  go_wp2_with fail
  refine HA.out.mono ?_
  rintro e w1 ⟨rfl, F1, hd1, hl1, hf1⟩
  have c0 : w1.cell? ⟨R, 0, none⟩ = some (.pointer (some ⟨RD, 0, none⟩)) := cell_left' h0 hl1 hRF
  have HC := Lib.hid (Complete_g hd1 (by have := hl1.size; omega) 0)
  have H1 := Lib.hid (And.intro hd1 (And.intro hl1 hf1))
  clear h0 hd1 hl1 hf1
  by_cases h0 : e1 = 0
  · subst h0
    go_wp2_with fail
    refine HC.out.mono ?_
    rintro e w2 ⟨v, rfl, hv, F2, hd2, hl2, hf2, hvF⟩
    have HR := Lib.hid (And.intro hv (And.intro hd2 (And.intro hl2 (And.intro hf2 hvF))))
    obtain ⟨vo, vc, rfl, _, _⟩ := (Rd.of_own hv).form
    clear hv hd2 hl2 hf2 hvF
    go_wp2
    go_ret2
    obtain ⟨r1, r2, r3, r4, r5⟩ := HR.out
    have hz1 := H1.out.2.1.size
    exact ⟨_, rfl, own_base r1 hz1, F2, r2, H1.out.2.1.trans r3 H1.out.2.2, fun k hk => H1.out.2.2 k (r4 k hk), r5⟩
  · have hne : (e1 != 0) = true := bne_iff_ne.2 h0
    go_wp2
    go_ret2
    simp only [ne_eq, h0, not_false_eq_true, if_true]
    exact ⟨_, rfl, World.ownsRow_nil _ _ _ _, F1, H1.out.1, H1.out.2.1, H1.out.2.2, fun k hk => by cases hk⟩
set_option maxRecDepth 20000 in
set_option maxHeartbeats 2000000 in
theorem lwrite (h0 : w.cell? ⟨R, 0, none⟩ = some (.pointer (some ⟨RD, 0, none⟩))) (hd : DkG w base RD F s) (hRF : R ∉ F) (hz : base ≤ w.heap.size) (n : Nat) {bv : Value} {b : List UInt8} (hb : ∀ w', Left F w w' → Rd w' w'.heap.size 1 bv b.length (u8s b)) (hbl : b.length ≤ 1000000) (hlast : 0 ≤ s.last ∧ s.last ≤ 1000000000) :
    Calls Try.prog 40 #[.pointer (some ⟨R, 0, none⟩), .int .i64 n, bv] w fun e w' => e = .returned (.int .i64 (wrS s n b).1) ∧ DkP w base RD F (wrS s n b).2 w' := by
  have HA := Lib.hid (Write_g hd hz n hb hbl hlast)
  obtain ⟨id1, e1, s1, hA⟩ : ∃ id1 e1 s1, askS s 1 n b (isS s.K n && b.length == 64) = (id1, e1, s1) := ⟨_, _, _, rfl⟩
  unfold wrS
  rw [hA] at HA ⊢
  obtain ⟨bo, bc, rfl, _, _⟩ := (hb w (Left.refl _ _)).form
  clear hd hlast hA hb
  go_enter Try.func40, Try.ntmps40
  go_wp2_with fail
  refine HA.out.mono ?_
  rintro e w1 ⟨rfl, F1, hd1, hl1, hf1⟩
  have c0 : w1.cell? ⟨R, 0, none⟩ = some (.pointer (some ⟨RD, 0, none⟩)) := cell_left' h0 hl1 hRF
  have HC := Lib.hid (Complete_g hd1 (by have := hl1.size; omega) 0)
  have H1 := Lib.hid (And.intro hd1 (And.intro hl1 hf1))
  clear h0 hd1 hl1 hf1
  by_cases h0 : e1 = 0
  · subst h0
    go_wp2_with fail
    refine HC.out.mono ?_
    rintro e w2 ⟨v, rfl, _, F2, hd2, hl2, hf2, _⟩
    have HR := Lib.hid (DkP.trans H1.out.2.1 H1.out.2.2 ⟨F2, hd2, hl2, fun k hk => .inl (hf2 k hk)⟩)
    clear hd2 hl2 hf2
    go_wp2
    go_ret
    exact ⟨rfl, HR.out⟩
  · have hne : (e1 != 0) = true := bne_iff_ne.2 h0
    go_wp2
    go_ret
    simp only [ne_eq, h0, not_false_eq_true, if_true]
    exact ⟨rfl, F1, H1.out⟩
end
end Go.Proofs.Ytcgdlmlolmfinaa
