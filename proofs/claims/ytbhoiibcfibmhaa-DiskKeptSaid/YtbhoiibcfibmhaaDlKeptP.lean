/- The program's disk alone: a write that is done, a flush that is done, a crash, as DiskKept wants them. -/

import Derived.Test.YtbhoiibcfibmhaaDlPairs
namespace Go.Proofs.Ytbhoiibcfibmhaa
open Go.RowKit Go.MapKept
/-- Nothing waits; the power stays on; Kp is kept, N is what was written. -/
def KI (s : DS) (Kp N : List UInt8) (j : Nat) : Prop := s.off = false ∧ s.armed = false ∧ s.Q = [] ∧ 0 ≤ s.last ∧ s.last ≤ j ∧ s.K = Kp ∧ flushK s.K s.W = N
def KH (w0 w : World) (B D : Nat) (Kp N : List UInt8) (j : Nat) (X : List Nat) : Prop :=
  Below B w0 w ∧ ∃ s b1 F, DkG w b1 D F s ∧ KI s Kp N j ∧ B ≤ b1 ∧ b1 ≤ w.heap.size ∧ ∀ k ∈ X, k ∉ F ∧ B ≤ k ∧ k < w.heap.size
section
variable {w0 w w' w2 w3 : World} {B D R j : Nat} {s : DS} {Kp N : List UInt8} {X Y : List Nat}
theorem KH.size (h : KH w0 w B D Kp N j X) : B ≤ w.heap.size := by obtain ⟨_, s, b1, F, _, _, h1, h2, _⟩ := h; omega
theorem KH.grow (h : KH w0 w B D Kp N j X) (hb : Below w.heap.size w w') (hY : ∀ k ∈ Y, w.heap.size ≤ k ∧ k < w'.heap.size) : KH w0 w' B D Kp N j (Y ++ X) := by
  have hB := h.size
  obtain ⟨h0, s, b1, F, hd, hi, h1, h2, h3⟩ := h
  have hz := hb.size
  refine ⟨h0.trans (hb.mono hB), s, b1, F, hd.left0 (Left.of_below hb []), hi, h1, by omega, fun k hk => ?_⟩
  rcases List.mem_append.1 hk with hk | hk
  · obtain ⟨y1, y2⟩ := hY k hk
    exact ⟨fun hm => by have := (hd.lt k hm).2; omega, by omega, y2⟩
  · obtain ⟨a, b, c⟩ := h3 k hk
    exact ⟨a, b, by omega⟩
theorem KH.left0 (h : KH w0 w B D Kp N j X) (hb : Below w.heap.size w w') : KH w0 w' B D Kp N j X := h.grow (Y := []) hb (by simp)
theorem KH.own (h : KH w0 w B D Kp N j X) {S : List Nat} (hl : Left S w w') (hS : ∀ k ∈ S, k ∈ X) : KH w0 w' B D Kp N j X := by
  have hB := h.size
  obtain ⟨h0, s, b1, F, hd, hi, h1, h2, h3⟩ := h
  have hz := hl.size
  exact ⟨h0.trans (hl.belowB hB (fun k hk => (h3 k (hS k hk)).2.1)), s, b1, F, hd.left hl (fun k hk => (h3 k (hS k hk)).1), hi, h1, by omega, fun k hk => by obtain ⟨a, b, c⟩ := h3 k hk; exact ⟨a, b, by omega⟩⟩
theorem KH.sub (h : KH w0 w B D Kp N j X) (hY : ∀ k ∈ Y, k ∈ X) : KH w0 w B D Kp N j Y := by
  obtain ⟨h0, s, b1, F, hd, hi, h1, h2, h3⟩ := h
  exact ⟨h0, s, b1, F, hd, hi, h1, h2, fun k hk => h3 k (hY k hk)⟩
theorem KH.more (h : KH w0 w B D Kp N j X) {i : Nat} (hi : j ≤ i) : KH w0 w B D Kp N i X := by
  obtain ⟨h0, s, b1, F, hd, ⟨a, b, c, d, e, f⟩, h1, h2, h3⟩ := h
  exact ⟨h0, s, b1, F, hd, ⟨a, b, c, d, by omega, f⟩, h1, h2, h3⟩
theorem KH.start {b1 : Nat} {F : List Nat} {K : List UInt8} (h1 : DkG w b1 D F (newS K)) (hB : B ≤ b1) (hb : b1 ≤ w.heap.size) (h0 : Below B w0 w) (h64 : K.length % 64 = 0) : KH w0 w B D K K 0 [] :=
  ⟨h0, newS K, b1, F, h1, ⟨rfl, rfl, rfl, Int.le_refl _, Int.le_refl _, rfl, flushK_nil h64⟩, hB, hb, by simp⟩
/-- Blocks and cells of the law's own stay. -/
def FX (X : List Nat) (w w' : World) : Prop := ∃ S, Left S w w' ∧ ∀ k ∈ S, k ∉ X
theorem FX.cell (h : FX X w w') {p : Addr} {v : Value} (hp : p.block ∈ X) (hc : w.cell? p = some v) : w'.cell? p = some v := by
  obtain ⟨S, h, hS⟩ := h
  exact cell_left' hc h (fun hm => hS _ hm hp)
theorem FX.whole (h : FX X w w') {g : Nat} {t : TypeId} {cs : List Value} (hg : g ∈ X) (hw : Whole w g t cs) : Whole w' g t cs := by
  obtain ⟨S, h, hS⟩ := h
  exact hw.left h (fun hm => hS _ hm hg)
theorem FX.size (h : FX X w w') : w.heap.size ≤ w'.heap.size := by obtain ⟨S, h, _⟩ := h; exact h.size
theorem KH.step {s' : DS} {Kp' N' : List UInt8} {j' : Nat} {b1 : Nat} {F F' : List Nat} (h0 : Below B w0 w) (hd : DkG w b1 D F s) (h1 : B ≤ b1) (h2 : b1 ≤ w.heap.size) (h3 : ∀ k ∈ X, k ∉ F ∧ B ≤ k ∧ k < w.heap.size)
    (hd' : DkG w' b1 D F' s') (hl : Left F w w') (hF : ∀ k ∈ F', k ∈ F ∨ w.heap.size ≤ k) (hi : KI s' Kp' N' j') : KH w0 w' B D Kp' N' j' X ∧ FX X w w' := by
  have hz := hl.size
  refine ⟨⟨h0.trans (hl.belowB (by omega) (fun k hk => by have := (hd.lt k hk).1; omega)), s', b1, F', hd', hi, h1, by omega, fun k hk => ?_⟩, F, hl, fun k hk hm => (h3 k hm).1 hk⟩
  obtain ⟨a, b, c⟩ := h3 k hk
  exact ⟨fun hm => by rcases hF k hm with h | h; exact a h; omega, b, by omega⟩
theorem callS_on (h : s.armed = false) : callS s = s := by unfold callS; rw [if_neg (by simp [h])]
/-- A write, done at once: the two calls. -/
theorem KH.write (h : KH w0 w B D Kp N j X) (hj : j ≤ 1000) (hK : Kp.length = 512) {n : Nat} (hn : n < 8) {b : List UInt8} (hb64 : b.length = 64) {g : Nat} (hg : Whole w g 5 (u8s b)) (hgX : g ∈ X) :
    ∃ (id : Int) (M : World → Prop), (Calls Try.prog 9 #[.pointer (some ⟨D, 0, none⟩), .int .i64 (n : Nat), .slice (some ⟨g, 0, none⟩) 64 64] w fun e w2 => e = .returned (.tuple #[.int .i64 id, .int .i64 0]) ∧ M w2) ∧
      ∀ w2, M w2 → Calls Try.prog 10 #[.pointer (some ⟨D, 0, none⟩), .int .i64 0] w2 fun e w3 => ∃ ao l c, e = .returned (.tuple #[.int .i64 id, .slice ao l c, .int .i64 0]) ∧ KH w0 w3 B D Kp (setSec N n b) (j + 1) X ∧ FX X w w3 := by
  have hB := h.size
  obtain ⟨h0, s, b1, F, hd, ⟨i1, i2, i3, i4, i5, i6, i7⟩, h1, h2, h3⟩ := h
  obtain ⟨M, kv, wv, Wv, Qv, hat⟩ := id hd
  have h64 := hat.size.2.1
  have hW := hat.keys_small.2.2.2.1
  have hgF := (h3 g hgX).1
  have hask : askS s 1 (n : Nat) b (isS s.K (n : Nat) && b.length == 64) = (s.last + 1, 0, { s with last := s.last + 1, Q := [⟨s.last + 1, 1, (n : Nat), b⟩] }) := by
    have hgood : (isS s.K (n : Nat) && b.length == 64) = true := by
      rw [i6]
      simp only [isS, hb64, hK, Bool.and_eq_true, decide_eq_true_eq, beq_self_eq_true, and_true]
      omega
    rw [hgood]
    unfold askS
    simp only [callS_on i2, i1, i3, Bool.false_eq_true, if_false, List.length_nil, List.nil_append, Bool.true_eq_false, show ¬ (0 : Nat) = 16 by omega]
  have hrd : ∀ w' : World, Left F w w' → Rd w' w'.heap.size 1 (.slice (some ⟨g, 0, none⟩) 64 64) b.length (u8s b) := fun w' hl => by
    have hg' := hg.left hl hgF
    have := Rd.of_whole hg' (by rw [u8s_length, hb64]; unfold maxLen; omega)
    simpa [hb64] using this
  have hwr := Write_g hd h2 (n : Nat) hrd (by omega) ⟨i4, by omega⟩
  rw [hask] at hwr
  refine ⟨s.last + 1, fun w2 => ∃ F2, DkG w2 b1 D F2 { s with last := s.last + 1, Q := [⟨s.last + 1, 1, (n : Nat), b⟩] } ∧ Left F w w2 ∧ ∀ k ∈ F2, k ∈ F ∨ w.heap.size ≤ k, hwr.mono ?_, fun w2 hM => ?_⟩
  · rintro e w2 ⟨rfl, F2, hd2, hl2, hF2⟩
    exact ⟨rfl, F2, hd2, hl2, hF2⟩
  · obtain ⟨F2, hd2, hl2, hF2⟩ := hM
    have hz2 := hl2.size
    have hcp : compS { s with last := s.last + 1, Q := [⟨s.last + 1, 1, (n : Nat), b⟩] } 0 = (s.last + 1, [], 0, { s with last := s.last + 1, Q := [], W := updW s.W (n : Nat) b }) := by
      unfold compS
      have hc : callS { s with last := s.last + 1, Q := [⟨s.last + 1, 1, (n : Nat), b⟩] } = { s with last := s.last + 1, Q := [⟨s.last + 1, 1, (n : Nat), b⟩] } := callS_on i2
      rw [hc]
      simp only [i1, Bool.false_eq_true, if_false, List.length_cons, List.length_nil, Int.toNat_zero, List.getElem?_cons_zero, List.eraseIdx_cons_zero, if_true]
      rw [if_neg (by omega)]
    have hcc := Complete_g hd2 (by omega) 0
    rw [hcp] at hcc
    refine hcc.mono ?_
    rintro e w3 ⟨v, rfl, ho, F3, hd3, hl3, hF3, _⟩
    obtain ⟨ao, c, rfl, _, _⟩ := (Rd.of_own ho).form
    have hl : Left F w w3 := hl2.trans hl3 hF2
    have hst := KH.step (w' := w3) (Kp' := Kp) (N' := setSec N n b) (j' := j + 1) h0 hd h1 h2 h3 hd3 hl (fun k hk => hF2 k (hF3 k hk)) ⟨i1, i2, rfl, by show 0 ≤ s.last + 1; omega, by show s.last + 1 ≤ _; omega, i6, by
      show flushK s.K (updW s.W (n : Nat) b) = _
      rw [← i7]
      exact (flushK_upd h64 hW (by rw [i6, hK]; omega) hb64).symm⟩
    exact ⟨ao, _, c, rfl, hst.1, hst.2⟩
/-- A flush, done at once. -/
theorem KH.flush (h : KH w0 w B D Kp N j X) (hj : j ≤ 1000) :
    ∃ (id : Int) (M : World → Prop), (Calls Try.prog 11 #[.pointer (some ⟨D, 0, none⟩)] w fun e w2 => e = .returned (.tuple #[.int .i64 id, .int .i64 0]) ∧ M w2) ∧
      ∀ w2, M w2 → Calls Try.prog 10 #[.pointer (some ⟨D, 0, none⟩), .int .i64 0] w2 fun e w3 => ∃ ao l c, e = .returned (.tuple #[.int .i64 id, .slice ao l c, .int .i64 0]) ∧ KH w0 w3 B D N N (j + 1) X ∧ FX X w w3 := by
  have hB := h.size
  obtain ⟨h0, s, b1, F, hd, ⟨i1, i2, i3, i4, i5, i6, i7⟩, h1, h2, h3⟩ := h
  obtain ⟨M, kv, wv, Wv, Qv, hat⟩ := id hd
  have h64 := hat.size.2.1
  have hW := hat.keys_small.2.2.2.1
  have hask : askS s 2 0 [] true = (s.last + 1, 0, { s with last := s.last + 1, Q := [⟨s.last + 1, 2, 0, []⟩] }) := by
    unfold askS
    simp only [callS_on i2, i1, i3, Bool.false_eq_true, if_false, List.length_nil, List.nil_append, Bool.true_eq_false, show ¬ (0 : Nat) = 16 by omega]
  have hwr := Flush_g hd h2 ⟨i4, by omega⟩
  rw [hask] at hwr
  refine ⟨s.last + 1, fun w2 => ∃ F2, DkG w2 b1 D F2 { s with last := s.last + 1, Q := [⟨s.last + 1, 2, 0, []⟩] } ∧ Left F w w2 ∧ ∀ k ∈ F2, k ∈ F ∨ w.heap.size ≤ k, hwr.mono ?_, fun w2 hM => ?_⟩
  · rintro e w2 ⟨rfl, F2, hd2, hl2, hF2⟩
    exact ⟨rfl, F2, hd2, hl2, hF2⟩
  · obtain ⟨F2, hd2, hl2, hF2⟩ := hM
    have hz2 := hl2.size
    have hcp : compS { s with last := s.last + 1, Q := [⟨s.last + 1, 2, 0, []⟩] } 0 = (s.last + 1, [], 0, { s with last := s.last + 1, Q := [], K := flushK s.K s.W, W := [] }) := by
      unfold compS
      have hc : callS { s with last := s.last + 1, Q := [⟨s.last + 1, 2, 0, []⟩] } = { s with last := s.last + 1, Q := [⟨s.last + 1, 2, 0, []⟩] } := callS_on i2
      rw [hc]
      simp only [i1, Bool.false_eq_true, if_false, List.length_cons, List.length_nil, Int.toNat_zero, List.getElem?_cons_zero, List.eraseIdx_cons_zero, if_true]
      rw [if_neg (by omega), if_neg (by omega)]
    have hcc := Complete_g hd2 (by omega) 0
    rw [hcp] at hcc
    refine hcc.mono ?_
    rintro e w3 ⟨v, rfl, ho, F3, hd3, hl3, hF3, _⟩
    obtain ⟨ao, c, rfl, _, _⟩ := (Rd.of_own ho).form
    have hl : Left F w w3 := hl2.trans hl3 hF2
    have hst := KH.step (w' := w3) (Kp' := N) (N' := N) (j' := j + 1) h0 hd h1 h2 h3 hd3 hl (fun k hk => hF2 k (hF3 k hk)) ⟨i1, i2, rfl, by show 0 ≤ s.last + 1; omega, by show s.last + 1 ≤ _; omega, i7, by
      show flushK (flushK s.K s.W) [] = _
      rw [flushK_nil (by rw [flushK_length h64 hW]; exact h64)]
      exact i7⟩
    exact ⟨ao, _, c, rfl, hst.1, hst.2⟩
/-- What a crash leaves of each sector. -/
def Torn (x N Kp : List UInt8) : Prop := ∀ n, n < 8 → ∃ q, q ≤ 64 ∧ (∀ k, k < q → x[64 * n + k]? = N[64 * n + k]?) ∧ ∀ k, q ≤ k → k < 64 → x[64 * n + k]? = Kp[64 * n + k]?
theorem torn_of {W : List (Int × List UInt8)} {picks : List Int} {K : List UInt8} (hK : K.length = 512) (hW : ∀ p ∈ W, p.2.length = 64) : Torn (crashK W picks K) (flushK K W) K := by
  intro n hn
  have hc := crashGo_sec (picks := picks) hW (List.range (K.length / 64)) 0 K List.nodup_range (fun n hn => by have := List.mem_range.1 hn; omega)
  obtain ⟨q, hq, hs⟩ := hc.2.2 n (List.mem_range.2 (by omega))
  have hs : secN (crashK W picks K) n = ((lookW W n).getD (secN K n)).take q ++ (secN K n).drop q := hs
  have hf := flushK_sec (K := K) hW (n := n) (by omega)
  rw [← hf] at hs
  have hl1 : (flushK K W).length = 512 := by rw [flushK_length (by omega) hW, hK]
  have hl2 : (secN (flushK K W) n).length = 64 := secN_length (by omega)
  refine ⟨q, hq, fun k hk => ?_, fun k hk hk2 => ?_⟩
  · rw [← secN_at k (by omega), ← secN_at (K := flushK K W) k (by omega), hs, List.getElem?_append_left (by rw [List.length_take]; omega), List.getElem?_take_of_lt hk]
  · rw [← secN_at k (by omega), ← secN_at (K := K) k (by omega), hs, List.getElem?_append_right (by rw [List.length_take]; omega), List.length_take, hl2, List.getElem?_drop]
    congr 1
    omega
theorem KH.crash (h : KH w0 w B D Kp N j X) (hK : Kp.length = 512) (hj : j ≤ 1000) {pv : Value} {picks : List Int} {B0 : Nat} (hp : Rd w B0 1 pv picks.length (i64s picks)) (hB0 : B0 ≤ w.heap.size) (hpl : picks.length ≤ 1000000) (hpr : ∀ p ∈ picks, InR p) :
    ∃ (M : World → Prop), (Calls Try.prog 13 #[.pointer (some ⟨D, 0, none⟩), pv] w fun e w2 => ∃ g c x, e = .returned (.slice (some ⟨g, 0, none⟩) 512 c) ∧ 512 ≤ c ∧ c ≤ maxLen ∧ x.length = 512 ∧ Torn x N Kp ∧ (∀ i, i < 512 → w2.cell? ⟨g, i, none⟩ = (u8s x)[i]?) ∧ M w2 ∧ FX X w w2 ∧ Below B w0 w2) ∧
      ∀ w2, M w2 → ∀ w3, Left [] w2 w3 → Calls Try.prog 14 #[.pointer (some ⟨D, 0, none⟩), .int .i64 0] w3 fun e w4 => e = .returned (.tuple #[.int .i64 0, .int .i64 10]) ∧ Below B w3 w4 := by
  have hB := h.size
  obtain ⟨h0, s, b1, F, hd, ⟨i1, i2, i3, i4, i5, i6, i7⟩, h1, h2, h3⟩ := h
  obtain ⟨M, kv, wv, Wv, Qv, hat⟩ := id hd
  have h64 := hat.size.2.1
  have hW := hat.keys_small.2.2.2.1
  have hKs : s.K.length = 512 := by rw [i6]; exact hK
  refine ⟨fun w2 => DkG w2 b1 D F { s with off := true } ∧ b1 ≤ w2.heap.size, (Crash_g hd h2 hp hB0 hpl hpr).mono ?_, fun w2 hM w3 hl => ?_⟩
  · rintro e w2 ⟨v, rfl, ho, hd2, hl2⟩
    have hz := hl2.size
    rw [hKs] at ho
    obtain ⟨g, c, rfl, _, _, hc, hm⟩ := own_form ho (by omega)
    have hx : (crashK s.W picks s.K).length = 512 := by rw [crashK_length hW, hKs]
    have htorn := torn_of (picks := picks) hKs hW
    rw [i7] at htorn
    rw [← i6]
    exact ⟨g, c, _, rfl, hc, hm, hx, htorn, fun i hi => ho.cellAt i (by rw [Nat.mul_one]; exact hi), ⟨hd2, by omega⟩, ⟨F, hl2, fun k hk hm => (h3 k hm).1 hk⟩, h0.trans (hl2.belowB (by omega) (fun k hk => by have := (hd.lt k hk).1; omega))⟩
  · have hz := hl.size
    have hoff : askS { s with off := true } 0 0 [] (isS s.K 0) = (0, 10, { s with off := true }) := by
      unfold askS
      have hc : callS { s with off := true } = { s with off := true } := callS_on i2
      rw [hc]
      simp only [if_true]
    have hr := Read_g (hM.1.left0 hl) (by have := hM.2; omega) 0 ⟨i4, by show s.last ≤ _; omega⟩
    rw [hoff] at hr
    refine hr.mono ?_
    rintro e w4 ⟨rfl, F4, _, hl4, _⟩
    exact ⟨rfl, hl4.belowB (by have := hM.2; omega) (fun k hk => by have := (hM.1.lt k hk).1; omega)⟩
end
end Go.Proofs.Ytbhoiibcfibmhaa
