/- Each call of the two disks, side by side. -/

import Derived.Test.YtbhoiibcfibmhaaDlStep
namespace Go.Proofs.Ytbhoiibcfibmhaa
open Go.RowKit Go.MapKept
section
variable {w : World} {B D R : Nat} {s s1 s2 : DS} {X : List Nat}
def PA (w : World) (B D R : Nat) (s2 : DS) (X : List Nat) (A : Int × Int × DS) (e : Ending) (w' : World) : Prop := e = .returned (.tuple #[.int .i64 A.1, .int .i64 A.2.1]) ∧ DH w' B D R A.2.2 s2 X ∧ Fr B X w w'
def QA (w : World) (B D R : Nat) (s1 : DS) (X : List Nat) (A : Int × Int × DS) (e : Ending) (w' : World) : Prop := e = .returned (.tuple #[.int .i64 A.1, .int .i64 A.2.1]) ∧ DH w' B D R s1 A.2.2 X ∧ Fr B X w w'
theorem dWrite (h : DH w B D R s1 s2 X) (n : Int) {bv : Value} {b : List UInt8} {base : Nat} {t : TypeId} (hb : w.ownsRow base t 1 bv b.length (u8s b)) (hbX : ∀ k, bv.ownBlock = some k → k ∈ X) (hbl : b.length ≤ 1000000) (hlast : 0 ≤ s1.last ∧ s1.last ≤ 1000000000) :
    Calls Try.prog 9 #[.pointer (some ⟨D, 0, none⟩), .int .i64 n, bv] w (PA w B D R s2 X (askS s1 1 n b (isS s1.K n && b.length == 64))) := by
  obtain ⟨b1, F, hd, hb1, hbz, hgo⟩ := h.prog
  obtain ⟨hgo, hXF⟩ := hgo
  refine (Write_g hd hbz n (fun w' hl => Rd.of_own (own_leftB hb hl (fun k hk e => ?_))) hbl hlast).mono ?_
  · exact hXF k (hbX k e) hk
  rintro e w' ⟨he, F', hd', hl, hF⟩
  exact ⟨he, hgo w' _ F' hd' hl hF⟩
theorem dRead (h : DH w B D R s1 s2 X) (n : Int) (hlast : 0 ≤ s1.last ∧ s1.last ≤ 1000000000) :
    Calls Try.prog 14 #[.pointer (some ⟨D, 0, none⟩), .int .i64 n] w (PA w B D R s2 X (askS s1 0 n [] (isS s1.K n))) := by
  obtain ⟨b1, F, hd, hb1, hbz, hgo, _⟩ := h.prog
  refine (Read_g hd hbz n hlast).mono ?_
  rintro e w' ⟨he, F', hd', hl, hF⟩
  exact ⟨he, hgo w' _ F' hd' hl hF⟩
theorem dFlush (h : DH w B D R s1 s2 X) (hlast : 0 ≤ s1.last ∧ s1.last ≤ 1000000000) :
    Calls Try.prog 11 #[.pointer (some ⟨D, 0, none⟩)] w (PA w B D R s2 X (askS s1 2 0 [] true)) := by
  obtain ⟨b1, F, hd, hb1, hbz, hgo, _⟩ := h.prog
  refine (Flush_g hd hbz hlast).mono ?_
  rintro e w' ⟨he, F', hd', hl, hF⟩
  exact ⟨he, hgo w' _ F' hd' hl hF⟩
theorem qWrite (h : DH w B D R s1 s2 X) (n : Int) {bv : Value} {b : List UInt8} (hb : Rd w B 1 bv b.length (u8s b)) (hbl : b.length ≤ 1000000) (hlast : 0 ≤ s2.last ∧ s2.last ≤ 1000000000) :
    Calls Try.prog 27 #[.pointer (some ⟨R, 0, none⟩), .int .i64 n, bv] w (QA w B D R s1 X (askS s2 1 n b (isS s2.K n && b.length == 64))) := by
  have hB := h.size
  obtain ⟨b2, G, hd, hb2, hbz, hgo⟩ := h.page
  refine (rWrite_g hd hbz n hb hB (fun k hk => by have := (hd.lt k hk).1; omega) hbl hlast).mono ?_
  rintro e w' ⟨he, G', hd', hl, hG⟩
  exact ⟨he, hgo w' _ G' hd' hl hG⟩
theorem qRead (h : DH w B D R s1 s2 X) (n : Int) (hlast : 0 ≤ s2.last ∧ s2.last ≤ 1000000000) :
    Calls Try.prog 19 #[.pointer (some ⟨R, 0, none⟩), .int .i64 n] w (QA w B D R s1 X (askS s2 0 n [] (isS s2.K n))) := by
  obtain ⟨b2, G, hd, hb2, hbz, hgo⟩ := h.page
  refine (rRead_g hd hbz n hlast).mono ?_
  rintro e w' ⟨he, G', hd', hl, hG⟩
  exact ⟨he, hgo w' _ G' hd' hl hG⟩
theorem qFlush (h : DH w B D R s1 s2 X) (hlast : 0 ≤ s2.last ∧ s2.last ≤ 1000000000) :
    Calls Try.prog 20 #[.pointer (some ⟨R, 0, none⟩)] w (QA w B D R s1 X (askS s2 2 0 [] true)) := by
  obtain ⟨b2, G, hd, hb2, hbz, hgo⟩ := h.page
  refine (rFlush_g hd hbz hlast).mono ?_
  rintro e w' ⟨he, G', hd', hl, hG⟩
  exact ⟨he, hgo w' _ G' hd' hl hG⟩
theorem dOff (h : DH w B D R s1 s2 X) (n : Int) (hn : n ≤ 9223372036854775807) :
    Calls Try.prog 23 #[.pointer (some ⟨D, 0, none⟩), .int .i64 n] w fun e w' => e = .returned (.tuple #[]) ∧ DH w' B D R (offS s1 n) s2 X ∧ Fr B X w w' := by
  obtain ⟨b1, F, hd, hb1, hbz, hgo, _⟩ := h.prog
  refine (Off_g hd n hn).mono ?_
  rintro e w' ⟨he, hd', hl⟩
  exact ⟨he, hgo w' _ F hd' hl (fun k hk => .inl hk)⟩
theorem qOff (h : DH w B D R s1 s2 X) (n : Int) (hn : n ≤ 9223372036854775807) :
    Calls Try.prog 24 #[.pointer (some ⟨R, 0, none⟩), .int .i64 n] w fun e w' => e = .returned (.tuple #[]) ∧ DH w' B D R s1 (offS s2 n) X ∧ Fr B X w w' := by
  obtain ⟨b2, G, hd, hb2, hbz, hgo⟩ := h.page
  refine (rOff_g hd n hn).mono ?_
  rintro e w' ⟨he, hd', hl⟩
  exact ⟨he, hgo w' _ G hd' hl (fun k hk => .inl hk)⟩
/-- What a Complete gives becomes the law's own. -/
theorem dComplete (h : DH w B D R s1 s2 X) (k : Int) :
    Calls Try.prog 10 #[.pointer (some ⟨D, 0, none⟩), .int .i64 k] w fun e w' => ∃ v, e = .returned (.tuple #[.int .i64 (compS s1 k).1, v, .int .i64 (compS s1 k).2.2.1]) ∧ w'.ownsRow w.heap.size 5 1 v (compS s1 k).2.1.length (u8s (compS s1 k).2.1) ∧ DH w' B D R (compS s1 k).2.2.2 s2 (Value.ownL v ++ X) ∧ Fr B X w w' := by
  obtain ⟨b1, b2, F, G, h1, h2, h3, h4, h5, h6, h7, h8⟩ := h
  refine (Complete_g h1 h5 k).mono ?_
  rintro e w' ⟨v, he, ho, F', hd, hl, hF, hv⟩
  have hz := hl.size
  refine ⟨v, he, ho, ⟨b1, b2, F', G, hd, h2.left hl h3, fun k hk => h3 k (hF k hk), h4, by omega, h6, by omega, fun k hk => ?_⟩, F, hl, fun k hk => ⟨by have := (h1.lt k hk).1; omega, fun hm => (h8 k hm).1 hk⟩⟩
  rcases List.mem_append.1 hk with hk | hk
  · have hk' := mem_ownL.1 hk
    have := ho.lt k hk'
    exact ⟨hv k hk', fun hm => by have := (h2.lt k hm).2; omega, by omega, by omega⟩
  · obtain ⟨a, b, c, d⟩ := h8 k hk
    exact ⟨fun hm => a (hF k hm), b, c, by omega⟩
theorem qComplete (h : DH w B D R s1 s2 X) (k : Int) :
    Calls Try.prog 21 #[.pointer (some ⟨R, 0, none⟩), .int .i64 k] w fun e w' => ∃ v, e = .returned (.tuple #[.int .i64 (compS s2 k).1, v, .int .i64 (compS s2 k).2.2.1]) ∧ w'.ownsRow w.heap.size 5 1 v (compS s2 k).2.1.length (u8s (compS s2 k).2.1) ∧ DH w' B D R s1 (compS s2 k).2.2.2 X ∧ Fr B X w w' := by
  obtain ⟨b2, G, hd, hb2, hbz, hgo⟩ := h.page
  refine (rComplete_g hd hbz k).mono ?_
  rintro e w' ⟨v, he, ho, G', hd', hl, hG, _⟩
  exact ⟨v, he, ho, hgo w' _ G' hd' hl hG⟩
/-- What a Crash gives becomes the law's own. -/
theorem dCrash (h : DH w B D R s1 s2 X) {pv : Value} {picks : List Int} {B0 : Nat} (hp : Rd w B0 1 pv picks.length (i64s picks)) (hB0 : B0 ≤ w.heap.size) (hpl : picks.length ≤ 1000000) (hpr : ∀ p ∈ picks, -9223372036854775808 ≤ p ∧ p ≤ 9223372036854775807) :
    Calls Try.prog 13 #[.pointer (some ⟨D, 0, none⟩), pv] w fun e w' => ∃ v, e = .returned v ∧ w'.ownsRow w.heap.size 5 1 v s1.K.length (u8s (crashK s1.W picks s1.K)) ∧ DH w' B D R { s1 with off := true } s2 (Value.ownL v ++ X) ∧ Fr B X w w' := by
  obtain ⟨b1, b2, F, G, h1, h2, h3, h4, h5, h6, h7, h8⟩ := h
  refine (Crash_g h1 h5 hp hB0 hpl hpr).mono ?_
  rintro e w' ⟨v, he, ho, hd, hl⟩
  have hz := hl.size
  refine ⟨v, he, ho, ⟨b1, b2, F, G, hd, h2.left hl h3, h3, h4, by omega, h6, by omega, fun k hk => ?_⟩, F, hl, fun k hk => ⟨by have := (h1.lt k hk).1; omega, fun hm => (h8 k hm).1 hk⟩⟩
  rcases List.mem_append.1 hk with hk | hk
  · have := ho.lt k (mem_ownL.1 hk)
    exact ⟨fun hm => by have := (h1.lt k hm).2; omega, fun hm => by have := (h2.lt k hm).2; omega, by omega, by omega⟩
  · obtain ⟨a, b, c, d⟩ := h8 k hk
    exact ⟨a, b, c, by omega⟩
theorem qCrash (h : DH w B D R s1 s2 X) {pv : Value} {picks : List Int} (hp : Rd w B 1 pv picks.length (i64s picks)) (hpl : picks.length ≤ 1000000) (hpr : ∀ p ∈ picks, -9223372036854775808 ≤ p ∧ p ≤ 9223372036854775807) :
    Calls Try.prog 26 #[.pointer (some ⟨R, 0, none⟩), pv] w fun e w' => ∃ v, e = .returned v ∧ w'.ownsRow w.heap.size 5 1 v s2.K.length (u8s (crashK s2.W picks s2.K)) ∧ DH w' B D R s1 { s2 with off := true } (Value.ownL v ++ X) ∧ Fr B X w w' := by
  obtain ⟨b1, b2, F, G, h1, h2, h3, h4, h5, h6, h7, h8⟩ := h
  refine (rCrash_g h2 h7 hp (by omega) (fun k hk => by have := (h2.lt k hk).1; omega) hpl hpr).mono ?_
  rintro e w' ⟨v, he, ho, hd, hl⟩
  have hz := hl.size
  refine ⟨v, he, ho, ⟨b1, b2, F, G, h1.left hl (fun k hk hm => h3 k hm hk), hd, h3, h4, by omega, h6, by omega, fun k hk => ?_⟩, G, hl, fun k hk => ⟨by have := (h2.lt k hk).1; omega, fun hm => (h8 k hm).2.1 hk⟩⟩
  rcases List.mem_append.1 hk with hk | hk
  · have := ho.lt k (mem_ownL.1 hk)
    exact ⟨fun hm => by have := (h1.lt k hm).2; omega, fun hm => by have := (h2.lt k hm).2; omega, by omega, by omega⟩
  · obtain ⟨a, b, c, d⟩ := h8 k hk
    exact ⟨a, b, c, by omega⟩
/-- A new disk in the old one's place. -/
theorem dNew (h : DH w B D R s1 s2 X) {bv : Value} {K : List UInt8} {base : Nat} {t : TypeId} (hb : w.ownsRow base t 1 bv K.length (u8s K)) (hm : mayD K.length) :
    Calls Try.prog 6 #[bv] w fun e w' => ∃ D', e = .returned (.tuple #[.pointer (some ⟨D', 0, none⟩), .int .i64 0]) ∧ DH w' B D' R (newS K) s2 X ∧ Fr B X w w' := by
  obtain ⟨b1, b2, F, G, h1, h2, h3, h4, h5, h6, h7, h8⟩ := h
  refine (New_g w (Rd.of_own hb) (by have := hm.2.1; omega)).mono ?_
  intro e w' hN
  unfold NewP at hN
  rw [if_pos hm] at hN
  obtain ⟨D', F', he, hd, hl⟩ := hN
  have hz := hl.size
  refine ⟨D', he, ⟨w.heap.size, b2, F', G, hd, h2.left hl (by simp), fun k hk hm => ?_, by omega, hz, h6, by omega, fun k hk => ?_⟩, [], hl, by simp⟩
  · have := (hd.lt k hk).1
    have := (h2.lt k hm).2
    omega
  · obtain ⟨a, b, c, d⟩ := h8 k hk
    exact ⟨fun hm => by have := (hd.lt k hm).1; omega, b, c, by omega⟩
theorem qNew (h : DH w B D R s1 s2 X) {bv : Value} {K : List UInt8} {B0 : Nat} (hb : Rd w B0 1 bv K.length (u8s K)) (hB0 : B0 ≤ w.heap.size) (hm : mayD K.length) :
    Calls Try.prog 18 #[bv] w fun e w' => ∃ R', e = .returned (.pointer (some ⟨R', 0, none⟩)) ∧ DH w' B D R' s1 (newS K) X ∧ Fr B X w w' := by
  obtain ⟨b1, b2, F, G, h1, h2, h3, h4, h5, h6, h7, h8⟩ := h
  refine (rNew_g w hb hB0 hm).mono ?_
  rintro e w' ⟨R', G', he, hd, hl⟩
  have hz := hl.size
  refine ⟨R', he, ⟨b1, w.heap.size, F, G', h1.left hl (by simp), hd, fun k hk hm => ?_, h4, by omega, by omega, hz, fun k hk => ?_⟩, [], hl, by simp⟩
  · have := (hd.lt k hm).1
    have := (h1.lt k hk).2
    omega
  · obtain ⟨a, b, c, d⟩ := h8 k hk
    exact ⟨a, fun hm => by have := (hd.lt k hm).1; omega, c, by omega⟩
end
end Go.Proofs.Ytbhoiibcfibmhaa
