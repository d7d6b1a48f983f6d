/- A disk of the program and one of the page, side by side, beside the law's own rows. -/

import Derived.Test.YtbhoiibcfibmhaaDlHelp
import Derived.Test.YtbhoiibcfibmhaaDpNew
import Derived.Test.YtbhoiibcfibmhaaDpCrash
namespace Go.Proofs.Ytbhoiibcfibmhaa
open Go.RowKit Go.MapKept
/-- The disk D holds s1, the page's R holds s2; X: blocks of the law's own; all lies from B on. -/
def DH (w : World) (B D R : Nat) (s1 s2 : DS) (X : List Nat) : Prop :=
  ∃ b1 b2 F G, DkG w b1 D F s1 ∧ PgG w b2 R G s2 ∧ (∀ k ∈ F, k ∉ G) ∧ B ≤ b1 ∧ b1 ≤ w.heap.size ∧ B ≤ b2 ∧ b2 ≤ w.heap.size ∧ ∀ k ∈ X, k ∉ F ∧ k ∉ G ∧ B ≤ k ∧ k < w.heap.size
/-- What is changed lies from B on, and is none of X. -/
def Fr (B : Nat) (X : List Nat) (w w' : World) : Prop := ∃ S, Left S w w' ∧ ∀ k ∈ S, B ≤ k ∧ k ∉ X
section
variable {w w' w'' : World} {B D R : Nat} {s s1 s2 : DS} {X Y : List Nat}
theorem DkG.lt {b : Nat} {F : List Nat} (h : DkG w b D F s) : ∀ k ∈ F, b ≤ k ∧ k < w.heap.size := by obtain ⟨_, _, _, _, _, h⟩ := h; exact h.lt
theorem PgG.lt {b : Nat} {F : List Nat} (h : PgG w b R F s) : ∀ k ∈ F, b ≤ k ∧ k < w.heap.size := by obtain ⟨_, _, _, _, _, h⟩ := h; exact h.lt
theorem Fr.refl (B : Nat) (X : List Nat) (w : World) : Fr B X w w := ⟨[], Left.refl _ _, by simp⟩
theorem Fr.below (h : Fr B X w w') (hB : B ≤ w.heap.size) : Below B w w' := by obtain ⟨S, h, hS⟩ := h; exact h.belowB hB (fun k hk => (hS k hk).1)
theorem Fr.size (h : Fr B X w w') : w.heap.size ≤ w'.heap.size := by obtain ⟨S, h, _⟩ := h; exact h.size
theorem Fr.trans (h : Fr B X w w') (h' : Fr B X w' w'') : Fr B X w w'' := by
  obtain ⟨S, h, hS⟩ := h
  obtain ⟨T, h', hT⟩ := h'
  refine ⟨S ++ T, (h.mono (by simp +contextual)).trans (h'.mono (T := T) (fun _ h => h)) (fun k hk => .inl (by simp [hk])), fun k hk => ?_⟩
  rcases List.mem_append.1 hk with hk | hk
  · exact hS k hk
  · exact hT k hk
theorem Fr.fewer (h : Fr B (Y ++ X) w w') : Fr B X w w' := by
  obtain ⟨S, h, hS⟩ := h
  exact ⟨S, h, fun k hk => ⟨(hS k hk).1, fun hm => (hS k hk).2 (by simp [hm])⟩⟩
theorem Fr.of_below (hb : Below w.heap.size w w') : Fr B X w w' := ⟨[], Left.of_below hb [], by simp⟩
/-- A row of the law's own. -/
theorem Fr.own (h : Fr B X w w') {b n sz : Nat} {t : TypeId} {v : Value} {xs : List Value} (ho : w.ownsRow b t sz v n xs) (hX : ∀ k, v.ownBlock = some k → k ∈ X) : w'.ownsRow b t sz v n xs := by
  obtain ⟨S, h, hS⟩ := h
  exact own_leftB ho h (fun k hk e => (hS k hk).2 (hX k e))
theorem DH.size (h : DH w B D R s1 s2 X) : B ≤ w.heap.size := by obtain ⟨b1, b2, F, G, _, _, _, h1, h2, _⟩ := h; omega
theorem DH.fewer (h : DH w B D R s1 s2 (Y ++ X)) : DH w B D R s1 s2 X := by
  obtain ⟨b1, b2, F, G, h1, h2, h3, h4, h5, h6, h7, h8⟩ := h
  exact ⟨b1, b2, F, G, h1, h2, h3, h4, h5, h6, h7, fun k hk => h8 k (by simp [hk])⟩
/-- Something new of the law's own. -/
theorem DH.grow (h : DH w B D R s1 s2 X) (hb : Below w.heap.size w w') (hY : ∀ k ∈ Y, w.heap.size ≤ k ∧ k < w'.heap.size) : DH w' B D R s1 s2 (Y ++ X) := by
  obtain ⟨b1, b2, F, G, h1, h2, h3, h4, h5, h6, h7, h8⟩ := h
  have hz := hb.size
  refine ⟨b1, b2, F, G, h1.left (Left.of_below hb []) (by simp), h2.left (Left.of_below hb []) (by simp), h3, h4, by omega, h6, by omega, fun k hk => ?_⟩
  rcases List.mem_append.1 hk with hk | hk
  · obtain ⟨y1, y2⟩ := hY k hk
    exact ⟨fun hm => by have := (h1.lt k hm).2; omega, fun hm => by have := (h2.lt k hm).2; omega, by omega, y2⟩
  · obtain ⟨a, b, c, d⟩ := h8 k hk
    exact ⟨a, b, c, by omega⟩
/-- The law writes over its own. -/
theorem DH.own (h : DH w B D R s1 s2 X) {S : List Nat} (hl : Left S w w') (hS : ∀ k ∈ S, k ∈ X) : DH w' B D R s1 s2 X := by
  obtain ⟨b1, b2, F, G, h1, h2, h3, h4, h5, h6, h7, h8⟩ := h
  have hz := hl.size
  exact ⟨b1, b2, F, G, h1.left hl (fun k hk => (h8 k (hS k hk)).1), h2.left hl (fun k hk => (h8 k (hS k hk)).2.1), h3, h4, by omega, h6, by omega, fun k hk => by obtain ⟨a, b, c, d⟩ := h8 k hk; exact ⟨a, b, c, by omega⟩⟩
/-- The program's side goes on. -/
theorem DH.prog (h : DH w B D R s1 s2 X) : ∃ b1 F, DkG w b1 D F s1 ∧ B ≤ b1 ∧ b1 ≤ w.heap.size ∧ (∀ (w' : World) (s' : DS) (F' : List Nat), DkG w' b1 D F' s' → Left F w w' → (∀ k ∈ F', k ∈ F ∨ w.heap.size ≤ k) → DH w' B D R s' s2 X ∧ Fr B X w w') ∧ ∀ k ∈ X, k ∉ F := by
  obtain ⟨b1, b2, F, G, h1, h2, h3, h4, h5, h6, h7, h8⟩ := h
  refine ⟨b1, F, h1, h4, h5, fun w' s' F' hd hl hF => ?_, fun k hk => (h8 k hk).1⟩
  have hz := hl.size
  refine ⟨⟨b1, b2, F', G, hd, h2.left hl h3, fun k hk hm => ?_, h4, by omega, h6, by omega, fun k hk => ?_⟩, F, hl, fun k hk => ⟨by have := (h1.lt k hk).1; omega, fun hm => (h8 k hm).1 hk⟩⟩
  · rcases hF k hk with h | h
    · exact h3 k h hm
    · have := (h2.lt k hm).2
      omega
  · obtain ⟨a, b, c, d⟩ := h8 k hk
    exact ⟨fun hm => by rcases hF k hm with h | h; exact a h; omega, b, c, by omega⟩
/-- The page's side goes on. -/
theorem DH.page (h : DH w B D R s1 s2 X) : ∃ b2 G, PgG w b2 R G s2 ∧ B ≤ b2 ∧ b2 ≤ w.heap.size ∧ ∀ (w' : World) (s' : DS) (G' : List Nat), PgG w' b2 R G' s' → Left G w w' → (∀ k ∈ G', k ∈ G ∨ w.heap.size ≤ k) → DH w' B D R s1 s' X ∧ Fr B X w w' := by
  obtain ⟨b1, b2, F, G, h1, h2, h3, h4, h5, h6, h7, h8⟩ := h
  refine ⟨b2, G, h2, h6, h7, fun w' s' G' hd hl hG => ?_⟩
  have hz := hl.size
  refine ⟨⟨b1, b2, F, G', h1.left hl (fun k hk hm => h3 k hm hk), hd, fun k hk hm => ?_, h4, by omega, h6, by omega, fun k hk => ?_⟩, G, hl, fun k hk => ⟨by have := (h2.lt k hk).1; omega, fun hm => (h8 k hm).2.1 hk⟩⟩
  · rcases hG k hm with h | h
    · exact h3 k hk h
    · have := (h1.lt k hk).2
      omega
  · obtain ⟨a, b, c, d⟩ := h8 k hk
    exact ⟨a, fun hm => by rcases hG k hm with h | h; exact b h; omega, c, by omega⟩
end
end Go.Proofs.Ytbhoiibcfibmhaa
