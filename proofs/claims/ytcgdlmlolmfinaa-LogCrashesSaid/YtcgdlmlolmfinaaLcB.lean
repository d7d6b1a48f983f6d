/- Law 6: the log's calls on a disk that may have a fuse. Law 6: does, on a log whose disk may have a fuse. Law 6: what may be found, as the law keeps it. Law 6: an act done, and what may be found then. -/

import Derived.Test.YtcgdlmlolmfinaaLmAgn
import Derived.Test.YtcgdlmlolmfinaaLmW
namespace Go.Proofs.Ytcgdlmlolmfinaa
section
open Go.RowKit
/-- Whatever a crash leaves, one of S is found in it. -/
structure Crs (s : DS) (S : List (List UInt8) → Prop) : Prop where
  len : s.K.length = 262144
  w64 : ∀ p ∈ s.W, p.2.length = 64
  img : ∀ C, Img (view s) C → Finds cbL S C
/-- A log that lives. -/
structure LAr (L : LS) (ls l : List (List UInt8)) (G N : Int) : Prop where
  ok : LOk cbL L ls l
  g : 0 ≤ L.gen ∧ L.gen ≤ G
  n : 0 ≤ L.d.last ∧ L.d.last ≤ N
section
variable {L L' : LS} {ls l : List (List UInt8)} {x : List UInt8} {G N : Int} {S S' : List (List UInt8) → Prop} {s s' : DS}
theorem Crs.mono (h : Crs s S) (hS : ∀ l, S l → S' l) : Crs s S' := ⟨h.len, h.w64, fun C hC => by
  obtain ⟨l', r', g', h1, h2⟩ := h.img C hC
  exact ⟨l', r', g', hS _ h1, h2⟩⟩
theorem LAr.crs (h : LAr L ls l G N) : Crs L.d (fun l' => ls <+: l' ∧ l' <+: l) := ⟨h.ok.on.len, h.ok.on.w64, fun C hC => found_finds (live_found cbL4 h.ok.live hC)⟩
theorem Fell.crs {M : Nat} (h : Fell s s' M (Finds cbL S)) : Crs s' S := ⟨h.len, h.w64, h.img⟩
theorem LAr.bounds (h : LAr L ls l G N) : L.region ≤ 1 ∧ L.at_ ≤ 100000 ∧ L.size ≤ 65536 ∧ L.l.length ≤ 1000 ∧ L.l = l := by
  have hr := h.ok.live.opn.reg
  have he := h.ok.live.opn.end_
  have hw := h.ok.live.opn.wt
  have hn := wtL_len l
  refine ⟨hr, by rw [h.ok.ea]; omega, by rw [h.ok.es]; exact hw, by rw [h.ok.el]; omega, h.ok.el⟩
theorem append_ar (h : LAr L ls l G N) (x : List UInt8) (h1 : x.length ≤ 16384) (h2 : wtL l + x.length + 128 ≤ 65536) :
    (∃ L', appendS cbL L x = (0, L') ∧ LAr L' ls (l ++ [x]) G (N + 1000)) ∨ ∃ L', appendS cbL L x = (10, L') ∧ L'.l = l ∧ L'.dead = true ∧ Crs L'.d (fun l' => ls <+: l' ∧ l' <+: l ++ [x]) := by
  have hl := append_law cbL4 h.ok x
  rw [if_neg (by omega), if_neg (by omega)] at hl
  rcases hl with ⟨L', e, ok, g, ar, n1, n2⟩ | ⟨L', e, hd⟩
  · exact .inl ⟨L', e, ok, by rw [g]; exact h.g, by have := h.n; omega⟩
  · exact .inr ⟨L', e, by rw [hd.l, h.ok.el], hd.dead, hd.fell.crs⟩
theorem append_form2 (h : LAr L ls l G N) (x : List UInt8) (h1 : 16384 < x.length) : appendS cbL L x = (1, L) := by
  have hl := append_law cbL4 h.ok x
  rwa [if_pos h1] at hl
theorem append_full2 (h : LAr L ls l G N) (x : List UInt8) (h1 : x.length ≤ 16384) (h2 : 65536 < x.length + 128 + wtL l) : appendS cbL L x = (5, L) := by
  have hl := append_law cbL4 h.ok x
  rwa [if_neg (by omega), if_pos h2] at hl
theorem sync_ar (h : LAr L ls l G N) :
    (∃ L', syncS L = (0, L') ∧ LAr L' l l G (N + 1)) ∨ ∃ L', syncS L = (10, L') ∧ L'.l = l ∧ L'.dead = true ∧ Crs L'.d (fun l' => ls <+: l' ∧ l' <+: l) := by
  rcases sync_law cbL4 h.ok with ⟨L', e, ok, g, ar, n1, n2, hW⟩ | ⟨L', e, hd⟩
  · exact .inl ⟨L', e, ok, by rw [g]; exact h.g, by have := h.n; omega⟩
  · exact .inr ⟨L', e, by rw [hd.l, h.ok.el], hd.dead, hd.fell.crs⟩
theorem reset_ar (h : LAr L ls l G N) (hG : G < 4611686018427387900) (l2 : List (List UInt8)) (h1 : ¬ ∃ x ∈ l2, 16384 < x.length) (h2 : ¬ 65536 < wtL l2) :
    (∃ L', resetS cbL L l2 = (0, L') ∧ LAr L' l2 l2 (G + 1) (N + 10000)) ∨ ∃ L', resetS cbL L l2 = (10, L') ∧ L'.l = l ∧ L'.dead = true ∧ Crs L'.d (fun l' => (ls <+: l' ∧ l' <+: l) ∨ l' = l2) := by
  have hl := reset_law cbL4 h.ok (by have := h.g; omega) l2
  rw [if_neg h1, if_neg h2] at hl
  rcases hl with ⟨L', e, ok, g, ar, n1, n2⟩ | ⟨L', e, hd⟩
  · exact .inl ⟨L', e, ok, by have := h.g; rw [g]; omega, by have := h.n; omega⟩
  · exact .inr ⟨L', e, by rw [hd.l, h.ok.el], hd.dead, hd.fell.crs⟩
theorem reset_no2 (h : LAr L ls l G N) (hG : G < 4611686018427387900) (l2 : List (List UInt8)) (h1 : (∃ x ∈ l2, 16384 < x.length) ∨ 65536 < wtL l2) : resetS cbL L l2 = ((if ∃ x ∈ l2, 16384 < x.length then 1 else 5), L) := by
  have hl := reset_law cbL4 h.ok (by have := h.g; omega) l2
  by_cases hb : ∃ x ∈ l2, 16384 < x.length
  · rw [if_pos hb] at hl
    rw [if_pos hb]; exact hl
  · rw [if_neg hb, if_pos (h1.resolve_left hb)] at hl
    rw [if_neg hb]; exact hl
end
def KA (w : World) (base R RD : Nat) (X : List Nat) (ls l : List (List UInt8)) (G N : Int) : Prop := ∃ L, LgF w base R RD X L ∧ LAr L ls l G N
def KD (w : World) (base R RD : Nat) (X : List Nat) (l : List (List UInt8)) (S : List (List UInt8) → Prop) : Prop := ∃ L, LgF w base R RD X L ∧ L.l = l ∧ l.length ≤ 1000 ∧ L.dead = true ∧ Crs L.d S
def PPa (Q : World → List Nat → Prop) (w : World) (X : List Nat) (w' : World) : Prop := ∃ X', Q w' X' ∧ Left X w w' ∧ ∀ k ∈ X', k ∈ X ∨ w.heap.size ≤ k
section
variable {w w' w1 w3 w4 : World} {base R RD : Nat} {F F1 X S : List Nat} {lv : Value} {L L' : LS} {ls l ls' l' : List (List UInt8)} {G N G' N' : Int} {Q Q' : World → List Nat → Prop} {P P' : List (List UInt8) → Prop}
theorem PPa.mono (h : PPa Q w X w') (hQ : ∀ w X, Q w X → Q' w X) : PPa Q' w X w' := by
  obtain ⟨X', h1, h2⟩ := h
  exact ⟨X', hQ _ _ h1, h2⟩
theorem PPa.pre (hb : Below w.heap.size w w1) (h : PPa Q w1 X w') : PPa Q w X w' := by
  obtain ⟨X', h1, h2, h3⟩ := h
  exact ⟨X', h1, (Left.of_below hb X).trans h2 (fun k hk => .inl hk), fun k hk => (h3 k hk).imp id (fun h => Nat.le_trans hb.size h)⟩
theorem PPa.post (hQ : ∀ w w' X S, Q w X → Left S w w' → (∀ k ∈ S, k ∉ X) → Q w' X) (h : PPa Q w1 X w3) (hl : Left S w3 w4) (hX : ∀ k ∈ X, k < w.heap.size) (hb : Below w.heap.size w w1) (hS : ∀ k ∈ S, w.heap.size ≤ k ∧ k < w1.heap.size) : PPa Q w X w4 := by
  obtain ⟨X', h1, h2, h3⟩ := h
  refine ⟨X', hQ _ _ _ _ h1 hl (fun k hk hm => ?_), ((Left.of_below hb X).trans h2 (fun k hk => .inl hk)).trans hl (fun k hk => .inr (hS k hk).1), fun k hk => (h3 k hk).imp id (fun h => Nat.le_trans hb.size h)⟩
  have h4 := hS k hk
  rcases h3 k hm with h | h
  · have := hX k h; omega
  · omega
theorem KA.left (h : KA w base R RD X ls l G N) (hl : Left S w w') (hS : ∀ k ∈ S, k ∉ X) : KA w' base R RD X ls l G N := by
  obtain ⟨L, h1, h2⟩ := h
  exact ⟨L, h1.left hl hS, h2⟩
theorem KD.left (h : KD w base R RD X l P) (hl : Left S w w') (hS : ∀ k ∈ S, k ∉ X) : KD w' base R RD X l P := by
  obtain ⟨L, h1, h2⟩ := h
  exact ⟨L, h1.left hl hS, h2⟩
theorem KA.below (h : KA w base R RD X ls l G N) (hb : Below w.heap.size w w') : KA w' base R RD X ls l G N := h.left (Left.of_below hb []) (by simp)
theorem KD.below (h : KD w base R RD X l P) (hb : Below w.heap.size w w') : KD w' base R RD X l P := h.left (Left.of_below hb []) (by simp)
theorem KA.lt (h : KA w base R RD X ls l G N) : ∀ k ∈ X, base ≤ k ∧ k < w.heap.size := by
  obtain ⟨L, ⟨_, _, _, _, h3⟩, _⟩ := h
  exact h3
theorem KD.lt (h : KD w base R RD X l P) : ∀ k ∈ X, base ≤ k ∧ k < w.heap.size := by
  obtain ⟨L, ⟨_, _, _, _, h3⟩, _⟩ := h
  exact h3
theorem KA.wt (h : KA w base R RD X ls l G N) : wtL l ≤ 65536 := by
  obtain ⟨L, _, hs⟩ := h
  exact hs.ok.live.opn.wt
theorem KA.mono (h : KA w base R RD X ls l G N) (hG : G ≤ G') (hN : N ≤ N') : KA w base R RD X ls l G' N' := by
  obtain ⟨L, h1, h2⟩ := h
  exact ⟨L, h1, h2.ok, ⟨h2.g.1, Int.le_trans h2.g.2 hG⟩, ⟨h2.n.1, Int.le_trans h2.n.2 hN⟩⟩
theorem KD.mono (h : KD w base R RD X l P) (hP : ∀ l, P l → P' l) : KD w base R RD X l P' := by
  obtain ⟨L, h1, h2, h3, h4, h5⟩ := h
  exact ⟨L, h1, h2, h3, h4, h5.mono hP⟩
/-- The disk below. -/
theorem LgF.disk (h : LgF w base R RD X L) : ∃ F, DkG w base RD F L.d ∧ ∀ k ∈ F, k ∈ X := by
  obtain ⟨F, lv, h1, h2, _⟩ := h
  exact ⟨F, h1.disk, fun k hk => h2 k (.inr (.inr hk))⟩
def KS (w : World) (base RD : Nat) (F : List Nat) (P : List (List UInt8) → Prop) : Prop := ∃ s, DkG w base RD F s ∧ Crs s P
theorem KA.disk (h : KA w base R RD X ls l G N) : ∃ F, KS w base RD F (fun l' => ls <+: l' ∧ l' <+: l) ∧ ∀ k ∈ F, k ∈ X := by
  obtain ⟨L, h1, h2⟩ := h
  obtain ⟨F, h3, h4⟩ := h1.disk
  exact ⟨F, ⟨_, h3, h2.crs⟩, h4⟩
theorem KD.disk (h : KD w base R RD X l P) : ∃ F, KS w base RD F P ∧ ∀ k ∈ F, k ∈ X := by
  obtain ⟨L, h1, _, _, _, h2⟩ := h
  obtain ⟨F, h3, h4⟩ := h1.disk
  exact ⟨F, ⟨_, h3, h2⟩, h4⟩
theorem KS.mono (h : KS w base RD F P) (hP : ∀ l, P l → P' l) : KS w base RD F P' := by
  obtain ⟨s, h1, h2⟩ := h
  exact ⟨s, h1, h2.mono hP⟩
theorem KS.lt (h : KS w base RD F P) : ∀ k ∈ F, base ≤ k ∧ k < w.heap.size := by
  obtain ⟨s, h1, _⟩ := h
  exact h1.lt
theorem KS.left (h : KS w base RD F P) (hl : Left S w w') (hS : ∀ k ∈ S, k ∉ F) : KS w' base RD F P := by
  obtain ⟨s, h1, h2⟩ := h
  exact ⟨s, h1.left hl (fun k hk => hS k hk), h2⟩
theorem LgF.of_w (h : LgF w base R RD X L) {lw : LS} {F : List Nat} {lv : Value} (hsub : ∀ k ∈ (R :: (F ++ Value.ownL lv)), k ∈ X) (hW : LgW w base R RD F lv lw w') : PPa (fun w' X' => LgF w' base R RD X' lw) w X w' := by
  obtain ⟨F', lv', h1, hl, hf, hv⟩ := hW
  refine ⟨_, h1.g, hl.mono hsub, fun k hk => ?_⟩
  rw [List.mem_cons, List.mem_append] at hk
  rcases hk with rfl | hk | hk
  · exact .inl (hsub _ (by simp))
  · rcases hf k hk with h | h
    · exact .inl (hsub _ (by rw [List.mem_cons, List.mem_append]; exact .inr (.inl h)))
    · exact .inr h
  · rcases hv k (mem_ownL.1 hk) with h | h
    · exact .inl (hsub _ (by rw [List.mem_cons, List.mem_append]; exact .inr (.inr (mem_ownL.2 h))))
    · exact .inr h
theorem aappend (h : KA w base R RD X ls l G N) (hz : base ≤ w.heap.size) (hN : N ≤ 900000000) (x : List UInt8) (h1 : x.length ≤ 16384) (h2 : wtL l + x.length + 128 ≤ 65536) :
    Calls Try.prog 9 #[.pointer (some ⟨R, 0, none⟩), .string ⟨x.toArray⟩] w fun e w' => (e = .returned (.int .i64 0) ∧ PPa (fun w' X' => KA w' base R RD X' ls (l ++ [x]) G (N + 1000)) w X w') ∨ (e = .returned (.int .i64 10) ∧ PPa (fun w' X' => KD w' base R RD X' l (fun l' => ls <+: l' ∧ l' <+: l ++ [x])) w X w') := by
  obtain ⟨L, hg, hs⟩ := h
  obtain ⟨F, lv, ha, hsub⟩ := hg.sub
  obtain ⟨b1, b2, b3, b4, b5⟩ := hs.bounds
  have hc := lappend ha hz b1 b2 (by omega) (by omega) (by have := hs.n; omega) x (by omega)
  rcases append_ar hs x h1 h2 with ⟨L', e, hs'⟩ | ⟨L', e, hl, hd, hcr⟩
  · rw [e] at hc
    refine hc.mono ?_
    rintro e w' ⟨rfl, hW⟩
    exact .inl ⟨rfl, (hg.of_w hsub hW).mono fun w X h => ⟨_, h, hs'⟩⟩
  · rw [e] at hc
    refine hc.mono ?_
    rintro e w' ⟨rfl, hW⟩
    exact .inr ⟨rfl, (hg.of_w hsub hW).mono fun w X h => ⟨_, h, hl, by rw [← b5]; exact b4, hd, hcr⟩⟩
theorem aappend_no (h : KA w base R RD X ls l G N) (hz : base ≤ w.heap.size) (hN : N ≤ 900000000) (x : List UInt8) (h0 : x.length ≤ 1000000) (h1 : 16384 < x.length ∨ 65536 < x.length + 128 + wtL l) :
    Calls Try.prog 9 #[.pointer (some ⟨R, 0, none⟩), .string ⟨x.toArray⟩] w fun e w' => e = .returned (.int .i64 (if 16384 < x.length then 1 else 5)) ∧ PPa (fun w' X' => KA w' base R RD X' ls l G N) w X w' := by
  obtain ⟨L, hg, hs⟩ := h
  obtain ⟨F, lv, ha, hsub⟩ := hg.sub
  obtain ⟨b1, b2, b3, b4, _⟩ := hs.bounds
  have hc := lappend ha hz b1 b2 (by omega) (by omega) (by have := hs.n; omega) x h0
  by_cases hb : 16384 < x.length
  · rw [append_form2 hs x hb] at hc
    refine hc.mono ?_
    rintro e w' ⟨rfl, hW⟩
    exact ⟨by rw [if_pos hb], (hg.of_w hsub hW).mono fun w X h => ⟨_, h, hs⟩⟩
  · rw [append_full2 hs x (by omega) (by rcases h1 with h | h; exact absurd h hb; exact h)] at hc
    refine hc.mono ?_
    rintro e w' ⟨rfl, hW⟩
    exact ⟨by rw [if_neg hb], (hg.of_w hsub hW).mono fun w X h => ⟨_, h, hs⟩⟩
theorem async (h : KA w base R RD X ls l G N) (hz : base ≤ w.heap.size) (hN : N ≤ 900000000) :
    Calls Try.prog 21 #[.pointer (some ⟨R, 0, none⟩)] w fun e w' => (e = .returned (.int .i64 0) ∧ PPa (fun w' X' => KA w' base R RD X' l l G (N + 1)) w X w') ∨ (e = .returned (.int .i64 10) ∧ PPa (fun w' X' => KD w' base R RD X' l (fun l' => ls <+: l' ∧ l' <+: l)) w X w') := by
  obtain ⟨L, hg, hs⟩ := h
  obtain ⟨F, lv, ha, hsub⟩ := hg.sub
  obtain ⟨b1, b2, b3, b4, b5⟩ := hs.bounds
  have hc := lsync ha hz (by have := hs.n; omega)
  have hw : ∀ {lw : LS} {w' : World}, LgR w base R RD F lv lw w' → LgW w base R RD F lv lw w' := fun ⟨F', h1, hl, hf⟩ => ⟨F', lv, h1, hl.mono (fun k hk => by
    rw [List.mem_cons] at hk
    rw [List.mem_cons, List.mem_append]
    exact hk.imp id .inl), hf, fun k hk => .inl hk⟩
  rcases sync_ar hs with ⟨L', e, hs'⟩ | ⟨L', e, hl, hd, hcr⟩
  · rw [e] at hc
    refine hc.mono ?_
    rintro e w' ⟨rfl, hW⟩
    exact .inl ⟨rfl, (hg.of_w hsub (hw hW)).mono fun w X h => ⟨_, h, hs'⟩⟩
  · rw [e] at hc
    refine hc.mono ?_
    rintro e w' ⟨rfl, hW⟩
    exact .inr ⟨rfl, (hg.of_w hsub (hw hW)).mono fun w X h => ⟨_, h, hl, by rw [← b5]; exact b4, hd, hcr⟩⟩
theorem areset (h : KA w base R RD X ls l G N) (hz : base ≤ w.heap.size) (hG : G ≤ 1000000) (hN : N ≤ 800000000) (v : Value) (l2 : List (List UInt8)) (hv : ∀ w', Left X w w' → Rd w' w'.heap.size 1 v l2.length (l2.map strL)) (h0 : ∀ x ∈ l2, x.length ≤ 1000000) :
    Calls Try.prog 11 #[.pointer (some ⟨R, 0, none⟩), v] w fun e w' =>
      if (∃ x ∈ l2, 16384 < x.length) ∨ 65536 < wtL l2 then e = .returned (.int .i64 (if ∃ x ∈ l2, 16384 < x.length then 1 else 5)) ∧ PPa (fun w' X' => KA w' base R RD X' ls l G N) w X w'
      else (e = .returned (.int .i64 0) ∧ PPa (fun w' X' => KA w' base R RD X' l2 l2 (G + 1) (N + 10000)) w X w') ∨ (e = .returned (.int .i64 10) ∧ PPa (fun w' X' => KD w' base R RD X' l (fun l' => (ls <+: l' ∧ l' <+: l) ∨ l' = l2)) w X w') := by
  obtain ⟨L, hg, hs⟩ := h
  obtain ⟨F, lv, ha, hsub⟩ := hg.sub
  obtain ⟨b1, b2, b3, b4, b5⟩ := hs.bounds
  have hgn : L.gen = (L.gen.toNat : Nat) := (Int.toNat_of_nonneg hs.g.1).symm
  have hc := lreset ha hz b1 L.gen.toNat hgn (by have := hs.g; omega) (by have := hs.n; omega) v l2 (fun x hx => by have := h0 x hx; omega) (fun w' hw => hv w' (hw.mono (fun k hk => hsub k (by
    rw [List.mem_cons] at hk
    rw [List.mem_cons, List.mem_append]
    exact hk.imp id .inl))))
  by_cases hb : (∃ x ∈ l2, 16384 < x.length) ∨ 65536 < wtL l2
  · rw [reset_no2 hs (by omega) l2 hb] at hc
    refine hc.mono ?_
    rintro e w' ⟨rfl, hW⟩
    rw [if_pos hb]
    exact ⟨rfl, (hg.of_w hsub hW).mono fun w X h => ⟨_, h, hs⟩⟩
  · rcases reset_ar hs (by omega) l2 (fun h => hb (.inl h)) (fun h => hb (.inr h)) with ⟨L', e, hs'⟩ | ⟨L', e, hl, hd, hcr⟩
    · rw [e] at hc
      refine hc.mono ?_
      rintro e w' ⟨rfl, hW⟩
      rw [if_neg hb]
      exact .inl ⟨rfl, (hg.of_w hsub hW).mono fun w X h => ⟨_, h, hs'⟩⟩
    · rw [e] at hc
      refine hc.mono ?_
      rintro e w' ⟨rfl, hW⟩
      rw [if_neg hb]
      exact .inr ⟨rfl, (hg.of_w hsub hW).mono fun w X h => ⟨_, h, hl, by rw [← b5]; exact b4, hd, hcr⟩⟩
theorem lgall (hg : LgF w base R RD X L) (hl : L.l = l) (hn : l.length ≤ 1000) :
    Calls Try.prog 10 #[.pointer (some ⟨R, 0, none⟩)] w fun e w' => ∃ v, e = .returned v ∧ w'.ownsRow w.heap.size 9 1 v l.length (l.map strL) ∧ Below w.heap.size w w' := by
  obtain ⟨F, lv, ha, hsub⟩ := hg.sub
  have hc := lall ha (by rw [hl]; omega)
  rw [hl] at hc
  exact hc
theorem KA.all (h : KA w base R RD X ls l G N) :
    Calls Try.prog 10 #[.pointer (some ⟨R, 0, none⟩)] w fun e w' => ∃ v, e = .returned v ∧ w'.ownsRow w.heap.size 9 1 v l.length (l.map strL) ∧ Below w.heap.size w w' := by
  obtain ⟨L, h1, h2⟩ := h
  exact lgall h1 h2.ok.el (by have := h2.ok.live.opn.wt; have := wtL_len l; omega)
theorem KD.all (h : KD w base R RD X l P) :
    Calls Try.prog 10 #[.pointer (some ⟨R, 0, none⟩)] w fun e w' => ∃ v, e = .returned v ∧ w'.ownsRow w.heap.size 9 1 v l.length (l.map strL) ∧ Below w.heap.size w w' := by
  obtain ⟨L, h1, h2, h3, _⟩ := h
  exact lgall h1 h2 h3
theorem KD.cell (h : KD w base R RD X l P) : w.cell? ⟨R, 6, none⟩ = some (.bool true) := by
  obtain ⟨L, ⟨F, lv, h1, _⟩, _, _, hd, _⟩ := h
  rw [h1.head.cell, ← hd]; rfl
theorem KD.sync (h : KD w base R RD X l P) : Calls Try.prog 21 #[.pointer (some ⟨R, 0, none⟩)] w fun e w' => e = .returned (.int .i64 10) ∧ w = w' := by
  have c6 := h.cell
  clear h
  go_enter Try.func21, Try.ntmps21
  go_wp2
  go_ret
  exact ⟨rfl, rfl⟩
theorem KD.append (h : KD w base R RD X l P) (x : List UInt8) : Calls Try.prog 9 #[.pointer (some ⟨R, 0, none⟩), .string ⟨x.toArray⟩] w fun e w' => e = .returned (.int .i64 10) ∧ w = w' := by
  have c6 := h.cell
  clear h
  go_enter Try.func9, Try.ntmps9
  go_wp2
  go_ret
  exact ⟨rfl, rfl⟩
/-- An opening of a disk that nothing is pending on. -/
theorem aopen {s : DS} (hd : DkG w base RD F s) (hz : base ≤ w.heap.size) (hon : On s) (hW : s.W = []) (hl : s.last = 0) {r : Nat} {g : Int} (hsm : Same cbL r g l (fun m => secN s.K m)) :
    Calls Try.prog 6 #[.pointer (some ⟨RD, 0, none⟩)] w fun e w' => (e = .returned (.tuple #[.pointer (some ⟨w.heap.size, 0, none⟩), .int .i64 0]) ∧ ∃ X', KA w' base w.heap.size RD X' l l g 5000000 ∧ Left F w w' ∧ ∀ k ∈ X', k ∈ F ∨ w.heap.size ≤ k) ∨
      (s.armed = true ∧ e = .returned (.tuple #[.pointer none, .int .i64 10]) ∧ PPa (fun w' F' => KS w' base RD F' (fun l' => l' = l)) w F w') := by
  have he : ∀ m, secE s m = secN s.K m := fun m => by unfold secE; rw [hW]; rfl
  have hc := lopen hd hz hon ⟨by omega, by omega⟩
  rcases open_out (cb := cbL) cbL4 hon (r := r) (g := g) (l := l) (fun m hm => (he m).symm) (by
    have : (view s).2 = fun m => secN s.K m := funext he
    rw [this]; exact hsm) with ⟨s', e, hon', har, hla, hlv, hW'⟩ | ⟨L, e, hf⟩
  · rw [e] at hc
    refine hc.mono ?_
    rintro e w' ⟨rfl, F', lv', h1, hl', hf, hv, hR⟩
    refine .inl ⟨rfl, _, ⟨_, h1.g, ⟨rfl, rfl, rfl, rfl, hon', hlv⟩, ⟨live_gen hlv, Int.le_refl _⟩, ⟨by show (0 : Int) ≤ s'.last; omega, by show s'.last ≤ 5000000; omega⟩⟩, hl', fun k hk => ?_⟩
    rw [List.mem_cons, List.mem_append] at hk
    rcases hk with rfl | hk | hk
    · exact .inr (Nat.le_refl _)
    · exact hf k hk
    · exact .inr (hv k (mem_ownL.1 hk))
  · rw [e] at hc
    refine hc.mono ?_
    rintro e w' ⟨rfl, F', lv', h1, hl', hff, hv, hR⟩
    exact .inr ⟨hf.armed, rfl, F', ⟨_, h1.disk, hf.len, hf.w64, fun C hC => ⟨l, r, g, rfl, hf.img C hC⟩⟩, hl', hff⟩
end
end
section
open Go.RowKit
/-- What is behind an act told OK, or refused: ls' is on the disk. -/
def Nxt (K : Int) (D : List (List UInt8) × Int) (ls l ls' : List (List UInt8)) : Prop :=
  (D.2 = 0 ∧ 4 ≤ K ∧ ls' = D.1) ∨ (¬ (D.2 = 0 ∧ 4 ≤ K) ∧ ls' = ls ∧ ∀ l', l' <+: D.1 → l' <+: l ∨ l' = D.1)
/-- An act done, or the power went. -/
def DoQ (w : World) (base R RD : Nat) (X : List Nat) (ls l : List (List UInt8)) (K G N : Int) (D : List (List UInt8) × Int) (z : Int) (w' : World) : Prop :=
  (z = D.2 ∧ ∃ ls', Nxt K D ls l ls' ∧ PPa (fun w' X' => KA w' base R RD X' ls' D.1 (G + 1) (N + 10000)) w X w') ∨
  (z = 10 ∧ PPa (fun w' X' => KD w' base R RD X' l (fun l' => (ls <+: l' ∧ l' <+: l) ∨ l' = D.1)) w X w')
def DoA (w : World) (base R RD : Nat) (X : List Nat) (ls l : List (List UInt8)) (K G N : Int) (D : List (List UInt8) × Int) (e : Ending) (w' : World) : Prop :=
  ∃ z, e = .returned (.int .i64 z) ∧ DoQ w base R RD X ls l K G N D z w'
theorem pre_snoc {l l' : List (List UInt8)} {x : List UInt8} (h : l' <+: l ++ [x]) : l' <+: l ∨ l' = l ++ [x] := (List.prefix_concat_iff.1 h).symm
section
variable {base R RD : Nat} {X : List Nat} {ls l : List (List UInt8)} {K G N : Int} {D : List (List UInt8) × Int} {z : Int} {w w1 w' w3 w4 : World} {S : List Nat}
theorem DoQ.pre (hb : Below w.heap.size w w1) (h : DoQ w1 base R RD X ls l K G N D z w') : DoQ w base R RD X ls l K G N D z w' := by
  rcases h with ⟨h1, ls', h2, h3⟩ | ⟨h1, h2⟩
  · exact .inl ⟨h1, ls', h2, h3.pre hb⟩
  · exact .inr ⟨h1, h2.pre hb⟩
theorem DoQ.post (h : DoQ w1 base R RD X ls l K G N D z w3) (hl : Left S w3 w4) (hX : ∀ k ∈ X, k < w.heap.size) (hb : Below w.heap.size w w1) (hS : ∀ k ∈ S, w.heap.size ≤ k ∧ k < w1.heap.size) : DoQ w base R RD X ls l K G N D z w4 := by
  rcases h with ⟨h1, ls', h2, h3⟩ | ⟨h1, h2⟩
  · exact .inl ⟨h1, ls', h2, h3.post (fun _ _ _ _ h hl hS => h.left hl hS) hl hX hb hS⟩
  · exact .inr ⟨h1, h2.post (fun _ _ _ _ h hl hS => h.left hl hS) hl hX hb hS⟩
theorem DoQ.size (h : DoQ w base R RD X ls l K G N D z w') : Left X w w' := by
  rcases h with ⟨_, _, _, _, _, h, _⟩ | ⟨_, _, _, h, _⟩
  · exact h
  · exact h
set_option maxRecDepth 20000 in
set_option maxHeartbeats 8000000 in
theorem adoes (w : World) (h : KA w base R RD X ls l G N) (hz : base ≤ w.heap.size) (hG : G ≤ 1000000) (hN : N ≤ 800000000) (a : Act6) (lv kv : Value) (hL : Rd w w.heap.size 1 lv a.l.length (sts a.l)) (hx : ∀ x ∈ a.l, x.length ≤ 100000) (hal : a.l.length ≤ 100000) (hs : a.s.length ≤ 100000) :
    Calls Try.prog 16 #[.pointer (some ⟨R, 0, none⟩), .agg #[.int .i64 a.d, .string ⟨a.s.toArray⟩, lv, kv]] w (DoA w base R RD X ls l (within a.d 7) G N (nextD l a)) := by
  obtain ⟨lo, lc, rfl, hl1, hl2⟩ := hL.form
  obtain ⟨w0, hw0⟩ : ∃ w0, w0 = w.alloc (.cells #[.int .i64 a.d, .string ⟨a.s.toArray⟩, .slice lo a.l.length lc, kv] 42) := ⟨_, rfl⟩
  have hb0 : Below w.heap.size w w0 := by rw [hw0]; exact (Below.refl _ _).alloc (Nat.le_refl _) _
  have hW0 : Whole w0 w.heap.size 42 [.int .i64 a.d, .string ⟨a.s.toArray⟩, .slice lo a.l.length lc, kv] := by rw [hw0]; exact Whole.new w 42 _
  have b0 : w0.cell? ⟨w.heap.size, 0, none⟩ = some (.int .i64 a.d) := by rw [hW0.cell]; rfl
  have b1 : w0.cell? ⟨w.heap.size, 1, none⟩ = some (.string ⟨a.s.toArray⟩) := by rw [hW0.cell]; rfl
  have b2 : w0.cell? ⟨w.heap.size, 2, none⟩ = some (.slice lo a.l.length lc) := by rw [hW0.cell]; rfl
  have hL0 := hL.belowH hb0 (Nat.le_refl _)
  have hk0 := h.below hb0
  have hz0 : base ≤ w0.heap.size := Nat.le_trans hz hb0.size
  obtain ⟨K, hKK⟩ : ∃ K, within a.d 7 = K := ⟨_, rfl⟩
  have hK7 : K < 7 := by rw [← hKK]; exact within_lt _ _ (by omega)
  obtain ⟨D, hD⟩ : ∃ D, nextD l a = D := ⟨_, rfl⟩
  have hD0 := hD
  unfold nextD at hD
  rw [hKK] at hD
  rw [hD0, hKK]
  have HK := Lib.hid hKK
  have HD := Lib.hid hD
  have HB0 := Lib.hid hb0
  have HL0 := Lib.hid hL0
  have HX := Lib.hid hx
  have HKG := Lib.hid hk0
  have HXlt := Lib.hid h.lt
  have HSZ := Lib.hid (And.intro hb0.size (And.intro (by rw [hw0]; simp : w0.heap.size = w.heap.size + 1) hz0))
  have HGN := Lib.hid (And.intro hG hN)
  have hch := hw0.symm
  clear h hL hb0 hW0 hw0 hL0 hKK hD hD0 hx hl2 hk0 hz hz0 hG hN
  by_cases h4 : K = 4
  · have h4' : (K == 4) = true := beq_iff_eq.2 h4
    have hDD := HD.out
    rw [if_pos h4] at hDD
    have HD4 := Lib.hid hDD
    have HK4 := Lib.hid h4
    have HCP := Lib.hid (CopyStrings_any w0 _ a.l _ HL0.out (by have := HSZ.out; omega) (by omega))
    clear hDD h4
    go_enter Try.func16, Try.ntmps16
    go_wp2_with (go_at_call 18; refine (Within_any _ _ 7 (by omega) (by omega)).mono ?_; rintro e w' ⟨rfl, rfl⟩; rw [HK.out])
    refine HCP.out.mono ?_
    rintro e w2 ⟨v2, rfl, hv2, hb2⟩
    obtain ⟨vo2, vc2, rfl, _, _⟩ := (Rd.of_own hv2).form
    have hk2 := HKG.out.below hb2
    have hX2 : ∀ k ∈ X, (Value.slice vo2 a.l.length vc2).ownBlock ≠ some k := fun k hk e => by
      have h1 := (hv2.lt k e).1
      have h2 := (HXlt.out k hk).2
      have := HSZ.out
      omega
    have hrd2 : ∀ w', Left X w2 w' → Rd w' w'.heap.size 1 (.slice vo2 a.l.length vc2) a.l.length (a.l.map strL) := fun w' hl => Rd.of_own (own_leftB hv2 hl hX2)
    have hz2 : base ≤ w2.heap.size := by have := hb2.size; have := HSZ.out; omega
    have HRS : Hid (Calls Try.prog 11 #[.pointer (some ⟨R, 0, none⟩), .slice vo2 a.l.length vc2] w2 (DoA w2 base R RD X ls l K G N D)) := Lib.hid (by
      have hDD := HD4.out
      have hK4 := HK4.out
      refine (areset hk2 hz2 HGN.out.1 HGN.out.2 _ a.l hrd2 (fun x hx => by have := HX.out x hx; omega)).mono fun e w' he => ?_
      by_cases hbig : ∃ x ∈ a.l, 16384 < x.length
      · rw [if_pos hbig] at hDD
        rw [if_pos (.inl hbig), if_pos hbig] at he
        rw [← hDD]
        exact ⟨1, he.1, .inl ⟨rfl, ls, .inr ⟨fun h => by have := h.1; simp at this, rfl, fun l' h => .inl h⟩, he.2.mono fun w X h => h.mono (by omega) (by omega)⟩⟩
      · rw [if_neg hbig] at hDD
        by_cases hf : 65536 < wtL a.l
        · rw [if_pos hf] at hDD
          rw [if_pos (.inr hf), if_neg hbig] at he
          rw [← hDD]
          exact ⟨5, he.1, .inl ⟨rfl, ls, .inr ⟨fun h => by have := h.1; simp at this, rfl, fun l' h => .inl h⟩, he.2.mono fun w X h => h.mono (by omega) (by omega)⟩⟩
        · rw [if_neg hf] at hDD
          rw [if_neg (fun h => h.elim hbig hf)] at he
          rw [← hDD]
          rcases he with ⟨h1, h2⟩ | ⟨h1, h2⟩
          · exact ⟨0, h1, .inl ⟨rfl, a.l, .inl ⟨rfl, by omega, rfl⟩, h2⟩⟩
          · exact ⟨10, h1, .inr ⟨rfl, h2⟩⟩)
    have H2 := Lib.hid (And.intro hv2 hb2)
    clear hv2 hb2 hk2 hX2 hrd2 hz2
    go_wp2_with fail
    refine HRS.out.mono ?_
    rintro e w3 ⟨z, rfl, hq3⟩
    have hl3 := hq3.size
    have hv3 : w3.ownsRow w0.heap.size 9 1 (.slice vo2 a.l.length vc2) a.l.length (sts a.l) := own_leftB H2.out.1 hl3 (fun k hk e => by
      have h1 := (H2.out.1.lt k e).1
      have h2 := (HXlt.out k hk).2
      have := HSZ.out
      omega)
    have HSP := Lib.hid (Strings_left w3 w0.heap.size _ a.l hv3 (by have := hl3.size; have := H2.out.2.size; omega) (by omega))
    have H3 := Lib.hid hq3
    clear hq3 hl3 hv3
    go_wp2_with (go_at_call 8; refine (knum _ _).mono ?_; rintro e w' ⟨rfl, rfl⟩)
    refine HSP.out.mono ?_
    rintro e w4 ⟨rfl, hl4⟩
    have hge : ∀ k ∈ Value.ownL (.slice vo2 a.l.length vc2), w.heap.size ≤ k ∧ k < w2.heap.size := fun k hk => ⟨by have := (H2.out.1.lt k (mem_ownL.1 hk)).1; have := HSZ.out; omega, (H2.out.1.lt k (mem_ownL.1 hk)).2⟩
    have HR : Hid (DoQ w base R RD X ls l K G N D z w4) := Lib.hid (H3.out.post hl4 (fun k hk => (HXlt.out k hk).2) (HB0.out.trans (H2.out.2.mono HB0.out.size)) hge)
    clear hl4 hge
    go_wp2
    go_ret
    exact ⟨z, rfl, HR.out⟩
  · have h4' : (K == 4) = false := beq_eq_false_iff_ne.2 h4
    have hDD := HD.out
    rw [if_neg h4] at hDD
    by_cases h56 : K = 5 ∨ K = 6
    · rw [if_pos h56] at hDD
      have HE := Lib.hid hDD
      have HSY := Lib.hid (async HKG.out HSZ.out.2.2 (by have := HGN.out.2; omega))
      have HR : Hid (∀ e w4, ((e = .returned (.int .i64 0) ∧ PPa (fun w' X' => KA w' base R RD X' l l G (N + 1)) w0 X w4) ∨ (e = .returned (.int .i64 10) ∧ PPa (fun w' X' => KD w' base R RD X' l (fun l' => ls <+: l' ∧ l' <+: l)) w0 X w4)) → DoA w base R RD X ls l K G N D e w4) := Lib.hid (fun e w4 he => by
        rw [← HE.out]
        rcases he with ⟨h1, h2⟩ | ⟨h1, h2⟩
        · exact ⟨0, h1, .inl ⟨rfl, l, .inl ⟨rfl, by omega, rfl⟩, (h2.mono fun w X h => h.mono (by omega) (by omega)).pre HB0.out⟩⟩
        · exact ⟨10, h1, .inr ⟨rfl, (h2.mono fun w X h => h.mono fun l' h => .inl h).pre HB0.out⟩⟩)
      clear hDD h4
      rcases h56 with h5 | h6
      · have h5' : (K == 5) = true := beq_iff_eq.2 h5
        clear h5
        go_enter Try.func16, Try.ntmps16
        go_wp2_with (go_at_call 18; refine (Within_any _ _ 7 (by omega) (by omega)).mono ?_; rintro e w' ⟨rfl, rfl⟩; rw [HK.out])
        refine HSY.out.mono ?_
        intro e w3 he
        obtain ⟨z, rfl, hP⟩ := HR.out e w3 he
        have HP := Lib.hid hP
        clear hP he
        go_wp2_with (go_at_call 8; refine (knum _ _).mono ?_; rintro e w' ⟨rfl, rfl⟩)
        go_ret
        exact ⟨z, rfl, HP.out⟩
      · have h5' : (K == 5) = false := beq_eq_false_iff_ne.2 (by omega)
        have h6' : (K == 6) = true := beq_iff_eq.2 h6
        clear h6
        go_enter Try.func16, Try.ntmps16
        go_wp2_with (go_at_call 18; refine (Within_any _ _ 7 (by omega) (by omega)).mono ?_; rintro e w' ⟨rfl, rfl⟩; rw [HK.out])
        refine HSY.out.mono ?_
        intro e w3 he
        obtain ⟨z, rfl, hP⟩ := HR.out e w3 he
        have HP := Lib.hid hP
        clear hP he
        go_wp2_with (go_at_call 8; refine (knum _ _).mono ?_; rintro e w' ⟨rfl, rfl⟩)
        go_ret
        exact ⟨z, rfl, HP.out⟩
    · rw [if_neg h56] at hDD
      have h5' : (K == 5) = false := beq_eq_false_iff_ne.2 (fun h => h56 (.inl h))
      have h6' : (K == 6) = false := beq_eq_false_iff_ne.2 (fun h => h56 (.inr h))
      have hK3 : K < 4 ∨ K = 4 ∨ K = 5 ∨ K = 6 := by omega
      replace hK3 : K < 4 := by rcases hK3 with h | h | h | h; exact h; exact absurd h h4; exact absurd (.inl h) h56; exact absurd (.inr h) h56
      have HAP : Hid (Calls Try.prog 9 #[.pointer (some ⟨R, 0, none⟩), .string ⟨a.s.toArray⟩] w0 (DoA w base R RD X ls l K G N D)) := Lib.hid (by
        by_cases hb : 16384 < a.s.length
        · rw [if_pos hb] at hDD
          have hc := aappend_no HKG.out HSZ.out.2.2 (by have := HGN.out.2; omega) a.s (by omega) (.inl hb)
          rw [if_pos hb] at hc
          rw [← hDD]
          exact hc.mono fun e w' ⟨h1, h2⟩ => ⟨1, h1, .inl ⟨rfl, ls, .inr ⟨fun h => by have := h.1; simp at this, rfl, fun l' h => .inl h⟩, (h2.mono fun w X h => h.mono (by omega) (by omega)).pre HB0.out⟩⟩
        · rw [if_neg hb] at hDD
          by_cases hf : 65536 < a.s.length + 128 + wtL l
          · rw [if_pos hf] at hDD
            have hc := aappend_no HKG.out HSZ.out.2.2 (by have := HGN.out.2; omega) a.s (by omega) (.inr hf)
            rw [if_neg hb] at hc
            rw [← hDD]
            exact hc.mono fun e w' ⟨h1, h2⟩ => ⟨5, h1, .inl ⟨rfl, ls, .inr ⟨fun h => by have := h.1; simp at this, rfl, fun l' h => .inl h⟩, (h2.mono fun w X h => h.mono (by omega) (by omega)).pre HB0.out⟩⟩
          · rw [if_neg hf] at hDD
            have hc := aappend HKG.out HSZ.out.2.2 (by have := HGN.out.2; omega) a.s (by omega) (by omega)
            rw [← hDD]
            refine hc.mono fun e w' he => ?_
            rcases he with ⟨h1, h2⟩ | ⟨h1, h2⟩
            · exact ⟨0, h1, .inl ⟨rfl, ls, .inr ⟨fun h => by omega, rfl, fun l' h => pre_snoc h⟩, (h2.mono fun w X h => h.mono (by omega) (by omega)).pre HB0.out⟩⟩
            · exact ⟨10, h1, .inr ⟨rfl, (h2.mono fun w X h => h.mono fun l' h => (pre_snoc h.2).imp (fun h' => ⟨h.1, h'⟩) id).pre HB0.out⟩⟩)
      clear h4 h56 hDD
      go_enter Try.func16, Try.ntmps16
      go_wp2_with (go_at_call 18; refine (Within_any _ _ 7 (by omega) (by omega)).mono ?_; rintro e w' ⟨rfl, rfl⟩; rw [HK.out])
      refine HAP.out.mono ?_
      rintro e w3 ⟨z, rfl, hP⟩
      have HP := Lib.hid hP
      clear hP
      go_wp2_with (go_at_call 8; refine (knum _ _).mono ?_; rintro e w' ⟨rfl, rfl⟩)
      go_ret
      exact ⟨z, rfl, HP.out⟩
end
end
section
open Go.RowKit
theorem inf_Tss : (Try.prog.info? 35).map (fun i => (i.zero, i.size, i.bytes)) = some (some (.slice none 0 0), 1, 24) := by kernel_rfl
theorem own_lit (w : World) (B : Nat) (hB : B ≤ w.heap.size) (v : Value) : (w.alloc (.cells #[v] 35)).ownsRow B 35 1 (.slice (some ⟨w.heap.size, 0, none⟩) 1 1) 1 [v] :=
  ⟨by simp, .inr ⟨w.heap.size, 1, #[v], rfl, hB, heap_alloc_new w _, Nat.le_refl _, by unfold maxLen; omega, by simp, by simp⟩⟩
/-- Lists that the law has put into a row of its own. -/
structure CanO (w : World) (B : Nat) (cv : Value) (C : List (List (List UInt8))) (V : List Value) (X : List Nat) : Prop where
  own : w.ownsRow B 35 1 cv C.length V
  sep : ∀ k ∈ X, cv.ownBlock ≠ some k
  el : ∀ (i : Nat) (v : Value) (l : List (List UInt8)), V[i]? = some v → C[i]? = some l → RK w v l (X ++ Value.ownL cv)
/-- The same, to be read. -/
structure CanR (w : World) (cv : Value) (C : List (List (List UInt8))) (V : List Value) (X : List Nat) : Prop where
  rd : Rd w w.heap.size 1 cv C.length V
  sep : 0 < C.length → ∀ k, vBlk cv = some k → k ∉ X
  el : ∀ (i : Nat) (v : Value) (l : List (List UInt8)), V[i]? = some v → C[i]? = some l → RK w v l X
section
variable {w w' : World} {B : Nat} {cv cv' v : Value} {l : List (List UInt8)} {C : List (List (List UInt8))} {V : List Value} {X X' S : List Nat}
theorem vBlk_own : vBlk v = v.ownBlock := by
  cases v <;> rfl
theorem RK.sub (h : RK w v l X) (hX : ∀ k ∈ X', k ∈ X) : RK w v l X' := h.step (Left.refl [] _) (by simp) (fun k hk => .inl (hX k hk))
theorem CanO.step (h : CanO w B cv C V X) (hl : Left S w w') (hS : ∀ k ∈ S, k ∈ X ∨ w.heap.size ≤ k) (hX : ∀ k ∈ X', k ∈ X ∨ w.heap.size ≤ k) : CanO w' B cv C V X' := by
  refine ⟨own_leftB h.own hl (fun k hk e => ?_), fun k hk e => ?_, fun i u m hu hm => (h.el i u m hu hm).step hl (fun k hk => ?_) (fun k hk => ?_)⟩
  · rcases hS k hk with h' | h'
    · exact h.sep k h' e
    · have := (h.own.lt k e).2; omega
  · rcases hX k hk with h' | h'
    · exact h.sep k h' e
    · have := (h.own.lt k e).2; omega
  · rcases hS k hk with h' | h'
    · exact .inl (List.mem_append.2 (.inl h'))
    · exact .inr (.inl h')
  · rcases List.mem_append.1 hk with h' | h'
    · exact (hX k h').imp (fun h => List.mem_append.2 (.inl h)) id
    · exact .inl (List.mem_append.2 (.inr h'))
theorem CanO.push (h : CanO w B cv C V X) (hr : RK w v l (X ++ Value.ownL cv)) (hXlt : ∀ k ∈ X, k < w.heap.size) (hrow : w'.ownsRow B 35 1 cv' (C.length + 1) (V ++ [v])) (hg : w.grownBy w' cv.ownBlock) (hat : cv'.ownBlock = cv.ownBlock ∨ cv'.ownBlock = some w.heap.size) :
    CanO w' B cv' (C ++ [l]) (V ++ [v]) X := by
  have hlen : V.length = C.length := by have := h.own.1; omega
  have hst : ∀ {u m}, RK w u m (X ++ Value.ownL cv) → RK w' u m (X ++ Value.ownL cv') := fun hu => hu.step (left_of_grown hg) (fun k hk => .inl (List.mem_append.2 (.inr hk))) (fun k hk => by
    rcases List.mem_append.1 hk with h' | h'
    · exact .inl (List.mem_append.2 (.inl h'))
    · have e := mem_ownL.1 h'
      rcases hat with ha | ha
      · rw [ha] at e; exact .inl (List.mem_append.2 (.inr (mem_ownL.2 e)))
      · rw [ha] at e; injection e with e; exact .inr (by omega))
  refine ⟨by simpa using hrow, fun k hk e => ?_, fun i u m hu hm => ?_⟩
  · rcases hat with ha | ha
    · rw [ha] at e; exact h.sep k hk e
    · rw [ha] at e; injection e with e; have := hXlt k hk; omega
  · by_cases hi : i < C.length
    · rw [List.getElem?_append_left (by omega)] at hu
      rw [List.getElem?_append_left hi] at hm
      exact hst (h.el i u m hu hm)
    · rw [List.getElem?_append_right (by omega)] at hu
      rw [List.getElem?_append_right (by omega)] at hm
      have hi0 : i - V.length = 0 := by
        by_cases h0 : i - V.length = 0
        · exact h0
        · rw [List.getElem?_eq_none (by simp; omega)] at hu; cases hu
      rw [hi0] at hu
      rw [show i - C.length = 0 by omega] at hm
      simp at hu hm
      subst hu hm
      exact hst hr
theorem CanO.r (h : CanO w B cv C V X) (hX : ∀ k ∈ X', k ∈ X) : CanR w cv C V X' :=
  ⟨Rd.of_own h.own, fun _ k hk hm => h.sep k (hX k hm) (by rw [← vBlk_own]; exact hk), fun i u m hu hm => (h.el i u m hu hm).sub (fun k hk => List.mem_append.2 (.inl (hX k hk)))⟩
theorem CanO.nil (w : World) (B : Nat) (X : List Nat) : CanO w B (.slice none 0 0) [] [] X := ⟨World.ownsRow_nil _ _ _ _, (fun k _ e => by cases e), (fun i u m hu => by cases hu)⟩
theorem CanO.one (hB : B ≤ w.heap.size) (hr : RK w v l X) (hX : ∀ k ∈ X, k < w.heap.size) : CanO (w.alloc (.cells #[v] 35)) B (.slice (some ⟨w.heap.size, 0, none⟩) 1 1) [l] [v] X := by
  refine ⟨own_lit w B hB v, fun k hk e => ?_, fun i u m hu hm => ?_⟩
  · have := hX k hk
    have : w.heap.size = k := by simpa [Value.ownBlock] using e
    omega
  · cases i with
    | zero =>
      simp at hu hm
      subst hu hm
      exact hr.step (Left.of_below ((Below.refl w.heap.size w).alloc (Nat.le_refl _) (.cells #[v] 35)) []) (by simp) (fun k hk => by
        rcases List.mem_append.1 hk with h' | h'
        · exact .inl h'
        · have e : w.heap.size = k := by simpa [Value.ownBlock] using mem_ownL.1 h'
          exact .inr (by omega))
    | succ n => simp at hu
theorem CanR.step (h : CanR w cv C V X) (hl : Left S w w') (hS : ∀ k ∈ S, k ∈ X ∨ w.heap.size ≤ k) (hX : ∀ k ∈ X', k ∈ X ∨ w.heap.size ≤ k) : CanR w' cv C V X' := by
  obtain ⟨h1, ao, cap, rfl, h3, h4, h5, h6⟩ := h.rd
  refine ⟨⟨h1, ao, cap, rfl, h3, h4, h5, fun hn => ?_⟩, fun hn k hk hm => ?_, fun i u m hu hm => (h.el i u m hu hm).step hl (fun k hk => (hS k hk).imp id .inl) hX⟩
  · obtain ⟨b, o, rfl, hb, hc⟩ := h6 hn
    refine ⟨b, o, rfl, Nat.lt_of_lt_of_le hb hl.size, fun j u hu => cell_left' (hc j u hu) hl (fun hm => ?_)⟩
    rcases hS b hm with h' | h'
    · exact h.sep hn b rfl h'
    · omega
  · obtain ⟨b, o, rfl, hb, hc⟩ := h6 hn
    have hbk : b = k := by simpa [vBlk] using hk
    subst hbk
    rcases hX b hm with h' | h'
    · exact h.sep hn b rfl h'
    · omega
end
/-- The first loop: a log that lives. -/
structure CM (w0 wr : World) (base R RD : Nat) (X : List Nat) (ls l : List (List UInt8)) (v cv : Value) (C : List (List (List UInt8))) (V : List Value) (G N : Int) : Prop where
  bel : Below w0.heap.size w0 wr
  ka : KA wr base R RD X ls l G N
  hb : w0.heap.size ≤ base
  hz : base ≤ wr.heap.size
  row : RK wr v l (X ++ Value.ownL cv)
  can : CanO wr w0.heap.size cv C V X
  has : ∀ l', ls <+: l' → l' <+: l → l' ∈ C
/-- Behind it: a disk. -/
structure CE (w0 wr : World) (base RD : Nat) (F : List Nat) (S : List (List UInt8) → Prop) (cv : Value) (C : List (List (List UInt8))) (V : List Value) : Prop where
  bel : Below w0.heap.size w0 wr
  ks : KS wr base RD F S
  hb : w0.heap.size ≤ base
  hz : base ≤ wr.heap.size
  can : CanR wr cv C V F
  has : ∀ l', S l' → l' ∈ C
section
variable {w0 wr w' : World} {base R RD : Nat} {X X' F : List Nat} {ls l ls' l' : List (List UInt8)} {v v' cv : Value} {C : List (List (List UInt8))} {V : List Value} {G N G' N' : Int} {S : List (List UInt8) → Prop}
theorem CM.quiet (h : CM w0 wr base R RD X ls l v cv C V G N) (hb : Below wr.heap.size wr w') : CM w0 w' base R RD X ls l v cv C V G N :=
  ⟨h.bel.trans (hb.mono h.bel.size), h.ka.below hb, h.hb, Nat.le_trans h.hz hb.size, h.row.step (Left.of_below hb []) (by simp) (fun k hk => .inl hk), h.can.step (Left.of_below hb []) (by simp) (fun k hk => .inl hk), h.has⟩
theorem CM.e (h : CM w0 wr base R RD X ls l v cv C V G N) : ∃ F S, CE w0 wr base RD F S cv C V := by
  obtain ⟨F, h1, h2⟩ := h.ka.disk
  exact ⟨F, _, h.bel, h1, h.hb, h.hz, h.can.r h2, fun l' h' => h.has l' h'.1 h'.2⟩
theorem CE.quiet (h : CE w0 wr base RD F S cv C V) (hb : Below wr.heap.size wr w') : CE w0 w' base RD F S cv C V :=
  ⟨h.bel.trans (hb.mono h.bel.size), h.ks.left (Left.of_below hb []) (by simp), h.hb, Nat.le_trans h.hz hb.size, h.can.step (Left.of_below hb []) (by simp) (fun k hk => .inl hk), h.has⟩
theorem nextD_err (l : List (List UInt8)) (a : Act6) : (nextD l a).2 = 0 ∨ (nextD l a).2 = 1 ∨ (nextD l a).2 = 5 := by
  unfold nextD
  split
  · split
    · exact .inr (.inl rfl)
    · split
      · exact .inr (.inr rfl)
      · exact .inl rfl
  · split
    · exact .inl rfl
    · split
      · exact .inr (.inl rfl)
      · split
        · exact .inr (.inr rfl)
        · exact .inl rfl
end
end
section
open Go.RowKit
def LeftC (Q : World → List Nat → Prop) : Prop := ∀ w w' X S, Q w X → Left S w w' → (∀ k ∈ S, k ∉ X) → Q w' X
/-- A log in whatever state, a row, and what may be found. -/
structure GB (Q : World → List Nat → Prop) (w0 wr : World) (base : Nat) (X : List Nat) (l : List (List UInt8)) (v cv : Value) (C : List (List (List UInt8))) (V : List Value) : Prop where
  bel : Below w0.heap.size w0 wr
  q : Q wr X
  lt : ∀ k ∈ X, base ≤ k ∧ k < wr.heap.size
  hb : w0.heap.size ≤ base
  hz : base ≤ wr.heap.size
  row : RK wr v l (X ++ Value.ownL cv)
  can : CanO wr w0.heap.size cv C V X
section
variable {Q Q' : World → List Nat → Prop} {w0 wr w' w1 w2 w3 : World} {base R RD : Nat} {X X' F : List Nat} {ls l ls' l' l1 : List (List UInt8)} {v v' v1 cv cv' : Value} {C : List (List (List UInt8))} {V : List Value} {G N G' N' : Int} {S : List (List UInt8) → Prop}
theorem KA.lc : LeftC (fun w X => KA w base R RD X ls l G N) := fun _ _ _ _ h hl hS => h.left hl hS
theorem KD.lc : LeftC (fun w X => KD w base R RD X l S) := fun _ _ _ _ h hl hS => h.left hl hS
theorem CM.b (h : CM w0 wr base R RD X ls l v cv C V G N) : GB (fun w X => KA w base R RD X ls l G N) w0 wr base X l v cv C V := ⟨h.bel, h.ka, h.ka.lt, h.hb, h.hz, h.row, h.can⟩
theorem GB.m (h : GB (fun w X => KA w base R RD X ls l G N) w0 wr base X l v cv C V) (has : ∀ l', ls <+: l' → l' <+: l → l' ∈ C) : CM w0 wr base R RD X ls l v cv C V G N := ⟨h.bel, h.q, h.hb, h.hz, h.row, h.can, has⟩
theorem GB.e (h : GB (fun w X => KD w base R RD X l S) w0 wr base X l1 v cv C V) (has : ∀ l', S l' → l' ∈ C) : ∃ F S, CE w0 wr base RD F S cv C V := by
  obtain ⟨F, h1, h2⟩ := h.q.disk
  exact ⟨F, _, h.bel, h1, h.hb, h.hz, h.can.r h2, has⟩
theorem RK.far {B : Nat} (hv : w'.ownsRow B 9 1 v' l'.length (sts l')) (hX : ∀ k ∈ X, k < B) : RK w' v' l' X := RK.of_own hv hX
theorem GB.xlt (h : GB Q w0 wr base X l v cv C V) : ∀ k ∈ X ++ Value.ownL cv, k < wr.heap.size := fun k hk => by
  rcases List.mem_append.1 hk with h' | h'
  · exact (h.lt k h').2
  · exact (h.can.own.lt k (mem_ownL.1 h')).2
theorem GB.quiet (hQ : LeftC Q) (h : GB Q w0 wr base X l v cv C V) (hb : Below wr.heap.size wr w') : GB Q w0 w' base X l v cv C V :=
  ⟨h.bel.trans (hb.mono h.bel.size), hQ _ _ _ _ h.q (Left.of_below hb []) (by simp), fun k hk => ⟨(h.lt k hk).1, Nat.lt_of_lt_of_le (h.lt k hk).2 hb.size⟩, h.hb, Nat.le_trans h.hz hb.size, h.row.step (Left.of_below hb []) (by simp) (fun k hk => .inl hk), h.can.step (Left.of_below hb []) (by simp) (fun k hk => .inl hk)⟩
/-- The row that next gave. -/
theorem GB.own (h : GB Q w0 wr base X l v cv C V) {B : Nat} (hB : wr.heap.size ≤ B) (hbw : Below wr.heap.size wr w') (hv : v' = v ∧ l' = l ∨ w'.ownsRow B 9 1 v' l'.length (sts l')) : RK w' v' l' (X ++ Value.ownL cv) := by
  rcases hv with ⟨rfl, rfl⟩ | hv
  · exact h.row.step (Left.of_below hbw []) (by simp) (fun k hk => .inl hk)
  · exact RK.of_own hv (fun k hk => Nat.lt_of_lt_of_le (h.xlt k hk) hB)
/-- The log went on. -/
theorem GB.go (h : GB Q w0 w1 base X l v cv C V) (hP : PPa Q' w1 X w2) (hlt : ∀ w X, Q' w X → ∀ k ∈ X, base ≤ k ∧ k < w.heap.size) :
    ∃ X', (∀ v1 l1, RK w1 v1 l1 (X ++ Value.ownL cv) → GB Q' w0 w2 base X' l1 v1 cv C V) ∧ Left X w1 w2 := by
  obtain ⟨X', h1, h2, h3⟩ := hP
  refine ⟨X', fun v1 l1 hr => ⟨h.bel.trans (h2.belowB h.bel.size (fun k hk => Nat.le_trans h.hb (h.lt k hk).1)), h1, hlt _ _ h1, h.hb, Nat.le_trans h.hz h2.size, hr.step h2 (fun k hk => .inl (List.mem_append.2 (.inl hk))) (fun k hk => ?_), h.can.step h2 (fun k hk => .inl hk) h3⟩, h2⟩
  rcases List.mem_append.1 hk with h' | h'
  · exact (h3 k h').imp (fun h => List.mem_append.2 (.inl h)) id
  · exact .inl (List.mem_append.2 (.inr h'))
theorem GB.clear (h : GB Q w0 wr base X l v cv C V) : GB Q w0 wr base X l v (.slice none 0 0) [] [] :=
  ⟨h.bel, h.q, h.lt, h.hb, h.hz, h.row.sub (fun k hk => by
    rcases List.mem_append.1 hk with h' | h'
    · exact List.mem_append.2 (.inl h')
    · have := mem_ownL.1 h'; cases this), CanO.nil _ _ _⟩
theorem GB.push (hQ : LeftC Q) (h : GB Q w0 wr base X l v cv C V) (hrow : w3.ownsRow w0.heap.size 35 1 cv' (C.length + 1) (V ++ [v])) (hg : wr.grownBy w3 cv.ownBlock) (hat : cv'.ownBlock = cv.ownBlock ∨ cv'.ownBlock = some wr.heap.size) :
    GB Q w0 w3 base X l v cv' (C ++ [l]) (V ++ [v]) := by
  have hl := left_of_grown hg
  have hS : ∀ k ∈ Value.ownL cv, k ∉ X := fun k hk hm => h.can.sep k hm (mem_ownL.1 hk)
  refine ⟨h.bel.trans (hl.belowB h.bel.size (fun k hk => (h.can.own.lt k (mem_ownL.1 hk)).1)), hQ _ _ _ _ h.q hl hS, fun k hk => ⟨(h.lt k hk).1, Nat.lt_of_lt_of_le (h.lt k hk).2 hl.size⟩, h.hb, Nat.le_trans h.hz hl.size, h.row.step hl (fun k hk => .inl (List.mem_append.2 (.inr hk))) (fun k hk => ?_), h.can.push h.row (fun k hk => (h.lt k hk).2) hrow hg hat⟩
  rcases List.mem_append.1 hk with h' | h'
  · exact .inl (List.mem_append.2 (.inl h'))
  · have e := mem_ownL.1 h'
    rcases hat with ha | ha
    · rw [ha] at e; exact .inl (List.mem_append.2 (.inr (mem_ownL.2 e)))
    · rw [ha] at e; injection e with e; exact .inr (by omega)
theorem has_keep {D : List (List UInt8) × Int} {K : Int} (hN : Nxt K D ls l ls') (hn : ¬ (D.2 = 0 ∧ 4 ≤ K)) (has : ∀ l', ls <+: l' → l' <+: l → l' ∈ C) : ∀ l', ls' <+: l' → l' <+: D.1 → l' ∈ C ++ [D.1] := by
  intro l' h1 h2
  rcases hN with ⟨a, b, _⟩ | ⟨_, rfl, h⟩
  · exact absurd ⟨a, b⟩ hn
  · rcases h l' h2 with h' | h'
    · exact List.mem_append.2 (.inl (has l' h1 h'))
    · subst h'; simp
theorem has_new {D : List (List UInt8) × Int} {K : Int} (hN : Nxt K D ls l ls') (hn : D.2 = 0 ∧ 4 ≤ K) : ∀ l', ls' <+: l' → l' <+: D.1 → l' ∈ [] ++ [D.1] := by
  intro l' h1 h2
  rcases hN with ⟨a, b, rfl⟩ | ⟨h, _⟩
  · have : l' = D.1 := List.IsPrefix.eq_of_length_le h2 (List.IsPrefix.length_le h1)
    simp [this]
  · exact absurd hn h
theorem has_dead {D : List (List UInt8) × Int} (has : ∀ l', ls <+: l' → l' <+: l → l' ∈ C) : ∀ l', ((ls <+: l' ∧ l' <+: l) ∨ l' = D.1) → l' ∈ C ++ [D.1] := by
  intro l' h
  rcases h with ⟨h1, h2⟩ | h
  · exact List.mem_append.2 (.inl (has l' h1 h2))
  · subst h; simp
end
end
end Go.Proofs.Ytcgdlmlolmfinaa
