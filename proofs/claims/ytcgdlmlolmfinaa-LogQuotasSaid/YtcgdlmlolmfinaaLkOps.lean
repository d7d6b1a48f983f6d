/- The log's calls on a disk without a fuse: contract and law in one. -/

import Derived.Test.YtcgdlmlolmfinaaLkPl
import Derived.Test.YtcgdlmlolmfinaaLgRst
import Derived.Test.YtcgdlmlolmfinaaLgOpen
namespace Go.Proofs.Ytcgdlmlolmfinaa
open Go.RowKit
def KG (w : World) (base R : Nat) (X : List Nat) (ls l : List (List UInt8)) (G N : Int) : Prop := ∃ L, LgG w base R X L ∧ LSafe L ls l G N
def KP (w : World) (base R : Nat) (X : List Nat) (ls l : List (List UInt8)) (G N : Int) (w' : World) : Prop := ∃ X', KG w' base R X' ls l G N ∧ Left X w w' ∧ ∀ k ∈ X', k ∈ X ∨ w.heap.size ≤ k
theorem wtL_len : ∀ l : List (List UInt8), 128 * l.length ≤ wtL l
  | [] => by simp [wtL]
  | x :: r => by have := wtL_len r; simp only [List.length_cons, wtL]; omega
section
variable {w w' w1 : World} {base R RD : Nat} {F F1 X S : List Nat} {lv : Value} {L L' : LS} {ls l ls' l' : List (List UInt8)} {G N G' N' : Int}
theorem LgAt.g (h : LgAt w base R RD F lv L) : LgG w base R (R :: (F ++ Value.ownL lv)) L := by
  refine ⟨RD, F, lv, h, fun k hk => ?_, fun k hk => ?_⟩
  · rw [List.mem_cons, List.mem_append]
    rcases hk with h | h | h
    · exact .inl h
    · exact .inr (.inr (mem_ownL.2 h))
    · exact .inr (.inl h)
  · rw [List.mem_cons, List.mem_append] at hk
    rcases hk with rfl | hk | hk
    · exact ⟨h.lt, h.head.lt⟩
    · exact h.disk.lt k hk
    · exact h.list.lt k (mem_ownL.1 hk)
theorem LgG.sub (h : LgG w base R X L) : ∃ RD F lv, LgAt w base R RD F lv L ∧ ∀ k ∈ (R :: (F ++ Value.ownL lv)), k ∈ X := by
  obtain ⟨RD, F, lv, h1, h2, _⟩ := h
  refine ⟨RD, F, lv, h1, fun k hk => h2 k ?_⟩
  rw [List.mem_cons, List.mem_append] at hk
  rcases hk with h | h | h
  · exact .inl h
  · exact .inr (.inr h)
  · exact .inr (.inl (mem_ownL.1 h))
theorem LgG.left (h : LgG w base R X L) (hl : Left S w w') (hS : ∀ k ∈ S, k ∉ X) : LgG w' base R X L := by
  obtain ⟨RD, F, lv, h1, h2, h3⟩ := h
  have hz := hl.size
  refine ⟨RD, F, lv, ⟨h1.head.left hl (fun hm => hS R hm (h2 R (.inl rfl))), h1.disk.left hl (fun k hk hm => hS k hk (h2 k (.inr (.inr hm)))), own_leftB h1.list hl (fun k hk e => hS k hk (h2 k (.inr (.inl e)))), h1.sepR, h1.sepL, h1.lt⟩, h2, fun k hk => ⟨(h3 k hk).1, by have := (h3 k hk).2; omega⟩⟩
theorem KG.left (h : KG w base R X ls l G N) (hl : Left S w w') (hS : ∀ k ∈ S, k ∉ X) : KG w' base R X ls l G N := by
  obtain ⟨L, h1, h2⟩ := h
  exact ⟨L, h1.left hl hS, h2⟩
theorem KG.below (h : KG w base R X ls l G N) (hb : Below w.heap.size w w') : KG w' base R X ls l G N := h.left (Left.of_below hb []) (by simp)
theorem KG.lt (h : KG w base R X ls l G N) : ∀ k ∈ X, base ≤ k ∧ k < w.heap.size := by
  obtain ⟨L, ⟨_, _, _, _, _, h3⟩, _⟩ := h
  exact h3
theorem KP.of_w (h : LgG w base R X L) {lw : LS} (hs : LSafe lw ls l G N) {RD : Nat} {F : List Nat} {lv : Value} (hsub : ∀ k ∈ (R :: (F ++ Value.ownL lv)), k ∈ X) (hW : LgW w base R RD F lv lw w') : KP w base R X ls l G N w' := by
  obtain ⟨F', lv', h1, hl, hf, hv⟩ := hW
  refine ⟨_, ⟨lw, h1.g, hs⟩, hl.mono hsub, fun k hk => ?_⟩
  rw [List.mem_cons, List.mem_append] at hk
  rcases hk with rfl | hk | hk
  · exact .inl (hsub _ (by simp))
  · rcases hf k hk with h | h
    · exact .inl (hsub _ (by rw [List.mem_cons, List.mem_append]; exact .inr (.inl h)))
    · exact .inr h
  · rcases hv k (mem_ownL.1 hk) with h | h
    · exact .inl (hsub _ (by rw [List.mem_cons, List.mem_append]; exact .inr (.inr (mem_ownL.2 h))))
    · exact .inr h
theorem LSafe.bounds (h : LSafe L ls l G N) : L.region ≤ 1 ∧ L.at_ ≤ 100000 ∧ L.size ≤ 65536 ∧ L.l.length ≤ 1000 ∧ L.l = l := by
  have hr := h.ok.live.opn.reg
  have he := h.ok.live.opn.end_
  have hw := h.ok.live.opn.wt
  have hn := wtL_len l
  refine ⟨hr, by rw [h.ok.ea]; omega, by rw [h.ok.es]; exact hw, by rw [h.ok.el]; omega, h.ok.el⟩
theorem kopen {B : List UInt8} (hB : B.length = 262144) (hd : DkG w base RD F (newS B)) (hz : base ≤ w.heap.size) {r : Nat} {g : Int} (hsm : Same cbL r g l (fun m => secN B m)) :
    Calls Try.prog 6 #[.pointer (some ⟨RD, 0, none⟩)] w fun e w' => e = .returned (.tuple #[.pointer (some ⟨w.heap.size, 0, none⟩), .int .i64 0]) ∧ ∃ X', KG w' base w.heap.size X' l l g 5000000 ∧ Left F w w' ∧ ∀ k ∈ X', k ∈ F ∨ w.heap.size ≤ k := by
  obtain ⟨L, e, hs, _⟩ := open_safe hB hsm
  have hc := lopen hd hz (on_new hB) ⟨by show (0 : Int) ≤ 0; omega, by show (0 : Int) ≤ 800000000; omega⟩
  rw [e] at hc
  refine hc.mono ?_
  rintro e w' ⟨rfl, F', lv', h1, hl, hf, hv, hR⟩
  refine ⟨rfl, _, ⟨L, h1.g, hs⟩, hl, fun k hk => ?_⟩
  rw [List.mem_cons, List.mem_append] at hk
  rcases hk with rfl | hk | hk
  · exact .inr (Nat.le_refl _)
  · exact hf k hk
  · exact .inr (hv k (mem_ownL.1 hk))
theorem kappend (h : KG w base R X ls l G N) (hz : base ≤ w.heap.size) (hN : N ≤ 900000000) (x : List UInt8) (h1 : x.length ≤ 16384) (h2 : wtL l + x.length + 128 ≤ 65536) :
    Calls Try.prog 9 #[.pointer (some ⟨R, 0, none⟩), .string ⟨x.toArray⟩] w fun e w' => e = .returned (.int .i64 0) ∧ KP w base R X ls (l ++ [x]) G (N + 1000) w' := by
  obtain ⟨L, hg, hs⟩ := h
  obtain ⟨RD, F, lv, ha, hsub⟩ := hg.sub
  obtain ⟨b1, b2, b3, b4, _⟩ := hs.bounds
  obtain ⟨L', e, hs'⟩ := append_safe hs x h1 h2
  have hc := lappend ha hz b1 b2 (by omega) (by omega) (by have := hs.n; omega) x (by omega)
  rw [e] at hc
  refine hc.mono ?_
  rintro e w' ⟨rfl, hW⟩
  exact ⟨rfl, KP.of_w hg hs' hsub hW⟩
theorem kappend_no (h : KG w base R X ls l G N) (hz : base ≤ w.heap.size) (hN : N ≤ 900000000) (x : List UInt8) (h0 : x.length ≤ 1000000) (h1 : 16384 < x.length ∨ 65536 < x.length + 128 + wtL l) :
    Calls Try.prog 9 #[.pointer (some ⟨R, 0, none⟩), .string ⟨x.toArray⟩] w fun e w' => e = .returned (.int .i64 (if 16384 < x.length then 1 else 5)) ∧ KP w base R X ls l G N w' := by
  obtain ⟨L, hg, hs⟩ := h
  obtain ⟨RD, F, lv, ha, hsub⟩ := hg.sub
  obtain ⟨b1, b2, b3, b4, _⟩ := hs.bounds
  have hc := lappend ha hz b1 b2 (by omega) (by omega) (by have := hs.n; omega) x h0
  by_cases hb : 16384 < x.length
  · rw [append_form hs x hb] at hc
    refine hc.mono ?_
    rintro e w' ⟨rfl, hW⟩
    exact ⟨by rw [if_pos hb], KP.of_w hg hs hsub hW⟩
  · rw [append_full hs x (by omega) (by rcases h1 with h | h; exact absurd h hb; exact h)] at hc
    refine hc.mono ?_
    rintro e w' ⟨rfl, hW⟩
    exact ⟨by rw [if_neg hb], KP.of_w hg hs hsub hW⟩
theorem ksync (h : KG w base R X ls l G N) (hz : base ≤ w.heap.size) (hN : N ≤ 900000000) :
    Calls Try.prog 21 #[.pointer (some ⟨R, 0, none⟩)] w fun e w' => e = .returned (.int .i64 0) ∧ KP w base R X l l G (N + 1) w' := by
  obtain ⟨L, hg, hs⟩ := h
  obtain ⟨RD, F, lv, ha, hsub⟩ := hg.sub
  obtain ⟨L', e, hs', _⟩ := sync_safe hs
  have hc := lsync ha hz (by have := hs.n; omega)
  rw [e] at hc
  refine hc.mono ?_
  rintro e w' ⟨rfl, F', h1, hl, hf⟩
  exact ⟨rfl, KP.of_w hg hs' hsub ⟨F', lv, h1, hl.mono (fun k hk => by
    rw [List.mem_cons] at hk
    rw [List.mem_cons, List.mem_append]
    exact hk.imp id .inl), hf, fun k hk => .inl hk⟩⟩
theorem kreset (h : KG w base R X ls l G N) (hz : base ≤ w.heap.size) (hG : G ≤ 1000000) (hN : N ≤ 800000000) (v : Value) (l2 : List (List UInt8)) (hv : ∀ w', Left X w w' → Rd w' w'.heap.size 1 v l2.length (l2.map strL)) (h1 : ∀ x ∈ l2, x.length ≤ 16384) (h2 : wtL l2 ≤ 65536) :
    Calls Try.prog 11 #[.pointer (some ⟨R, 0, none⟩), v] w fun e w' => e = .returned (.int .i64 0) ∧ KP w base R X l2 l2 (G + 1) (N + 10000) w' := by
  obtain ⟨L, hg, hs⟩ := h
  obtain ⟨RD, F, lv, ha, hsub⟩ := hg.sub
  obtain ⟨b1, _⟩ := hs.bounds
  obtain ⟨L', e, hs'⟩ := reset_safe hs (by omega) l2 h1 h2
  have hgn : L.gen = (L.gen.toNat : Nat) := (Int.toNat_of_nonneg hs.g.1).symm
  have hc := lreset ha hz b1 L.gen.toNat hgn (by have := hs.g; omega) (by have := hs.n; omega) v l2 (fun x hx => by have := h1 x hx; omega) (fun w' hw => hv w' (hw.mono (fun k hk => hsub k (by
    rw [List.mem_cons] at hk
    rw [List.mem_cons, List.mem_append]
    exact hk.imp id .inl))))
  rw [e] at hc
  refine hc.mono ?_
  rintro e w' ⟨rfl, hW⟩
  exact ⟨rfl, KP.of_w hg hs' hsub hW⟩
theorem kreset_no (h : KG w base R X ls l G N) (hz : base ≤ w.heap.size) (hG : G ≤ 1000000) (hN : N ≤ 800000000) (v : Value) (l2 : List (List UInt8)) (hv : ∀ w', Left X w w' → Rd w' w'.heap.size 1 v l2.length (l2.map strL)) (h0 : ∀ x ∈ l2, x.length ≤ 1000000) (h1 : (∃ x ∈ l2, 16384 < x.length) ∨ 65536 < wtL l2) :
    Calls Try.prog 11 #[.pointer (some ⟨R, 0, none⟩), v] w fun e w' => e = .returned (.int .i64 (if ∃ x ∈ l2, 16384 < x.length then 1 else 5)) ∧ KP w base R X ls l G N w' := by
  obtain ⟨L, hg, hs⟩ := h
  obtain ⟨RD, F, lv, ha, hsub⟩ := hg.sub
  obtain ⟨b1, _⟩ := hs.bounds
  have hgn : L.gen = (L.gen.toNat : Nat) := (Int.toNat_of_nonneg hs.g.1).symm
  have hc := lreset ha hz b1 L.gen.toNat hgn (by have := hs.g; omega) (by have := hs.n; omega) v l2 (fun x hx => by have := h0 x hx; omega) (fun w' hw => hv w' (hw.mono (fun k hk => hsub k (by
    rw [List.mem_cons] at hk
    rw [List.mem_cons, List.mem_append]
    exact hk.imp id .inl))))
  by_cases hb : ∃ x ∈ l2, 16384 < x.length
  · rw [reset_form hs (by omega) l2 hb] at hc
    refine hc.mono ?_
    rintro e w' ⟨rfl, hW⟩
    exact ⟨by rw [if_pos hb], KP.of_w hg hs hsub hW⟩
  · rw [reset_full hs (by omega) l2 (fun x hx => by
      rcases Nat.lt_or_ge 16384 x.length with h | h
      · exact absurd ⟨x, hx, h⟩ hb
      · exact h) (by rcases h1 with h | h; exact absurd h hb; exact h)] at hc
    refine hc.mono ?_
    rintro e w' ⟨rfl, hW⟩
    exact ⟨by rw [if_neg hb], KP.of_w hg hs hsub hW⟩
theorem kall (h : KG w base R X ls l G N) :
    Calls Try.prog 10 #[.pointer (some ⟨R, 0, none⟩)] w fun e w' => ∃ v, e = .returned v ∧ w'.ownsRow w.heap.size 9 1 v l.length (l.map strL) ∧ Below w.heap.size w w' := by
  obtain ⟨L, hg, hs⟩ := h
  obtain ⟨RD, F, lv, ha, hsub⟩ := hg.sub
  obtain ⟨_, _, _, b4, b5⟩ := hs.bounds
  have hc := lall ha (by omega)
  rw [b5] at hc
  exact hc
end
end Go.Proofs.Ytcgdlmlolmfinaa
