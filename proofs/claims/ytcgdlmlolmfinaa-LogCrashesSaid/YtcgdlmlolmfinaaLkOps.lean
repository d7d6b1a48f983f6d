/- The log's calls over a new disk, plainly. The log's calls on a disk without a fuse: contract and law in one. -/

import Derived.Test.YtcgdlmlolmfinaaLgL
import Derived.Test.YtcgdlmlolmfinaaLgRcd
import Derived.Test.YtcgdlmlolmfinaaLgRst
import Derived.Test.YtcgdlmlolmfinaaLgOpen
namespace Go.Proofs.Ytcgdlmlolmfinaa
section
def noughts : List UInt8 := List.replicate 262144 0
theorem noughts_len : noughts.length = 262144 := List.length_replicate
theorem secN_nought (m : Nat) (hm : m < 4096) : secN noughts m = zero64 := by
  unfold secN noughts zero64
  rw [List.drop_replicate, List.take_replicate]
  congr 1
  omega
theorem on_new {B : List UInt8} (h : B.length = 262144) : On (newS B) := ⟨rfl, rfl, h, fun p hp => by cases hp⟩
theorem view_new (B : List UInt8) (m : Nat) : (view (newS B)).1 m = secN B m ∧ (view (newS B)).2 m = secN B m := ⟨rfl, rfl⟩
theorem rec_zero (cb : List UInt8 → List UInt8) (E : Nat → List UInt8) (a : Nat) (h : E a = zero64) : recE cb E a = none := rec_none (by
  rw [h]; rfl)
theorem same_zero {C : Secs} (h : ∀ m, m < 4096 → C m = zero64) : Same cbL 0 0 [] C := by
  have g0 : genV zero64 = 0 := rfl
  have gk : genOk zero64 := ⟨rfl, by decide⟩
  refine ⟨⟨?_, ?_, trivial, rec_zero _ _ _ (h _ (by simp [endA])), (fun x hx => by cases hx), by simp [wtL]⟩, by rw [h 0 (by omega)]; exact gk, by rw [h 2048 (by omega)]; exact gk⟩
  · rw [h 0 (by omega), h 2048 (by omega), if_neg (by omega)]
  · rw [h _ (by omega), g0]
/-- A log that lives on a disk without a fuse. -/
structure LSafe (L : LS) (ls l : List (List UInt8)) (G N : Int) : Prop where
  ok : LOk cbL L ls l
  ar : L.d.armed = false
  g : 0 ≤ L.gen ∧ L.gen ≤ G
  n : 0 ≤ L.d.last ∧ L.d.last ≤ N
theorem live_gen {cb : List UInt8 → List UInt8} {v : Secs × Secs} {r : Nat} {g : Int} {ls l : List (List UInt8)} (h : Live cb v r g ls l) : 0 ≤ g := by
  have hr := h.opn.reg
  have hg := h.opn.hg
  have h0 := genV_nn h.g0
  have h1 := genV_nn h.g1
  have : r = 0 ∨ r = 1 := by omega
  rcases this with rfl | rfl
  · simp only [Nat.zero_mul] at hg; omega
  · simp only [Nat.one_mul] at hg; omega
theorem cbL4 : ∀ s, (cbL s).length = 4 := fun _ => rfl
/-- Opened where an opening finds l. -/
theorem open_safe {B : List UInt8} (hB : B.length = 262144) {r : Nat} {g : Int} {l : List (List UInt8)} (h : Same cbL r g l (fun m => secN B m)) :
    ∃ L, openS cbL (newS B) = (0, L) ∧ LSafe L l l g 5000000 ∧ L.gen = g := by
  have hs := open_out (cb := cbL) cbL4 (on_new hB) (r := r) (g := g) (l := l) (fun m hm => rfl) h
  rcases hs with ⟨s', e, hon, har, hla, hlv, hW⟩ | ⟨L, e, hf⟩
  · refine ⟨_, e, ⟨⟨rfl, rfl, rfl, rfl, hon, hlv⟩, har, ⟨live_gen hlv, Int.le_refl _⟩, ?_⟩, rfl⟩
    have : (newS B).last = 0 := rfl
    rw [this] at hla
    exact ⟨by show (0 : Int) ≤ s'.last; omega, by show s'.last ≤ 5000000; omega⟩
  · have := hf.armed
    cases this
theorem open_zero : ∃ L, openS cbL (newS noughts) = (0, L) ∧ LSafe L [] [] 0 5000000 := by
  obtain ⟨L, h1, h2, _⟩ := open_safe (B := noughts) noughts_len (same_zero (fun m hm => secN_nought m hm))
  exact ⟨L, h1, h2⟩
section
variable {L : LS} {ls l : List (List UInt8)} {x : List UInt8} {G N : Int}
theorem append_safe (h : LSafe L ls l G N) (x : List UInt8) (h1 : x.length ≤ 16384) (h2 : wtL l + x.length + 128 ≤ 65536) : ∃ L', appendS cbL L x = (0, L') ∧ LSafe L' ls (l ++ [x]) G (N + 1000) := by
  have hl := append_law cbL4 h.ok x
  rw [if_neg (by omega), if_neg (by omega)] at hl
  rcases hl with ⟨L', e, ok, g, ar, n1, n2⟩ | ⟨L', e, hd⟩
  · exact ⟨L', e, ok, by rw [ar]; exact h.ar, by rw [g]; exact h.g, by have := h.n; omega⟩
  · have := hd.fell.armed
    rw [h.ar] at this
    cases this
theorem append_form (h : LSafe L ls l G N) (x : List UInt8) (h1 : 16384 < x.length) : appendS cbL L x = (1, L) := by
  have hl := append_law cbL4 h.ok x
  rwa [if_pos h1] at hl
theorem append_full (h : LSafe L ls l G N) (x : List UInt8) (h1 : x.length ≤ 16384) (h2 : 65536 < x.length + 128 + wtL l) : appendS cbL L x = (5, L) := by
  have hl := append_law cbL4 h.ok x
  rwa [if_neg (by omega), if_pos h2] at hl
theorem sync_safe (h : LSafe L ls l G N) : ∃ L', syncS L = (0, L') ∧ LSafe L' l l G (N + 1) ∧ L'.d.W = [] := by
  rcases sync_law cbL4 h.ok with ⟨L', e, ok, g, ar, n1, n2, hW⟩ | ⟨L', e, hd⟩
  · exact ⟨L', e, ⟨ok, by rw [ar]; exact h.ar, by rw [g]; exact h.g, by have := h.n; omega⟩, hW⟩
  · have := hd.fell.armed
    rw [h.ar] at this
    cases this
theorem reset_safe (h : LSafe L ls l G N) (hG : G < 4611686018427387900) (l2 : List (List UInt8)) (h1 : ∀ x ∈ l2, x.length ≤ 16384) (h2 : wtL l2 ≤ 65536) : ∃ L', resetS cbL L l2 = (0, L') ∧ LSafe L' l2 l2 (G + 1) (N + 10000) := by
  have hl := reset_law cbL4 h.ok (by have := h.g; omega) l2
  rw [if_neg (fun ⟨x, hx, hb⟩ => by have := h1 x hx; omega), if_neg (by omega)] at hl
  rcases hl with ⟨L', e, ok, g, ar, n1, n2⟩ | ⟨L', e, hd⟩
  · exact ⟨L', e, ok, by rw [ar]; exact h.ar, by have := h.g; rw [g]; omega, by have := h.n; omega⟩
  · have := hd.fell.armed
    rw [h.ar] at this
    cases this
theorem reset_form (h : LSafe L ls l G N) (hG : G < 4611686018427387900) (l2 : List (List UInt8)) (h1 : ∃ x ∈ l2, 16384 < x.length) : resetS cbL L l2 = (1, L) := by
  have hl := reset_law cbL4 h.ok (by have := h.g; omega) l2
  rwa [if_pos h1] at hl
theorem reset_full (h : LSafe L ls l G N) (hG : G < 4611686018427387900) (l2 : List (List UInt8)) (h1 : ∀ x ∈ l2, x.length ≤ 16384) (h2 : 65536 < wtL l2) : resetS cbL L l2 = (5, L) := by
  have hl := reset_law cbL4 h.ok (by have := h.g; omega) l2
  rwa [if_neg (fun ⟨x, hx, hb⟩ => by have := h1 x hx; omega), if_pos h2] at hl
end
end
section
open Go.RowKit
def LgF (w : World) (base R RD : Nat) (X : List Nat) (L : LS) : Prop := ∃ F lv, LgAt w base R RD F lv L ∧ (∀ k, k = R ∨ lv.ownBlock = some k ∨ k ∈ F → k ∈ X) ∧ ∀ k ∈ X, base ≤ k ∧ k < w.heap.size
/-- A log on a disk without a fuse; sy: all that was written is kept. -/
def KG (w : World) (base R RD : Nat) (X : List Nat) (sy : Bool) (ls l : List (List UInt8)) (G N : Int) : Prop := ∃ L, LgF w base R RD X L ∧ LSafe L ls l G N ∧ (sy = true → L.d.W = [])
def KP (w : World) (base R RD : Nat) (X : List Nat) (sy : Bool) (ls l : List (List UInt8)) (G N : Int) (w' : World) : Prop := ∃ X', KG w' base R RD X' sy ls l G N ∧ Left X w w' ∧ ∀ k ∈ X', k ∈ X ∨ w.heap.size ≤ k
theorem wtL_len : ∀ l : List (List UInt8), 128 * l.length ≤ wtL l
  | [] => by simp [wtL]
  | x :: r => by have := wtL_len r; simp only [List.length_cons, wtL]; omega
section
variable {w w' w1 : World} {base R RD : Nat} {F F1 X S : List Nat} {lv : Value} {L L' : LS} {sy : Bool} {ls l ls' l' : List (List UInt8)} {G N G' N' : Int}
theorem LgAt.g (h : LgAt w base R RD F lv L) : LgF w base R RD (R :: (F ++ Value.ownL lv)) L := by
  refine ⟨F, lv, h, fun k hk => ?_, fun k hk => ?_⟩
  · rw [List.mem_cons, List.mem_append]
    rcases hk with h | h | h
    · exact .inl h
    · exact .inr (.inr (mem_ownL.2 h))
    · exact .inr (.inl h)
  · rw [List.mem_cons, List.mem_append] at hk
    rcases hk with rfl | hk | hk
    · exact ⟨h.lt, h.head.lt⟩
    · exact h.disk.lt k hk
    · exact h.list.lt k (mem_ownL.1 hk)
theorem LgF.sub (h : LgF w base R RD X L) : ∃ F lv, LgAt w base R RD F lv L ∧ ∀ k ∈ (R :: (F ++ Value.ownL lv)), k ∈ X := by
  obtain ⟨F, lv, h1, h2, _⟩ := h
  refine ⟨F, lv, h1, fun k hk => h2 k ?_⟩
  rw [List.mem_cons, List.mem_append] at hk
  rcases hk with h | h | h
  · exact .inl h
  · exact .inr (.inr h)
  · exact .inr (.inl (mem_ownL.1 h))
theorem LgF.left (h : LgF w base R RD X L) (hl : Left S w w') (hS : ∀ k ∈ S, k ∉ X) : LgF w' base R RD X L := by
  obtain ⟨F, lv, h1, h2, h3⟩ := h
  have hz := hl.size
  refine ⟨F, lv, ⟨h1.head.left hl (fun hm => hS R hm (h2 R (.inl rfl))), h1.disk.left hl (fun k hk hm => hS k hk (h2 k (.inr (.inr hm)))), own_leftB h1.list hl (fun k hk e => hS k hk (h2 k (.inr (.inl e)))), h1.sepR, h1.sepL, h1.lt⟩, h2, fun k hk => ⟨(h3 k hk).1, by have := (h3 k hk).2; omega⟩⟩
theorem KG.left (h : KG w base R RD X sy ls l G N) (hl : Left S w w') (hS : ∀ k ∈ S, k ∉ X) : KG w' base R RD X sy ls l G N := by
  obtain ⟨L, h1, h2⟩ := h
  exact ⟨L, h1.left hl hS, h2⟩
theorem KG.below (h : KG w base R RD X sy ls l G N) (hb : Below w.heap.size w w') : KG w' base R RD X sy ls l G N := h.left (Left.of_below hb []) (by simp)
theorem KG.lt (h : KG w base R RD X sy ls l G N) : ∀ k ∈ X, base ≤ k ∧ k < w.heap.size := by
  obtain ⟨L, ⟨_, _, _, _, h3⟩, _⟩ := h
  exact h3
theorem KP.of_w (h : LgF w base R RD X L) {lw : LS} (hs : LSafe lw ls l G N) (hy : sy = true → lw.d.W = []) {F : List Nat} {lv : Value} (hsub : ∀ k ∈ (R :: (F ++ Value.ownL lv)), k ∈ X) (hW : LgW w base R RD F lv lw w') : KP w base R RD X sy ls l G N w' := by
  obtain ⟨F', lv', h1, hl, hf, hv⟩ := hW
  refine ⟨_, ⟨lw, h1.g, hs, hy⟩, hl.mono hsub, fun k hk => ?_⟩
  rw [List.mem_cons, List.mem_append] at hk
  rcases hk with rfl | hk | hk
  · exact .inl (hsub _ (by simp))
  · rcases hf k hk with h | h
    · exact .inl (hsub _ (by rw [List.mem_cons, List.mem_append]; exact .inr (.inl h)))
    · exact .inr h
  · rcases hv k (mem_ownL.1 hk) with h | h
    · exact .inl (hsub _ (by rw [List.mem_cons, List.mem_append]; exact .inr (.inr (mem_ownL.2 h))))
    · exact .inr h
theorem LSafe.bounds (h : LSafe L ls l G N) : L.region ≤ 1 ∧ L.at_ ≤ 100000 ∧ L.size ≤ 65536 ∧ L.l.length ≤ 1000 ∧ L.l = l := by
  have hr := h.ok.live.opn.reg
  have he := h.ok.live.opn.end_
  have hw := h.ok.live.opn.wt
  have hn := wtL_len l
  refine ⟨hr, by rw [h.ok.ea]; omega, by rw [h.ok.es]; exact hw, by rw [h.ok.el]; omega, h.ok.el⟩
theorem kopen {B : List UInt8} (hB : B.length = 262144) (hd : DkG w base RD F (newS B)) (hz : base ≤ w.heap.size) {r : Nat} {g : Int} (hsm : Same cbL r g l (fun m => secN B m)) :
    Calls Try.prog 6 #[.pointer (some ⟨RD, 0, none⟩)] w fun e w' => e = .returned (.tuple #[.pointer (some ⟨w.heap.size, 0, none⟩), .int .i64 0]) ∧ ∃ X', KG w' base w.heap.size RD X' false l l g 5000000 ∧ Left F w w' ∧ ∀ k ∈ X', k ∈ F ∨ w.heap.size ≤ k := by
  obtain ⟨L, e, hs, _⟩ := open_safe hB hsm
  have hc := lopen hd hz (on_new hB) ⟨by show (0 : Int) ≤ 0; omega, by show (0 : Int) ≤ 800000000; omega⟩
  rw [e] at hc
  refine hc.mono ?_
  rintro e w' ⟨rfl, F', lv', h1, hl, hf, hv, hR⟩
  refine ⟨rfl, _, ⟨L, h1.g, hs, fun h => (by cases h)⟩, hl, fun k hk => ?_⟩
  rw [List.mem_cons, List.mem_append] at hk
  rcases hk with rfl | hk | hk
  · exact .inr (Nat.le_refl _)
  · exact hf k hk
  · exact .inr (hv k (mem_ownL.1 hk))
theorem kappend (h : KG w base R RD X sy ls l G N) (hz : base ≤ w.heap.size) (hN : N ≤ 900000000) (x : List UInt8) (h1 : x.length ≤ 16384) (h2 : wtL l + x.length + 128 ≤ 65536) :
    Calls Try.prog 9 #[.pointer (some ⟨R, 0, none⟩), .string ⟨x.toArray⟩] w fun e w' => e = .returned (.int .i64 0) ∧ KP w base R RD X false ls (l ++ [x]) G (N + 1000) w' := by
  obtain ⟨L, hg, hs, hy⟩ := h
  obtain ⟨F, lv, ha, hsub⟩ := hg.sub
  obtain ⟨b1, b2, b3, b4, _⟩ := hs.bounds
  obtain ⟨L', e, hs'⟩ := append_safe hs x h1 h2
  have hc := lappend ha hz b1 b2 (by omega) (by omega) (by have := hs.n; omega) x (by omega)
  rw [e] at hc
  refine hc.mono ?_
  rintro e w' ⟨rfl, hW⟩
  exact ⟨rfl, KP.of_w hg hs' (fun h => by cases h) hsub hW⟩
theorem kappend_no (h : KG w base R RD X sy ls l G N) (hz : base ≤ w.heap.size) (hN : N ≤ 900000000) (x : List UInt8) (h0 : x.length ≤ 1000000) (h1 : 16384 < x.length ∨ 65536 < x.length + 128 + wtL l) :
    Calls Try.prog 9 #[.pointer (some ⟨R, 0, none⟩), .string ⟨x.toArray⟩] w fun e w' => e = .returned (.int .i64 (if 16384 < x.length then 1 else 5)) ∧ KP w base R RD X sy ls l G N w' := by
  obtain ⟨L, hg, hs, hy⟩ := h
  obtain ⟨F, lv, ha, hsub⟩ := hg.sub
  obtain ⟨b1, b2, b3, b4, _⟩ := hs.bounds
  have hc := lappend ha hz b1 b2 (by omega) (by omega) (by have := hs.n; omega) x h0
  by_cases hb : 16384 < x.length
  · rw [append_form hs x hb] at hc
    refine hc.mono ?_
    rintro e w' ⟨rfl, hW⟩
    exact ⟨by rw [if_pos hb], KP.of_w hg hs hy hsub hW⟩
  · rw [append_full hs x (by omega) (by rcases h1 with h | h; exact absurd h hb; exact h)] at hc
    refine hc.mono ?_
    rintro e w' ⟨rfl, hW⟩
    exact ⟨by rw [if_neg hb], KP.of_w hg hs hy hsub hW⟩
theorem ksync (h : KG w base R RD X sy ls l G N) (hz : base ≤ w.heap.size) (hN : N ≤ 900000000) :
    Calls Try.prog 21 #[.pointer (some ⟨R, 0, none⟩)] w fun e w' => e = .returned (.int .i64 0) ∧ KP w base R RD X true l l G (N + 1) w' := by
  obtain ⟨L, hg, hs, hy⟩ := h
  obtain ⟨F, lv, ha, hsub⟩ := hg.sub
  obtain ⟨L', e, hs', hsW⟩ := sync_safe hs
  have hc := lsync ha hz (by have := hs.n; omega)
  rw [e] at hc
  refine hc.mono ?_
  rintro e w' ⟨rfl, F', h1, hl, hf⟩
  exact ⟨rfl, KP.of_w hg hs' (fun _ => hsW) hsub ⟨F', lv, h1, hl.mono (fun k hk => by
    rw [List.mem_cons] at hk
    rw [List.mem_cons, List.mem_append]
    exact hk.imp id .inl), hf, fun k hk => .inl hk⟩⟩
theorem kreset (h : KG w base R RD X sy ls l G N) (hz : base ≤ w.heap.size) (hG : G ≤ 1000000) (hN : N ≤ 800000000) (v : Value) (l2 : List (List UInt8)) (hv : ∀ w', Left X w w' → Rd w' w'.heap.size 1 v l2.length (l2.map strL)) (h1 : ∀ x ∈ l2, x.length ≤ 16384) (h2 : wtL l2 ≤ 65536) :
    Calls Try.prog 11 #[.pointer (some ⟨R, 0, none⟩), v] w fun e w' => e = .returned (.int .i64 0) ∧ KP w base R RD X false l2 l2 (G + 1) (N + 10000) w' := by
  obtain ⟨L, hg, hs, hy⟩ := h
  obtain ⟨F, lv, ha, hsub⟩ := hg.sub
  obtain ⟨b1, _⟩ := hs.bounds
  obtain ⟨L', e, hs'⟩ := reset_safe hs (by omega) l2 h1 h2
  have hgn : L.gen = (L.gen.toNat : Nat) := (Int.toNat_of_nonneg hs.g.1).symm
  have hc := lreset ha hz b1 L.gen.toNat hgn (by have := hs.g; omega) (by have := hs.n; omega) v l2 (fun x hx => by have := h1 x hx; omega) (fun w' hw => hv w' (hw.mono (fun k hk => hsub k (by
    rw [List.mem_cons] at hk
    rw [List.mem_cons, List.mem_append]
    exact hk.imp id .inl))))
  rw [e] at hc
  refine hc.mono ?_
  rintro e w' ⟨rfl, hW⟩
  exact ⟨rfl, KP.of_w hg hs' (fun h => by cases h) hsub hW⟩
theorem kreset_no (h : KG w base R RD X sy ls l G N) (hz : base ≤ w.heap.size) (hG : G ≤ 1000000) (hN : N ≤ 800000000) (v : Value) (l2 : List (List UInt8)) (hv : ∀ w', Left X w w' → Rd w' w'.heap.size 1 v l2.length (l2.map strL)) (h0 : ∀ x ∈ l2, x.length ≤ 1000000) (h1 : (∃ x ∈ l2, 16384 < x.length) ∨ 65536 < wtL l2) :
    Calls Try.prog 11 #[.pointer (some ⟨R, 0, none⟩), v] w fun e w' => e = .returned (.int .i64 (if ∃ x ∈ l2, 16384 < x.length then 1 else 5)) ∧ KP w base R RD X sy ls l G N w' := by
  obtain ⟨L, hg, hs, hy⟩ := h
  obtain ⟨F, lv, ha, hsub⟩ := hg.sub
  obtain ⟨b1, _⟩ := hs.bounds
  have hgn : L.gen = (L.gen.toNat : Nat) := (Int.toNat_of_nonneg hs.g.1).symm
  have hc := lreset ha hz b1 L.gen.toNat hgn (by have := hs.g; omega) (by have := hs.n; omega) v l2 (fun x hx => by have := h0 x hx; omega) (fun w' hw => hv w' (hw.mono (fun k hk => hsub k (by
    rw [List.mem_cons] at hk
    rw [List.mem_cons, List.mem_append]
    exact hk.imp id .inl))))
  by_cases hb : ∃ x ∈ l2, 16384 < x.length
  · rw [reset_form hs (by omega) l2 hb] at hc
    refine hc.mono ?_
    rintro e w' ⟨rfl, hW⟩
    exact ⟨by rw [if_pos hb], KP.of_w hg hs hy hsub hW⟩
  · rw [reset_full hs (by omega) l2 (fun x hx => by
      rcases Nat.lt_or_ge 16384 x.length with h | h
      · exact absurd ⟨x, hx, h⟩ hb
      · exact h) (by rcases h1 with h | h; exact absurd h hb; exact h)] at hc
    refine hc.mono ?_
    rintro e w' ⟨rfl, hW⟩
    exact ⟨by rw [if_neg hb], KP.of_w hg hs hy hsub hW⟩
theorem kall (h : KG w base R RD X sy ls l G N) :
    Calls Try.prog 10 #[.pointer (some ⟨R, 0, none⟩)] w fun e w' => ∃ v, e = .returned v ∧ w'.ownsRow w.heap.size 9 1 v l.length (l.map strL) ∧ Below w.heap.size w w' := by
  obtain ⟨L, hg, hs, hy⟩ := h
  obtain ⟨F, lv, ha, hsub⟩ := hg.sub
  obtain ⟨_, _, _, b4, b5⟩ := hs.bounds
  have hc := lall ha (by omega)
  rw [b5] at hc
  exact hc
end
end
end Go.Proofs.Ytcgdlmlolmfinaa
