/- Both disks hold the same: each act on both of them. -/

import Derived.Test.YtbhoiibcfibmhaaDlOps
import Derived.Test.YtbhoiibcfibmhaaDlArg
namespace Go.Proofs.Ytbhoiibcfibmhaa
open Go.RowKit Go.MapKept
theorem askS_facts (s : DS) (kind n : Int) (b : List UInt8) (good : Bool) : s.last ≤ (askS s kind n b good).2.2.last ∧ (askS s kind n b good).2.2.last ≤ s.last + 1 ∧ (askS s kind n b good).2.2.K = s.K := by
  obtain ⟨h1, h2, h3, h4, h5⟩ := callS_K (s := s)
  unfold askS
  simp only
  split
  · exact ⟨show s.last ≤ (callS s).last by omega, show (callS s).last ≤ s.last + 1 by omega, h1⟩
  · split
    · exact ⟨show s.last ≤ (callS s).last by omega, show (callS s).last ≤ s.last + 1 by omega, h1⟩
    · split
      · exact ⟨show s.last ≤ (callS s).last by omega, show (callS s).last ≤ s.last + 1 by omega, h1⟩
      · exact ⟨show s.last ≤ (callS s).last + 1 by omega, show (callS s).last + 1 ≤ s.last + 1 by omega, h1⟩
theorem compS_facts (s : DS) (k : Int) (h64 : s.K.length % 64 = 0) (hW : ∀ p ∈ s.W, p.2.length = 64) : (compS s k).2.2.2.last = s.last ∧ (compS s k).2.2.2.K.length = s.K.length ∧ (compS s k).2.1.length ≤ 64 := by
  obtain ⟨h1, h2, h3, h4, h5⟩ := callS_K (s := s)
  have hr : ∀ q : Rq, ((lookW (callS s).W q.n).getD (secN (callS s).K q.n.toNat)).length ≤ 64 := fun q => by
    rw [h2]
    cases hl : lookW s.W q.n with
    | none => simp only [Option.getD_none, secN, List.length_take]; omega
    | some b => simp only [Option.getD_some]; exact Nat.le_of_eq (hW _ (lookW_mem hl))
  have hf : (flushK (callS s).K (callS s).W).length = s.K.length := by rw [h1, h2]; exact flushK_length h64 hW
  unfold compS
  simp only
  split
  · exact ⟨h4, by rw [h1], by simp⟩
  · split
    · exact ⟨h4, by rw [h1], by simp⟩
    · split
      · exact ⟨h4, by rw [h1], by simp⟩
      · split
        · exact ⟨h4, by simp only [h1], by simp⟩
        · split
          · exact ⟨h4, hf, by simp⟩
          · exact ⟨h4, by simp only [h1], hr _⟩
theorem crashK_length {W : List (Int × List UInt8)} {picks : List Int} {K : List UInt8} (hW : ∀ p ∈ W, p.2.length = 64) : (crashK W picks K).length = K.length :=
  (crashGo_sec hW (List.range (K.length / 64)) 0 K List.nodup_range (fun n hn => by have := List.mem_range.1 hn; omega)).1
/-- The disks hold the same; X is the law's own. -/
def DJ (w0 w : World) (B D R : Nat) (s : DS) (n k : Nat) (X : List Nat) : Prop := DH w B D R s s X ∧ 0 ≤ s.last ∧ s.last ≤ k ∧ s.K.length = n ∧ Below B w0 w
/-- An act is done on both. -/
def JP (w0 w : World) (B D R n k : Nat) (X : List Nat) (w3 : World) : Prop := (∃ s', DJ w0 w3 B D R s' n (k + 1) X) ∧ Fr B X w w3
section
variable {w0 w w' w2 w3 : World} {B D R n k : Nat} {s s1 s2 : DS} {X Y : List Nat}
theorem DH.plain (h : DH w B D R s1 s2 X) : s1.K.length % 64 = 0 ∧ (∀ p ∈ s1.W, p.2.length = 64) ∧ mayD s1.K.length := by
  obtain ⟨b1, b2, F, G, ⟨M, kv, wv, Wv, Qv, h1⟩, _⟩ := h
  exact ⟨h1.size.2.1, h1.keys_small.2.2.2.1, h1.size.1, h1.size.2.2, h1.size.2.1⟩
theorem DJ.size (h : DJ w0 w B D R s n k X) : B ≤ w.heap.size := h.1.size
theorem Fr.cell (h : Fr B X w w') {p : Addr} {v : Value} (hp : p.block < B ∨ p.block ∈ X) (hc : w.cell? p = some v) : w'.cell? p = some v := by
  obtain ⟨S, h, hS⟩ := h
  refine cell_left' hc h (fun hm => ?_)
  obtain ⟨a, b⟩ := hS _ hm
  rcases hp with hp | hp
  · omega
  · exact b hp
theorem DJ.grow (h : DJ w0 w B D R s n k X) (hb : Below w.heap.size w w') (hY : ∀ k ∈ Y, w.heap.size ≤ k ∧ k < w'.heap.size) : DJ w0 w' B D R s n k (Y ++ X) :=
  ⟨h.1.grow hb hY, h.2.1, h.2.2.1, h.2.2.2.1, h.2.2.2.2.trans (hb.mono h.1.size)⟩
theorem DJ.left0 (h : DJ w0 w B D R s n k X) (hb : Below w.heap.size w w') : DJ w0 w' B D R s n k X := h.grow (Y := []) hb (by simp)
theorem DJ.own (h : DJ w0 w B D R s n k X) {S : List Nat} (hl : Left S w w') (hS : ∀ k ∈ S, k ∈ X) : DJ w0 w' B D R s n k X := by
  have hX : ∀ k ∈ X, B ≤ k := by obtain ⟨⟨b1, b2, F, G, _, _, _, _, _, _, _, h8⟩, _⟩ := h; exact fun k hk => (h8 k hk).2.2.1
  exact ⟨h.1.own hl hS, h.2.1, h.2.2.1, h.2.2.2.1, h.2.2.2.2.trans (hl.belowB h.1.size (fun k hk => hX k (hS k hk)))⟩
theorem DJ.fewer (h : DJ w0 w B D R s n k (Y ++ X)) : DJ w0 w B D R s n k X := ⟨h.1.fewer, h.2⟩
theorem DJ.start {b1 : Nat} {F G : List Nat} (h1 : DkG w b1 D F s) (hB : B ≤ b1) (hb : b1 ≤ w.heap.size) (h2 : PgG w' w.heap.size R G s) (hl : Left [] w w') (h0 : Below B w0 w) (hk : s.last = 0) : DJ w0 w' B D R s s.K.length 0 [] := by
  have hz := hl.size
  refine ⟨⟨b1, w.heap.size, F, G, h1.left0 hl, h2, fun k hk hm => ?_, hB, by omega, by omega, hz, by simp⟩, by omega, by omega, rfl, h0.trans (hl.belowB (by omega) (by simp))⟩
  have := (h1.lt k hk).2
  have := (h2.lt k hm).1
  omega
theorem DJ.ask (h : DJ w0 w B D R s n k X) {f g : Nat} {a1 a2 : Array Value} {A : Int × Int × DS} (hA : s.last ≤ A.2.2.last ∧ A.2.2.last ≤ s.last + 1 ∧ A.2.2.K = s.K)
    (h1 : Calls Try.prog f a1 w (PA w B D R s X A)) (h2 : ∀ w2, DH w2 B D R A.2.2 s X → Fr B X w w2 → Calls Try.prog g a2 w2 (QA w2 B D R A.2.2 X A)) :
    ∃ (id er : Int) (M : World → Prop), (Calls Try.prog f a1 w fun e w2 => e = .returned (.tuple #[.int .i64 id, .int .i64 er]) ∧ M w2 ∧ Fr B X w w2) ∧
      ∀ w2, M w2 → Calls Try.prog g a2 w2 fun e w3 => e = .returned (.tuple #[.int .i64 id, .int .i64 er]) ∧ JP w0 w B D R n k X w3 := by
  refine ⟨A.1, A.2.1, fun w2 => DH w2 B D R A.2.2 s X ∧ Fr B X w w2, h1.mono ?_, fun w2 hM => (h2 w2 hM.1 hM.2).mono ?_⟩
  · rintro e w2 ⟨he, hd, hf⟩
    exact ⟨he, ⟨hd, hf⟩, hf⟩
  · rintro e w3 ⟨he, hd, hf⟩
    obtain ⟨_, l0, l1, l2, hb⟩ := h
    exact ⟨he, ⟨A.2.2, hd, by omega, by omega, by rw [hA.2.2]; exact l2, hb.trans ((hM.2.trans hf).below (by have := ‹DH w B D R s s X›.size; exact this))⟩, hM.2.trans hf⟩
theorem DJ.read (h : DJ w0 w B D R s n k X) (hk : k ≤ 1000) (m : Int) :
    ∃ (id er : Int) (M : World → Prop), (Calls Try.prog 14 #[.pointer (some ⟨D, 0, none⟩), .int .i64 m] w fun e w2 => e = .returned (.tuple #[.int .i64 id, .int .i64 er]) ∧ M w2 ∧ Fr B X w w2) ∧
      ∀ w2, M w2 → Calls Try.prog 19 #[.pointer (some ⟨R, 0, none⟩), .int .i64 m] w2 fun e w3 => e = .returned (.tuple #[.int .i64 id, .int .i64 er]) ∧ JP w0 w B D R n k X w3 :=
  h.ask (askS_facts s 0 m [] (isS s.K m)) (dRead h.1 m ⟨h.2.1, by have := h.2.2.1; omega⟩) (fun w2 hd _ => qRead hd m ⟨h.2.1, by have := h.2.2.1; omega⟩)
theorem DJ.flush (h : DJ w0 w B D R s n k X) (hk : k ≤ 1000) :
    ∃ (id er : Int) (M : World → Prop), (Calls Try.prog 11 #[.pointer (some ⟨D, 0, none⟩)] w fun e w2 => e = .returned (.tuple #[.int .i64 id, .int .i64 er]) ∧ M w2 ∧ Fr B X w w2) ∧
      ∀ w2, M w2 → Calls Try.prog 20 #[.pointer (some ⟨R, 0, none⟩)] w2 fun e w3 => e = .returned (.tuple #[.int .i64 id, .int .i64 er]) ∧ JP w0 w B D R n k X w3 :=
  h.ask (askS_facts s 2 0 [] true) (dFlush h.1 ⟨h.2.1, by have := h.2.2.1; omega⟩) (fun w2 hd _ => qFlush hd ⟨h.2.1, by have := h.2.2.1; omega⟩)
/-- A write: the program's part, then (the law has spoilt what it gave) the page's. -/
theorem DJ.write (h : DJ w0 w B D R s n k X) (hk : k ≤ 1000) (m : Int) {b : List UInt8} {cv bv : Value} {base : Nat} (hc : w.ownsRow base 5 1 cv b.length (u8s b)) (hcX : ∀ j, cv.ownBlock = some j → j ∈ X) (hb : Rd w B 1 bv b.length (u8s b)) (hbl : b.length ≤ 1000000) :
    ∃ (id er : Int) (M : World → Prop), (Calls Try.prog 9 #[.pointer (some ⟨D, 0, none⟩), .int .i64 m, cv] w fun e w2 => e = .returned (.tuple #[.int .i64 id, .int .i64 er]) ∧ M w2 ∧ Fr B X w w2) ∧
      ∀ w2, M w2 → ∀ (w3 : World) (S : List Nat), Left S w2 w3 → (∀ j ∈ S, j ∈ X) → Calls Try.prog 27 #[.pointer (some ⟨R, 0, none⟩), .int .i64 m, bv] w3 fun e w4 => e = .returned (.tuple #[.int .i64 id, .int .i64 er]) ∧ (∃ s', DJ w0 w4 B D R s' n (k + 1) X) ∧ Fr B X w3 w4 := by
  obtain ⟨h0, l0, l1, l2, l3⟩ := h
  have hB := h0.size
  have hX : ∀ k ∈ X, B ≤ k := by obtain ⟨b1, b2, F, G, _, _, _, _, _, _, _, h8⟩ := h0; exact fun k hk => (h8 k hk).2.2.1
  obtain ⟨A, hAe⟩ : ∃ A, askS s 1 m b (isS s.K m && b.length == 64) = A := ⟨_, rfl⟩
  have hA := askS_facts s 1 m b (isS s.K m && b.length == 64)
  rw [hAe] at hA
  refine ⟨A.1, A.2.1, fun w2 => DH w2 B D R A.2.2 s X ∧ Fr B X w w2, (dWrite h0 m hc hcX hbl ⟨l0, by omega⟩).mono ?_, fun w2 hM w3 S hl hS => ?_⟩
  · rintro e w2 ⟨he, hd, hf⟩
    rw [hAe] at he hd
    exact ⟨he, ⟨hd, hf⟩, hf⟩
  · obtain ⟨hd2, hf2⟩ := hM
    have hd3 := hd2.own hl hS
    have hb3 : Below B w w3 := (hf2.below hB).trans (hl.belowB hd2.size (fun j hj => hX j (hS j hj)))
    refine (qWrite hd3 m (hb.below hb3) hbl ⟨l0, by omega⟩).mono ?_
    rintro e w4 ⟨he, hd, hf⟩
    rw [hAe] at he hd
    exact ⟨he, ⟨A.2.2, hd, by omega, by omega, by rw [hA.2.2]; exact l2, (l3.trans hb3).trans (hf.below hd3.size)⟩, hf⟩
theorem DJ.off (h : DJ w0 w B D R s n k X) (m : Int) (hm : m ≤ 9223372036854775807) :
    ∃ (M : World → Prop), (Calls Try.prog 23 #[.pointer (some ⟨D, 0, none⟩), .int .i64 m] w fun e w2 => e = .returned (.tuple #[]) ∧ M w2 ∧ Fr B X w w2) ∧
      ∀ w2, M w2 → Calls Try.prog 24 #[.pointer (some ⟨R, 0, none⟩), .int .i64 m] w2 fun e w3 => e = .returned (.tuple #[]) ∧ JP w0 w B D R n k X w3 := by
  obtain ⟨h0, l0, l1, l2, l3⟩ := h
  refine ⟨fun w2 => DH w2 B D R (offS s m) s X ∧ Fr B X w w2, (dOff h0 m hm).mono ?_, fun w2 hM => (qOff hM.1 m hm).mono ?_⟩
  · rintro e w2 ⟨he, hd, hf⟩
    exact ⟨he, ⟨hd, hf⟩, hf⟩
  · rintro e w3 ⟨he, hd, hf⟩
    exact ⟨he, ⟨offS s m, hd, l0, by show s.last ≤ _; omega, l2, l3.trans ((hM.2.trans hf).below h0.size)⟩, hM.2.trans hf⟩
theorem DJ.complete (h : DJ w0 w B D R s n k X) (m : Int) :
    ∃ (id er : Int) (L : List UInt8) (M : Value → World → Prop), L.length ≤ 1000000 ∧ (Calls Try.prog 10 #[.pointer (some ⟨D, 0, none⟩), .int .i64 m] w fun e w2 => ∃ v, e = .returned (.tuple #[.int .i64 id, v, .int .i64 er]) ∧ M v w2 ∧ Fr B X w w2 ∧ ∃ ao cap, v = .slice ao L.length cap) ∧
      ∀ v w2, M v w2 → Calls Try.prog 21 #[.pointer (some ⟨R, 0, none⟩), .int .i64 m] w2 fun e w3 => ∃ y, e = .returned (.tuple #[.int .i64 id, y, .int .i64 er]) ∧ (∃ ao cap, y = .slice ao L.length cap) ∧ Fr B X w w3 ∧
        ∃ s' r, DJ w0 w3 B D R s' n (k + 1) (Value.ownL v ++ X) ∧ w3.ownsRow r 5 1 v L.length (u8s L) ∧ r ≤ w3.heap.size ∧ Rd w3 w3.heap.size 1 y L.length (u8s L) := by
  obtain ⟨h0, l0, l1, l2, l3⟩ := h
  obtain ⟨p1, p2, p3⟩ := h0.plain
  obtain ⟨A, hAe⟩ : ∃ A, compS s m = A := ⟨_, rfl⟩
  have hA := compS_facts s m p1 p2
  have hd1 := dComplete h0 m
  rw [hAe] at hA hd1
  have hL : A.2.1.length ≤ 1000000 := by omega
  refine ⟨A.1, A.2.2.1, A.2.1, fun v w2 => w2.ownsRow w.heap.size 5 1 v A.2.1.length (u8s A.2.1) ∧ DH w2 B D R A.2.2.2 s (Value.ownL v ++ X) ∧ Fr B X w w2, hL, hd1.mono ?_, fun v w2 hM => ?_⟩
  · rintro e w2 ⟨v, he, ho, hd, hf⟩
    obtain ⟨ao, cap, hv, _⟩ := (Rd.of_own ho).form
    exact ⟨v, he, ⟨ho, hd, hf⟩, hf, ao, cap, hv⟩
  · obtain ⟨ho, hd, hf⟩ := hM
    have hq := qComplete hd m
    rw [hAe] at hq
    refine hq.mono ?_
    rintro e w3 ⟨y, he, ho3, hd3, hf3⟩
    obtain ⟨ao, cap, hy, _⟩ := (Rd.of_own ho3).form
    have hz := hf.size
    have hz3 := hf3.size
    exact ⟨y, he, ⟨ao, cap, hy⟩, hf.trans hf3.fewer, A.2.2.2, w.heap.size, ⟨hd3, by omega, by omega, by omega, l3.trans ((hf.trans hf3.fewer).below h0.size)⟩, hf3.own ho (fun j hj => by simp [mem_ownL, hj]), by omega, Rd.of_own ho3⟩
/-- The power goes on both. -/
theorem DJ.crash (h : DJ w0 w B D R s n k X) {pv pv2 : Value} {picks : List Int} {B0 : Nat} (hp : Rd w B0 1 pv picks.length (i64s picks)) (hB0 : B0 ≤ w.heap.size) (hp2 : Rd w B 1 pv2 picks.length (i64s picks)) (hpl : picks.length ≤ 1000000) (hpr : ∀ p ∈ picks, InR p) :
    ∃ (L : List UInt8) (M : Value → World → Prop), L.length = n ∧ mayD n ∧ (Calls Try.prog 13 #[.pointer (some ⟨D, 0, none⟩), pv] w fun e w2 => ∃ v, e = .returned v ∧ M v w2 ∧ Fr B X w w2 ∧ ∃ ao cap, v = .slice ao L.length cap) ∧
      ∀ v w2, M v w2 → Calls Try.prog 26 #[.pointer (some ⟨R, 0, none⟩), pv2] w2 fun e w3 => ∃ y, e = .returned y ∧ (∃ ao cap, y = .slice ao L.length cap) ∧
        ∃ s' r r2, DJ w0 w3 B D R s' n k (Value.ownL y ++ (Value.ownL v ++ X)) ∧ w3.ownsRow r 5 1 v L.length (u8s L) ∧ w3.ownsRow r2 5 1 y L.length (u8s L) ∧ r ≤ w3.heap.size ∧ r2 ≤ w3.heap.size ∧ (∀ j ∈ Value.ownL v, j < r2) := by
  obtain ⟨h0, l0, l1, l2, l3⟩ := h
  obtain ⟨p1, p2, p3⟩ := h0.plain
  have hd1 := dCrash h0 hp hB0 hpl hpr
  obtain ⟨L, hLe⟩ : ∃ L, crashK s.W picks s.K = L := ⟨_, rfl⟩
  rw [hLe] at hd1
  by_cases hL : L.length = s.K.length
  · rw [← hL] at hd1
    refine ⟨L, fun v w2 => w2.ownsRow w.heap.size 5 1 v L.length (u8s L) ∧ DH w2 B D R { s with off := true } s (Value.ownL v ++ X) ∧ Fr B X w w2, by omega, l2 ▸ p3, hd1.mono ?_, fun v w2 hM => ?_⟩
    · rintro e w2 ⟨v, he, ho, hd, hf⟩
      obtain ⟨ao, cap, hv, _⟩ := (Rd.of_own ho).form
      exact ⟨v, he, ⟨ho, hd, hf⟩, hf, ao, cap, hv⟩
    · obtain ⟨ho, hd, hf⟩ := hM
      have hq := qCrash hd (hp2.below (hf.below h0.size)) hpl hpr
      rw [hLe, ← hL] at hq
      refine hq.mono ?_
      rintro e w3 ⟨y, he, ho3, hd3, hf3⟩
      obtain ⟨ao, cap, hy, _⟩ := (Rd.of_own ho3).form
      have hz := hf.size
      have hz3 := hf3.size
      exact ⟨y, he, ⟨ao, cap, hy⟩, { s with off := true }, w.heap.size, w2.heap.size, ⟨hd3, l0, l1, l2, l3.trans ((hf.trans hf3.fewer).below h0.size)⟩, hf3.own ho (fun j hj => by simp [mem_ownL, hj]), ho3, by omega, by omega, fun j hj => (ho.lt j (mem_ownL.1 hj)).2⟩
  · exfalso
    apply hL
    rw [← hLe]
    exact crashK_length p2
/-- Both disks anew over what was kept. -/
theorem DJ.anew (h : DJ w0 w B D R s n k X) {v y : Value} {L : List UInt8} {r r2 : Nat} (hv : w.ownsRow r 5 1 v L.length (u8s L)) (hy : w.ownsRow r2 5 1 y L.length (u8s L)) (hr2 : r2 ≤ w.heap.size) (hr : r ≤ w.heap.size) (hvX : ∀ j ∈ Value.ownL v, j ∈ X ∧ j < r2) (hyX : ∀ j ∈ Value.ownL y, j ∈ X) (hL : L.length = n) (hm : mayD n) :
    ∃ (M : Nat → World → Prop), (Calls Try.prog 6 #[v] w fun e w2 => ∃ D', e = .returned (.tuple #[.pointer (some ⟨D', 0, none⟩), .int .i64 0]) ∧ M D' w2 ∧ r ≤ w2.heap.size ∧ w2.ownsRow r 5 1 v L.length (u8s L)) ∧
      ∀ D' w2, M D' w2 → ∀ w3, Left (Value.ownL v) w2 w3 → Calls Try.prog 18 #[y] w3 fun e w4 => ∃ R', e = .returned (.pointer (some ⟨R', 0, none⟩)) ∧ ∃ s', DJ w0 w4 B D' R' s' n k X := by
  obtain ⟨h0, l0, l1, l2, l3⟩ := h
  subst hL
  have hB := h0.size
  have hX : ∀ k ∈ X, B ≤ k := by obtain ⟨b1, b2, F, G, _, _, _, _, _, _, _, h8⟩ := h0; exact fun k hk => (h8 k hk).2.2.1
  refine ⟨fun D' w2 => DH w2 B D' R (newS L) s X ∧ Fr B X w w2, (dNew h0 hv hm).mono ?_, fun D' w2 hM w3 hl => ?_⟩
  · rintro e w2 ⟨D', he, hd, hf⟩
    have hz := hf.size
    exact ⟨D', he, ⟨hd, hf⟩, by omega, hf.own hv (fun j hj => (hvX j (mem_ownL.2 hj)).1)⟩
  · obtain ⟨hd, hf⟩ := hM
    have hd3 := hd.own hl (fun j hj => (hvX j hj).1)
    have hy2 := hf.own hy (fun j hj => hyX j (mem_ownL.2 hj))
    have hy3 := own_leftB hy2 hl (fun j hj e => by have := (hvX j hj).2; have := (hy2.lt j e).1; omega)
    have hb3 : Below B w w3 := (hf.below hB).trans (hl.belowB hd.size (fun j hj => hX j (hvX j hj).1))
    refine (qNew hd3 (Rd.of_own hy3) (Nat.le_refl _) hm).mono ?_
    rintro e w4 ⟨R', he, hd4, hf4⟩
    exact ⟨R', he, newS L, hd4, by show (0 : Int) ≤ 0; omega, by show (0 : Int) ≤ _; omega, rfl, (l3.trans hb3).trans (hf4.below hd3.size)⟩
end
end Go.Proofs.Ytbhoiibcfibmhaa
