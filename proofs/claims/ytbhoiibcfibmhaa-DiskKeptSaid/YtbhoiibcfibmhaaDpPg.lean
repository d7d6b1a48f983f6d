/- The page's disk: what changes it. -/

import Derived.Test.YtbhoiibcfibmhaaDpOps
namespace Go.Proofs.Ytbhoiibcfibmhaa
open Go.RowKit Go.MapKept
theorem map_eraseIdx' {α β : Type} {f : α → β} : ∀ (l : List α) (k : Nat), (l.eraseIdx k).map f = (l.map f).eraseIdx k
  | [], _ => rfl
  | _ :: _, 0 => rfl
  | a :: l, k + 1 => by
    show f a :: (l.eraseIdx k).map f = f a :: (l.map f).eraseIdx k
    rw [map_eraseIdx' l k]
theorem rqOk_len {K K' : List UInt8} (h : K'.length = K.length) {q : Rq} (hq : rqOk K q) : rqOk K' q := by
  unfold rqOk secIn at *
  rw [h]
  exact hq
theorem wOk_of {K : List UInt8} {W : List (Int × List UInt8)} (h : ∀ p ∈ W, p.2.length = 64 ∧ secIn K p.1) : ∀ p ∈ W, p.2.length = 64 := fun p hp => (h p hp).1
section
variable {w w' : World} {base P : Nat} {F S : List Nat} {kv nv fv wv : Value} {Qv : List RV} {s s' : DS}
theorem PgAt.nowForm (h : PgAt w base P F kv nv fv wv Qv s) : ∃ g cap, nv = .slice (some ⟨g, 0, none⟩) s.K.length cap ∧ base ≤ g ∧ g < w.heap.size ∧ s.K.length ≤ cap ∧ cap ≤ maxLen := own_form h.now (by have := h.size.1; omega)
theorem PgAt.freshForm (h : PgAt w base P F kv nv fv wv Qv s) : ∃ g cap, fv = .slice (some ⟨g, 0, none⟩) (s.K.length / 64) cap ∧ base ≤ g ∧ g < w.heap.size ∧ s.K.length / 64 ≤ cap ∧ cap ≤ maxLen := own_form h.fresh (by have := h.size; omega)
theorem PgAt.keptForm (h : PgAt w base P F kv nv fv wv Qv s) : ∃ g cap, kv = .slice (some ⟨g, 0, none⟩) s.K.length cap ∧ base ≤ g ∧ g < w.heap.size ∧ s.K.length ≤ cap ∧ cap ≤ maxLen := own_form h.kept (by have := h.size.1; omega)
/-- A request less. -/
theorem PgAt.cut (h : PgAt w base P F kv nv fv wv Qv s) {w1 : World} {v' : Value} {k : Nat} (hl : Left [] w w1) (hz : base ≤ w.heap.size) (hr : w1.ownsRow w.heap.size 84 4 v' (Qv.eraseIdx k).length (wCells (Qv.eraseIdx k))) :
    PgAt (w1.setCell ⟨P, 3, none⟩ v') base P (Value.ownL v' ++ F) kv nv fv v' (Qv.eraseIdx k) { s with Q := s.Q.eraseIdx k } ∧ Left F w (w1.setCell ⟨P, 3, none⟩ v') ∧ ∀ j ∈ Value.ownL v' ++ F, j ∈ F ∨ w.heap.size ≤ j := by
  obtain ⟨b1, b2, b3, b4, b5⟩ := h.blk
  have hz1 := hl.size
  have hl4 : Left [P] w1 (w1.setCell ⟨P, 3, none⟩ v') := (Left.refl _ _).setCell (Or.inl (by simp)) _
  have hz4 := hl4.size
  have h2 := h.left hl (by simp)
  have hux : ∀ {v : Value} {n sz : Nat} {xs : List Value} {B : Nat} {t : TypeId}, w1.ownsRow B t sz v n xs → 81 ≠ t → (w1.setCell ⟨P, 3, none⟩ v').ownsRow B t sz v n xs := fun ho ht => own_leftB ho hl4 (fun k hk e => by
    simp only [List.mem_singleton] at hk
    subst hk
    exact (h2.head.ty.ne (own_ty ho e) ht) rfl)
  refine ⟨⟨h2.head.put 3 v', hux h2.kept (by decide), hux h2.now (by decide), hux h2.fresh (by decide), hux (own_base hr hz) (by decide), fun q hq => ?_, ?_, ?_, h.ne, ⟨by simp [b1], fun k hk => by simp [b2 k hk], fun k hk => by simp [b3 k hk], fun k hk => by simp [b4 k hk], fun k hk => by simp [mem_ownL.2 hk]⟩, fun k hk => ?_, h.size, h.wok, h.fuse⟩, ?_, fun j hj => ?_⟩
  · obtain ⟨a, b, d⟩ := h2.reqs q ((List.eraseIdx_sublist Qv k).subset hq)
    exact ⟨hux a (by decide), b, fun k hk => ⟨by simp [(d k hk).1], (d k hk).2⟩⟩
  · dsimp only
    rw [← h.qval, map_eraseIdx']
  · have := List.length_eraseIdx_le Qv k
    have := h.room
    omega
  · rcases List.mem_append.1 hk with hk | hk
    · have := hr.lt k (mem_ownL.1 hk)
      omega
    · have := h.lt k hk
      omega
  · exact (hl.mono (T := F) (by simp)).trans (hl4.mono (T := F) (by simpa using b1)) (fun k hk => .inl hk)
  · rcases List.mem_append.1 hj with hj | hj
    · exact .inr (hr.lt j (mem_ownL.1 hj)).1
    · exact .inl hj
/-- A sector more was written. -/
theorem PgAt.wr (h : PgAt w base P F kv nv fv wv Qv s) {w1 : World} {ng fg fc n : Nat} {b : List UInt8} (hnv : nv.ownBlock = some ng) (hfv : fv = .slice (some ⟨fg, 0, none⟩) (s.K.length / 64) fc) (hn : 64 * n + 64 ≤ s.K.length) (hb : b.length = 64) (hl : Left [ng] w w1)
    (hr : w1.ownsRow base 5 1 nv s.K.length (u8s (setSec (flushK s.K s.W) n b))) :
    PgAt (w1.setCell ⟨fg, n, none⟩ (.bool true)) base P F kv nv fv wv Qv { s with W := updW s.W (n : Nat) b } ∧ Left F w (w1.setCell ⟨fg, n, none⟩ (.bool true)) := by
  obtain ⟨b1, b2, b3, b4, b5⟩ := h.blk
  have hz := h.size
  have hz1 := hl.size
  have hl4 : Left [fg] w1 (w1.setCell ⟨fg, n, none⟩ (.bool true)) := (Left.refl _ _).setCell (Or.inl (by simp)) _
  have hz4 := hl4.size
  have hnt : Ty w ng 5 := own_ty h.now hnv
  have hft : Ty w fg 4 := own_ty h.fresh (by rw [hfv]; rfl)
  have hux : ∀ {v : Value} {m sz : Nat} {xs : List Value} {B : Nat} {t : TypeId}, w.ownsRow B t sz v m xs → (∀ k, v.ownBlock = some k → k ≠ ng) → t ≠ 4 → (w1.setCell ⟨fg, n, none⟩ (.bool true)).ownsRow B t sz v m xs := fun ho hne ht => by
    refine own_leftB (own_leftB ho hl (fun k hk e => ?_)) hl4 (fun k hk e => ?_)
    · simp only [List.mem_singleton] at hk
      exact hne k e hk
    · simp only [List.mem_singleton] at hk
      subst hk
      exact ((own_ty ho e).ne hft ht) rfl
  have hfr1 : w1.ownsRow base 4 1 fv (s.K.length / 64) (bools (frL s.K s.W)) := own_leftB h.fresh hl (fun k hk e => by
    simp only [List.mem_singleton] at hk
    subst hk
    exact ((own_ty h.fresh e).ne hnt (by decide)) rfl)
  have hfr2 : (w1.setCell ⟨fg, n, none⟩ (.bool true)).ownsRow base 4 1 fv (s.K.length / 64) (bools (frL s.K (updW s.W (n : Nat) b))) := by
    have e := (hfv ▸ hfr1 : w1.ownsRow base 4 1 (.slice (some ⟨fg, 0, none⟩) (s.K.length / 64) fc) _ _).stored n (.bool true)
    rw [hfv, frL_upd]
    have e2 : bools ((frL s.K s.W).set n true) = (bools (frL s.K s.W)).set n (.bool true) := by unfold bools; rw [List.map_set]
    rw [e2]
    exact e.1
  have hnow2 : (w1.setCell ⟨fg, n, none⟩ (.bool true)).ownsRow base 5 1 nv s.K.length (u8s (flushK s.K (updW s.W (n : Nat) b))) := by
    rw [← flushK_upd hz.2.1 (wOk_of h.wok) hn hb]
    exact own_leftB hr hl4 (fun k hk e => by
      simp only [List.mem_singleton] at hk
      subst hk
      have ht1 : Ty w1 k 4 := own_ty hfr1 (by rw [hfv]; rfl)
      exact ((own_ty hr e).ne ht1 (by decide)) rfl)
  have hhd : Whole (w1.setCell ⟨fg, n, none⟩ (.bool true)) P 81 [kv, nv, fv, wv, .int .i64 s.last, .bool s.off, .int .i64 s.lft, .bool s.armed] := by
    refine (h.head.left hl (fun hm => ?_)).left hl4 (fun hm => ?_)
    · simp only [List.mem_singleton] at hm
      exact (h.head.ty.ne hnt (by decide)) hm
    · simp only [List.mem_singleton] at hm
      exact (h.head.ty.ne hft (by decide)) hm
  refine ⟨⟨hhd, hux h.kept (fun k hk e => h.ne k hk (e ▸ hnv)) (by decide), hnow2, hfr2, hux h.waits (fun k hk e => (own_ty h.waits hk).ne hnt (by decide) e) (by decide), fun q hq => ?_, h.qval, h.room, h.ne, h.blk, fun k hk => by have := h.lt k hk; omega, h.size, ?_, h.fuse⟩, ?_⟩
  · obtain ⟨a, c, d⟩ := h.reqs q hq
    exact ⟨hux a (fun k hk e => (d k hk).2 (e ▸ hnv)) (by decide), c, d⟩
  · exact updW_ok h.wok ⟨hb, by constructor <;> dsimp only <;> omega⟩
  · exact (hl.mono (T := F) (by simpa using b3 ng hnv)).trans (hl4.mono (T := F) (by simpa using b4 fg (by rw [hfv]; rfl))) (fun k hk => .inl hk)
/-- All that was written is kept. -/
theorem PgAt.fl (h : PgAt w base P F kv nv fv wv Qv s) {w1 : World} {v : Value} {N : Nat} (hN : s.K.length / 64 = N) (hz : base ≤ w.heap.size) (hv : w1.ownsRow w.heap.size 5 1 v s.K.length (u8s (flushK s.K s.W))) (hb : Below w.heap.size w w1) :
    PgAt (((w1.setCell ⟨P, 0, none⟩ v).alloc (.cells (madeCells #[.bool false] N) 4)).setCell ⟨P, 2, none⟩ (.slice (some ⟨(w1.setCell ⟨P, 0, none⟩ v).heap.size, 0, none⟩) N N)) base P (Value.ownL v ++ (w1.setCell ⟨P, 0, none⟩ v).heap.size :: F) v nv (.slice (some ⟨(w1.setCell ⟨P, 0, none⟩ v).heap.size, 0, none⟩) N N) wv Qv { s with K := flushK s.K s.W, W := [] } ∧
    Left F w (((w1.setCell ⟨P, 0, none⟩ v).alloc (.cells (madeCells #[.bool false] N) 4)).setCell ⟨P, 2, none⟩ (.slice (some ⟨(w1.setCell ⟨P, 0, none⟩ v).heap.size, 0, none⟩) N N)) ∧ ∀ j ∈ Value.ownL v ++ (w1.setCell ⟨P, 0, none⟩ v).heap.size :: F, j ∈ F ∨ w.heap.size ≤ j := by
  obtain ⟨b1, b2, b3, b4, b5⟩ := h.blk
  have hsz := h.size
  have hfl := flushK_length hsz.2.1 (wOk_of h.wok)
  have hl1 := Left.of_below hb []
  have hz1 := hl1.size
  have h1 := h.left hl1 (by simp)
  have hlA : Left [P] w1 (w1.setCell ⟨P, 0, none⟩ v) := (Left.refl _ _).setCell (Or.inl (by simp)) _
  have hzA := hlA.size
  obtain ⟨w2, hw2⟩ : ∃ w2, w2 = w1.setCell ⟨P, 0, none⟩ v := ⟨_, rfl⟩
  have hW2 : Whole w2 P 81 [v, nv, fv, wv, .int .i64 s.last, .bool s.off, .int .i64 s.lft, .bool s.armed] := hw2 ▸ h1.head.put 0 v
  rw [← hw2] at hlA hzA ⊢
  have hPlt := hW2.lt
  have hlB : Left [] w2 (w2.alloc (.cells (madeCells #[.bool false] N) 4)) := (Left.refl [] w2).alloc _
  have hWf : Whole (w2.alloc (.cells (madeCells #[.bool false] N) 4)) w2.heap.size 4 (List.replicate N (.bool false)) := by
    have := Whole.new w2 4 (List.replicate N (.bool false))
    rw [show (madeCells #[Value.bool false] N) = (List.replicate N (Value.bool false)).toArray from Array.ext' (by rw [toList_madeCells_one])]
    exact this
  obtain ⟨w3, hw3⟩ : ∃ w3, w3 = w2.alloc (.cells (madeCells #[.bool false] N) 4) := ⟨_, rfl⟩
  rw [← hw3] at hlB hWf ⊢
  have hzB : w2.heap.size + 1 = w3.heap.size := by rw [hw3]; simp
  have hlC : Left [P] w3 (w3.setCell ⟨P, 2, none⟩ (.slice (some ⟨w2.heap.size, 0, none⟩) N N)) := (Left.refl _ _).setCell (Or.inl (by simp)) _
  have hzC := hlC.size
  have hux : ∀ {v : Value} {n sz : Nat} {xs : List Value} {B : Nat} {t : TypeId}, w1.ownsRow B t sz v n xs → 81 ≠ t → (w3.setCell ⟨P, 2, none⟩ (.slice (some ⟨w2.heap.size, 0, none⟩) N N)).ownsRow B t sz v n xs := fun {v _ _ _ _ _} ho ht => by
    have hne : ∀ k ∈ [P], v.ownBlock ≠ some k := fun k hk e => by
      simp only [List.mem_singleton] at hk
      subst hk
      exact (h1.head.ty.ne (own_ty ho e) ht) rfl
    exact own_leftB (own_leftB (own_leftB ho hlA hne) hlB (by simp)) hlC hne
  have hW3 := (hW2.left hlB (by simp)).put 2 (.slice (some ⟨w2.heap.size, 0, none⟩) N N)
  have hfC := hWf.left hlC (by simp only [List.mem_singleton]; omega)
  have hvb : ∀ k, v.ownBlock = some k → w.heap.size ≤ k ∧ k < w1.heap.size := fun k hk => hv.lt k hk
  refine ⟨⟨hW3, ?_, ?_, ?_, hux h1.waits (by decide), fun q hq => ?_, h.qval, h.room, fun k hk e => ?_, ⟨by simp [b1], fun k hk => (by simp [mem_ownL.2 hk]), fun k hk => (by simp [b3 k hk]), fun k hk => (by have hk' : (w2.heap.size : Nat) = k := Option.some.inj hk; rw [← hk']; simp), fun k hk => (by simp [b5 k hk])⟩, fun k hk => ?_, by rw [hfl]; exact hsz, fun p hp => (by cases hp), h.fuse⟩, ?_, fun j hj => ?_⟩
  · dsimp only
    rw [hfl]
    exact hux (own_base hv hz) (by decide)
  · dsimp only
    rw [flushK_nil (by rw [hfl]; exact hsz.2.1), hfl]
    exact hux h1.now (by decide)
  · dsimp only
    rw [hfl, hN, frL_nil, hfl, hN]
    have e : bools (List.replicate N false) = List.replicate N (.bool false) := by simp [bools]
    rw [e]
    refine ⟨by simp, .inr ⟨w2.heap.size, N, (List.replicate N (Value.bool false)).toArray, rfl, by omega, hfC, Nat.le_refl _, by unfold maxLen; omega, by simp, ?_⟩⟩
    show (List.replicate N (Value.bool false)).take (N * 1) = _
    rw [Nat.mul_one, List.take_of_length_le (by rw [List.length_replicate]; exact Nat.le_refl _)]
  · obtain ⟨a, c, d⟩ := h1.reqs q hq
    exact ⟨hux a (by decide), rqOk_len hfl c, fun k hk => ⟨by simp [(d k hk).1], (d k hk).2⟩⟩
  · have := (h.lt k (b3 k e)).2
    have := (hvb k hk).1
    omega
  · rcases List.mem_append.1 hk with hk | hk
    · have := hvb k (mem_ownL.1 hk)
      omega
    · rcases List.mem_cons.1 hk with rfl | hk
      · omega
      · have := h.lt k hk
        omega
  · exact (((hl1.mono (T := F) (by simp)).trans (hlA.mono (T := F) (by simpa using b1)) (fun k hk => .inl hk)).trans (hlB.mono (T := F) (by simp)) (fun k hk => .inl hk)).trans (hlC.mono (T := F) (by simpa using b1)) (fun k hk => .inl hk)
  · rcases List.mem_append.1 hj with hj | hj
    · exact .inr (hvb j (mem_ownL.1 hj)).1
    · rcases List.mem_cons.1 hj with rfl | hj
      · exact .inr (by omega)
      · exact .inl hj
end
end Go.Proofs.Ytbhoiibcfibmhaa
