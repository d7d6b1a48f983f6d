/- The log: how it lies; did, Sync, All. -/

import Derived.Test.YtcgdlmlolmfinaaLgW1
import Derived.Test.YtcgdlmlolmfinaaTy
namespace Go.Proofs.Ytcgdlmlolmfinaa
open Go.RowKit
def strL (x : List UInt8) : Value := .string ⟨x.toArray⟩
def lgHead (RD : Nat) (lv : Value) (L : LS) : List Value := [.pointer (some ⟨RD, 0, none⟩), lv, .int .i64 L.size, .int .i64 L.region, .int .i64 L.gen, .int .i64 L.at_, .bool L.dead]
structure LgAt (w : World) (base R RD : Nat) (F : List Nat) (lv : Value) (L : LS) : Prop where
  head : Whole w R 54 (lgHead RD lv L)
  disk : DkG w base RD F L.d
  list : w.ownsRow base 9 1 lv L.l.length (L.l.map strL)
  sepR : R ∉ F
  sepL : ∀ k, lv.ownBlock = some k → k ∉ F ∧ k ≠ R
  lt : base ≤ R
/-- A log, and whatever it lies in. -/
def LgG (w : World) (base R : Nat) (X : List Nat) (L : LS) : Prop := ∃ RD F lv, LgAt w base R RD F lv L ∧ (∀ k, k = R ∨ lv.ownBlock = some k ∨ k ∈ F → k ∈ X) ∧ ∀ k ∈ X, base ≤ k ∧ k < w.heap.size
def LgP (w : World) (base R : Nat) (X : List Nat) (L' : LS) (w' : World) : Prop := ∃ X', LgG w' base R X' L' ∧ Left X w w' ∧ ∀ k ∈ X', k ∈ X ∨ w.heap.size ≤ k
section
variable {w w' w1 : World} {base R RD : Nat} {F F1 X S : List Nat} {lv : Value} {L L' : LS} {s s1 s' : DS}
theorem DkG.lt (h : DkG w base R F s) : ∀ k ∈ F, base ≤ k ∧ k < w.heap.size := by
  obtain ⟨_, _, _, _, _, h⟩ := h
  exact h.lt
/-- The disk went on. -/
theorem LgAt.disk_ (h : LgAt w base R RD F lv L) (hz : base ≤ w.heap.size) (hP : DkP w base RD F s' w') : ∃ F', LgAt w' base R RD F' lv { L with d := s' } ∧ Left F w w' ∧ ∀ k ∈ F', k ∈ F ∨ w.heap.size ≤ k := by
  obtain ⟨F', hd, hl, hf⟩ := hP
  refine ⟨F', ⟨h.head.left hl h.sepR, hd, own_leftB h.list hl (fun k hk e => (h.sepL k e).1 hk), fun hm => ?_, fun k e => ⟨fun hm => ?_, (h.sepL k e).2⟩, h.lt⟩, hl, hf⟩
  · rcases hf R hm with h1 | h1
    · exact h.sepR h1
    · have := h.head.lt; omega
  · rcases hf k hm with h1 | h1
    · exact (h.sepL k e).1 h1
    · have := (h.list.lt k e).2; omega
/-- One of the log's own fields is written. -/
theorem LgAt.head_ (h : LgAt w base R RD F lv L) (hl : Left [R] w w') (hd : L'.d = L.d) (hll : L'.l = L.l) (hh : Whole w' R 54 (lgHead RD lv L')) : LgAt w' base R RD F lv L' := by
  refine ⟨hh, by rw [hd]; exact h.disk.left hl (by simpa using h.sepR), ?_, h.sepR, h.sepL, h.lt⟩
  rw [hll]
  exact own_leftB h.list hl (fun k hk e => by simp only [List.mem_singleton] at hk; exact (h.sepL k e).2 hk)
set_option maxRecDepth 20000 in
theorem ldid (h : Whole w R 54 (lgHead RD lv L)) (e : Int) : Calls Try.prog 26 #[.pointer (some ⟨R, 0, none⟩), .int .i64 e] w fun r w' => r = .returned (.int .i64 e) ∧ Left [R] w w' ∧ Whole w' R 54 (lgHead RD lv { L with dead := decide (e ≠ 0) }) := by
  have c6 : w.cell? ⟨R, 6, none⟩ = some (.bool L.dead) := by rw [h.cell]; rfl
  have f6 := h.free 6
  have HE : Hid (Left [R] w (w.setCell ⟨R, 6, none⟩ (.bool (decide (e ≠ 0)))) ∧ Whole (w.setCell ⟨R, 6, none⟩ (.bool (decide (e ≠ 0)))) R 54 (lgHead RD lv { L with dead := decide (e ≠ 0) })) := Lib.hid ⟨(Left.refl _ _).setCell (Or.inl (by simp)) _, h.put 6 _⟩
  have he : (e != 0) = decide (e ≠ 0) := by rw [Bool.eq_iff_iff]; simp
  rw [← he] at HE
  rw [← he]
  clear h he
  go_enter Try.func26, Try.ntmps26
  go_wp2
  go_ret
  exact ⟨rfl, HE.out⟩
def LgR (w : World) (base R RD : Nat) (F : List Nat) (lv : Value) (L' : LS) (w' : World) : Prop := ∃ F', LgAt w' base R RD F' lv L' ∧ Left (R :: F) w w' ∧ ∀ k ∈ F', k ∈ F ∨ w.heap.size ≤ k
set_option maxRecDepth 20000 in
set_option maxHeartbeats 2000000 in
theorem lsync (h : LgAt w base R RD F lv L) (hz : base ≤ w.heap.size) (hlast : 0 ≤ L.d.last ∧ L.d.last ≤ 1000000000) :
    Calls Try.prog 21 #[.pointer (some ⟨R, 0, none⟩)] w fun e w' => e = .returned (.int .i64 (syncS L).1) ∧ LgR w base R RD F lv (syncS L).2 w' := by
  have c0 : w.cell? ⟨R, 0, none⟩ = some (.pointer (some ⟨RD, 0, none⟩)) := by rw [h.head.cell]; rfl
  have c6 : w.cell? ⟨R, 6, none⟩ = some (.bool L.dead) := by rw [h.head.cell]; rfl
  have HFL := Lib.hid (lflush c0 h.disk h.sepR hz hlast)
  have H := Lib.hid h
  have HZ := Lib.hid hz
  clear h hz hlast
  cases hd : L.dead
  · rw [hd] at c6
    have HS : Hid (syncS L = ((flS L.d).1, { L with d := (flS L.d).2, dead := decide ((flS L.d).1 ≠ 0) })) := Lib.hid (by unfold syncS; rw [hd]; rfl)
    clear hd
    go_enter Try.func21, Try.ntmps21
    go_wp2_with fail
    refine HFL.out.mono ?_
    rintro e w1 ⟨rfl, hP⟩
    obtain ⟨F1, h1, hl1, hf1⟩ := H.out.disk_ HZ.out hP
    have HDD := Lib.hid (ldid h1.head (flS L.d).1)
    have H1 := Lib.hid (And.intro h1 (And.intro hl1 hf1))
    obtain ⟨e1, he1⟩ : ∃ e, (flS L.d).1 = e := ⟨_, rfl⟩
    rw [he1] at HDD HS ⊢
    clear c0 c6 hP h1 hl1 hf1 he1
    go_wp2_with fail
    refine HDD.out.mono ?_
    rintro e w2 ⟨rfl, hl2, hW2⟩
    have HR : Hid (LgR w base R RD F lv { L with d := (flS L.d).2, dead := decide (e1 ≠ 0) } w2) := Lib.hid ⟨F1, H1.out.1.head_ hl2 rfl rfl hW2, (H1.out.2.1.mono (T := R :: F) (fun k hk => by simp [hk])).trans (hl2.mono (T := R :: F) (fun k hk => by simp at hk; simp [hk])) (fun k hk => .inl hk), H1.out.2.2⟩
    clear hl2 hW2
    go_wp2
    go_ret
    rw [HS.out]
    exact ⟨rfl, HR.out⟩
  · rw [hd] at c6
    have HS : Hid (syncS L = (10, L)) := Lib.hid (by unfold syncS; rw [hd]; rfl)
    clear hd
    go_enter Try.func21, Try.ntmps21
    go_wp2
    go_ret
    rw [HS.out]
    exact ⟨rfl, F, H.out, Left.refl _ _, fun _ hk => .inl hk⟩
end
end Go.Proofs.Ytcgdlmlolmfinaa
