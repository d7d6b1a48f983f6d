/- The page's disk: how it lies; off, Off, sector, May, at. -/

import Derived.Test.YtbhoiibcfibmhaaDkCrash
import Derived.Test.YtbhoiibcfibmhaaDpPlain
namespace Go.Proofs.Ytbhoiibcfibmhaa
open Go.RowKit Go.MapKept
def bools (l : List Bool) : List Value := l.map Value.bool
theorem bools_length (l : List Bool) : (bools l).length = l.length := by simp [bools]
structure PgAt (w : World) (base P : Nat) (F : List Nat) (kv nv fv wv : Value) (Qv : List RV) (s : DS) : Prop where
  head : Whole w P 81 [kv, nv, fv, wv, .int .i64 s.last, .bool s.off, .int .i64 s.lft, .bool s.armed]
  kept : w.ownsRow base 5 1 kv s.K.length (u8s s.K)
  now : w.ownsRow base 5 1 nv s.K.length (u8s (flushK s.K s.W))
  fresh : w.ownsRow base 4 1 fv (s.K.length / 64) (bools (frL s.K s.W))
  waits : w.ownsRow base 84 4 wv Qv.length (wCells Qv)
  reqs : ∀ q ∈ Qv, w.ownsRow base 5 1 q.2 q.1.b.length (u8s q.1.b) ∧ rqOk s.K q.1 ∧ (∀ k, q.2.ownBlock = some k → k ∈ F ∧ nv.ownBlock ≠ some k)
  qval : Qv.map (·.1) = s.Q
  room : Qv.length ≤ 16
  ne : ∀ k, kv.ownBlock = some k → nv.ownBlock ≠ some k
  blk : P ∈ F ∧ (∀ k, kv.ownBlock = some k → k ∈ F) ∧ (∀ k, nv.ownBlock = some k → k ∈ F) ∧ (∀ k, fv.ownBlock = some k → k ∈ F) ∧ (∀ k, wv.ownBlock = some k → k ∈ F)
  lt : ∀ k ∈ F, base ≤ k ∧ k < w.heap.size
  size : 64 ≤ s.K.length ∧ s.K.length % 64 = 0 ∧ s.K.length ≤ 262144
  wok : ∀ p ∈ s.W, p.2.length = 64 ∧ secIn s.K p.1
  fuse : s.armed = true → s.off = false → 1 ≤ s.lft ∧ s.lft ≤ 9223372036854775807
def PgG (w : World) (base P : Nat) (F : List Nat) (s : DS) : Prop := ∃ kv nv fv wv Qv, PgAt w base P F kv nv fv wv Qv s
section
variable {w w' : World} {base P : Nat} {F S : List Nat} {kv nv fv wv : Value} {Qv : List RV} {s s' : DS}
theorem PgAt.left (h : PgAt w base P F kv nv fv wv Qv s) (hl : Left S w w') (hS : ∀ k ∈ S, k ∉ F) : PgAt w' base P F kv nv fv wv Qv s := by
  obtain ⟨b1, b2, b3, b4, b5⟩ := h.blk
  have hz := hl.size
  exact ⟨h.head.left hl (fun hm => hS _ hm b1), own_leftB h.kept hl (fun k hk e => hS k hk (b2 k e)), own_leftB h.now hl (fun k hk e => hS k hk (b3 k e)), own_leftB h.fresh hl (fun k hk e => hS k hk (b4 k e)), own_leftB h.waits hl (fun k hk e => hS k hk (b5 k e)), fun q hq => by
    obtain ⟨a, b, d⟩ := h.reqs q hq
    exact ⟨own_leftB a hl (fun k hk e => hS k hk (d k e).1), b, d⟩, h.qval, h.room, h.ne, h.blk, fun k hk => by have := h.lt k hk; omega, h.size, h.wok, h.fuse⟩
theorem PgG.left (h : PgG w base P F s) (hl : Left S w w') (hS : ∀ k ∈ S, k ∉ F) : PgG w' base P F s := by
  obtain ⟨kv, nv, fv, wv, Qv, h⟩ := h
  exact ⟨kv, nv, fv, wv, Qv, h.left hl hS⟩
/-- The head alone was written. -/
theorem PgAt.head_ (h : PgAt w base P F kv nv fv wv Qv s) (hl : Left [P] w w') (hs : s'.K = s.K ∧ s'.W = s.W ∧ s'.Q = s.Q) (hd : Whole w' P 81 [kv, nv, fv, wv, .int .i64 s'.last, .bool s'.off, .int .i64 s'.lft, .bool s'.armed])
    (hf : s'.armed = true → s'.off = false → 1 ≤ s'.lft ∧ s'.lft ≤ 9223372036854775807) : PgAt w' base P F kv nv fv wv Qv s' := by
  obtain ⟨e1, e2, e3⟩ := hs
  have hz := hl.size
  have hRt := h.head.ty
  have hu : ∀ {v : Value} {n : Nat} {xs : List Value} {t : TypeId} {sz : Nat}, w.ownsRow base t sz v n xs → 81 ≠ t → w'.ownsRow base t sz v n xs := fun ho hne => own_leftB ho hl (fun k hk e => by
    simp only [List.mem_singleton] at hk
    subst hk
    exact (hRt.ne (own_ty ho e) hne) rfl)
  exact ⟨hd, by rw [e1]; exact hu h.kept (by decide), by rw [e1, e2]; exact hu h.now (by decide), by rw [e1, e2]; exact hu h.fresh (by decide), hu h.waits (by decide), fun q hq => by
    obtain ⟨a, b, d⟩ := h.reqs q hq
    rw [e1]
    exact ⟨hu a (by decide), b, d⟩, by rw [e3]; exact h.qval, h.room, h.ne, h.blk, fun k hk => by have := h.lt k hk; omega, by rw [e1]; exact h.size, by rw [e1, e2]; exact h.wok, hf⟩
set_option maxHeartbeats 1000000 in
theorem off_at (h : PgAt w base P F kv nv fv wv Qv s) :
    Calls Try.prog 43 #[.pointer (some ⟨P, 0, none⟩)] w fun e w' => e = .returned (.bool (callS s).off) ∧ PgAt w' base P F kv nv fv wv Qv (callS s) ∧ Left [P] w w' := by
  have hW := h.head
  have c5 : w.cell? ⟨P, 5, none⟩ = some (.bool s.off) := by rw [hW.cell]; rfl
  have c6 : w.cell? ⟨P, 6, none⟩ = some (.int .i64 s.lft) := by rw [hW.cell]; rfl
  have c7 : w.cell? ⟨P, 7, none⟩ = some (.bool s.armed) := by rw [hW.cell]; rfl
  have f5 := hW.free 5
  have f6 := hW.free 6
  have hfu := h.fuse
  have HD := Lib.hid h
  have HW := Lib.hid hW
  obtain ⟨K, W, Q, last, off, lft, armed⟩ := s
  clear h hW
  dsimp only at c5 c6 c7 hfu
  cases armed
  · have hc : callS ⟨K, W, Q, last, off, lft, false⟩ = ⟨K, W, Q, last, off, lft, false⟩ := rfl
    rw [hc]
    clear hc
    go_enter Try.func43, Try.ntmps43
    go_wp2
    go_ret
    exact ⟨rfl, HD.out, Left.refl _ _⟩
  · cases off
    · obtain ⟨l1, l2⟩ := hfu rfl rfl
      have hc : callS ⟨K, W, Q, last, false, lft, true⟩ = ⟨K, W, Q, last, decide (lft - 1 < 1), lft - 1, true⟩ := rfl
      rw [hc]
      clear hc hfu
      by_cases h1 : lft ≤ 1
      · have hd : decide (lft - 1 < 1) = true := decide_eq_true (by omega)
        rw [hd]
        have hEND : PgAt ((w.setCell ⟨P, 5, none⟩ (.bool true)).setCell ⟨P, 6, none⟩ (.int .i64 (lft - 1))) base P F kv nv fv wv Qv ⟨K, W, Q, last, true, lft - 1, true⟩ ∧ Left [P] w ((w.setCell ⟨P, 5, none⟩ (.bool true)).setCell ⟨P, 6, none⟩ (.int .i64 (lft - 1))) := by
          have hl : Left [P] w ((w.setCell ⟨P, 5, none⟩ (.bool true)).setCell ⟨P, 6, none⟩ (.int .i64 (lft - 1))) := ((Left.refl _ _).setCell (Or.inl (by simp)) _).setCell (Or.inl (by simp)) _
          exact ⟨HD.out.head_ hl ⟨rfl, rfl, rfl⟩ ((HW.out.put 5 _).put 6 _) (fun _ h0 => by cases h0), hl⟩
        have HE := Lib.hid hEND
        clear hEND hd
        go_enter Try.func43, Try.ntmps43
        go_wp2
        go_ret
        exact ⟨rfl, HE.out.1, HE.out.2⟩
      · have hd : decide (lft - 1 < 1) = false := decide_eq_false (by omega)
        rw [hd]
        have hEND : PgAt (w.setCell ⟨P, 6, none⟩ (.int .i64 (lft - 1))) base P F kv nv fv wv Qv ⟨K, W, Q, last, false, lft - 1, true⟩ ∧ Left [P] w (w.setCell ⟨P, 6, none⟩ (.int .i64 (lft - 1))) := by
          have hl : Left [P] w (w.setCell ⟨P, 6, none⟩ (.int .i64 (lft - 1))) := (Left.refl _ _).setCell (Or.inl (by simp)) _
          exact ⟨HD.out.head_ hl ⟨rfl, rfl, rfl⟩ (HW.out.put 6 _) (fun _ _ => by dsimp only; omega), hl⟩
        have HE := Lib.hid hEND
        have h1' : 1 < lft := by omega
        clear hEND hd h1
        go_enter Try.func43, Try.ntmps43
        go_wp2
        go_ret
        exact ⟨rfl, HE.out.1, HE.out.2⟩
    · have hc : callS ⟨K, W, Q, last, true, lft, true⟩ = ⟨K, W, Q, last, true, lft, true⟩ := rfl
      rw [hc]
      clear hc
      go_enter Try.func43, Try.ntmps43
      go_wp2
      go_ret
      exact ⟨rfl, HD.out, Left.refl _ _⟩
set_option maxHeartbeats 1000000 in
theorem rOff_g (h : PgG w base P F s) (n : Int) (hn : n ≤ 9223372036854775807) :
    Calls Try.prog 24 #[.pointer (some ⟨P, 0, none⟩), .int .i64 n] w fun e w' => e = .returned (.tuple #[]) ∧ PgG w' base P F (offS s n) ∧ Left F w w' := by
  obtain ⟨kv, nv, fv, wv, Qv, h⟩ := h
  have hPF := h.blk.1
  have hW := h.head
  have c5 : w.cell? ⟨P, 5, none⟩ = some (.bool s.off) := by rw [hW.cell]; rfl
  have c6 : w.cell? ⟨P, 6, none⟩ = some (.int .i64 s.lft) := by rw [hW.cell]; rfl
  have c7 : w.cell? ⟨P, 7, none⟩ = some (.bool s.armed) := by rw [hW.cell]; rfl
  have f5 := hW.free 5
  have f6 := hW.free 6
  have f7 := hW.free 7
  have HD := Lib.hid h
  have HW := Lib.hid hW
  clear h hW
  by_cases h1 : n < 1
  · have hE : ∀ w', w' = (((w.setCell ⟨P, 7, none⟩ (.bool true)).setCell ⟨P, 6, none⟩ (.int .i64 n)).setCell ⟨P, 5, none⟩ (.bool true)) → PgG w' base P F (offS s n) ∧ Left F w w' := by
      rintro w' rfl
      have hl : Left [P] w (((w.setCell ⟨P, 7, none⟩ (.bool true)).setCell ⟨P, 6, none⟩ (.int .i64 n)).setCell ⟨P, 5, none⟩ (.bool true)) := (((Left.refl _ _).setCell (Or.inl (by simp)) _).setCell (Or.inl (by simp)) _).setCell (Or.inl (by simp)) _
      refine ⟨⟨_, _, _, _, _, HD.out.head_ hl ⟨rfl, rfl, rfl⟩ ?_ (fun _ h0 => ?_)⟩, hl.mono (by simpa using hPF)⟩
      · have := ((HW.out.put 7 (.bool true)).put 6 (.int .i64 n)).put 5 (.bool true)
        simpa [offS, h1] using this
      · simp [offS, h1] at h0
    have HE := Lib.hid hE
    clear hE
    go_enter Try.func24, Try.ntmps24
    go_wp2
    go_end0
    exact ⟨rfl, HE.out _ rfl⟩
  · have hE : ∀ w', w' = ((w.setCell ⟨P, 7, none⟩ (.bool true)).setCell ⟨P, 6, none⟩ (.int .i64 n)) → PgG w' base P F (offS s n) ∧ Left F w w' := by
      rintro w' rfl
      have hl : Left [P] w ((w.setCell ⟨P, 7, none⟩ (.bool true)).setCell ⟨P, 6, none⟩ (.int .i64 n)) := ((Left.refl _ _).setCell (Or.inl (by simp)) _).setCell (Or.inl (by simp)) _
      refine ⟨⟨_, _, _, _, _, HD.out.head_ hl ⟨rfl, rfl, rfl⟩ ?_ (fun _ h0 => ?_)⟩, hl.mono (by simpa using hPF)⟩
      · have := ((HW.out.put 7 (.bool true)).put 6 (.int .i64 n))
        simpa [offS, h1] using this
      · simp only [offS]
        omega
    have HE := Lib.hid hE
    clear hE
    go_enter Try.func24, Try.ntmps24
    go_wp2
    go_end0
    exact ⟨rfl, HE.out _ rfl⟩
set_option maxHeartbeats 400000 in
theorem sector_g (h : PgG w base P F s) (n : Int) : Calls Try.prog 42 #[.pointer (some ⟨P, 0, none⟩), .int .i64 n] w fun e w' => e = .returned (.bool (isS s.K n)) ∧ w = w' := by
  obtain ⟨kv, nv, fv, wv, Qv, h⟩ := h
  have hz := h.size
  obtain ⟨fo, fc, rfl, hfc, hfm⟩ := (Rd.of_own h.fresh).form
  have c2 : w.cell? ⟨P, 2, none⟩ = some (.slice fo (s.K.length / 64) fc) := by rw [h.head.cell]; rfl
  have hx : Hid (isS s.K n = (decide (0 ≤ n) && decide (n < ((s.K.length / 64 : Nat) : Int)))) := Lib.hid (by
    unfold isS
    congr 1
    exact decide_eq_decide.2 (by omega))
  have hm : s.K.length / 64 ≤ 4096 := by omega
  clear h hz hfm
  generalize s.K.length / 64 = m at hx c2 hfc hm
  by_cases h0 : 0 ≤ n
  · go_enter Try.func42, Try.ntmps42
    go_wp2
    go_ret
    exact ⟨by rw [hx.out]; simp [h0], rfl⟩
  · have h0' : n < 0 := by omega
    go_enter Try.func42, Try.ntmps42
    go_wp2
    go_ret
    exact ⟨by rw [hx.out, decide_eq_false (show ¬ 0 ≤ n by omega)]; rfl, rfl⟩
end
set_option maxHeartbeats 400000 in
theorem May_any (w : World) (ao : Option Addr) (n cap : Nat) (hn : n ≤ 1048576) : Calls Try.prog 17 #[.slice ao n cap] w fun e w' => e = .returned (.bool (decide (mayD n))) ∧ w = w' := by
  obtain ⟨r, hr⟩ : ∃ r, n % 64 = r := ⟨_, rfl⟩
  have q2 : ((n : Nat) : Int).tmod 64 = (r : Int) := by rw [Int.tmod_eq_emod_of_nonneg (by omega)]; omega
  have hx : Hid (decide (mayD n) = (decide (64 ≤ n) && decide (n ≤ 262144) && decide (r = 0))) := Lib.hid (by
    rw [Bool.eq_iff_iff]
    simp only [decide_eq_true_eq, Bool.and_eq_true]
    unfold mayD
    omega)
  clear hr
  have h64 : 64 ≤ n ∨ n < 64 := by omega
  have h26 : n ≤ 262144 ∨ 262144 < n := by omega
  have hr0 : r = 0 ∨ 0 < r := by omega
  rcases h64 with h64 | h64
  · rcases h26 with h26 | h26
    · rcases hr0 with rfl | hr0
      · go_enter Try.func17, Try.ntmps17
        go_wp2
        go_ret
        exact ⟨by rw [hx.out]; simp [h64, h26], rfl⟩
      · have hr1 : (((r : Nat) : Int) == 0) = false := by simp; omega
        go_enter Try.func17, Try.ntmps17
        go_wp2
        go_ret
        exact ⟨by rw [hx.out]; simp [h64, h26]; omega, rfl⟩
    · go_enter Try.func17, Try.ntmps17
      go_wp2
      go_ret
      exact ⟨by rw [hx.out]; simp [h64, show ¬ n ≤ 262144 by omega], rfl⟩
  · go_enter Try.func17, Try.ntmps17
    go_wp2
    go_ret
    exact ⟨by rw [hx.out]; simp [show ¬ 64 ≤ n by omega], rfl⟩
/-- A sector of a row. -/
theorem at_any (w : World) (g : Nat) (len cap n : Nat) (hn : 64 * n + 64 ≤ len) (hc : len ≤ cap) (hl : len ≤ 262144) (hm : cap ≤ maxLen) :
    Calls Try.prog 44 #[.slice (some ⟨g, 0, none⟩) len cap, .int .i64 n] w fun e w' => e = .returned (oldV g cap n) ∧ w = w' := by
  have q1 : IntKind.i64.wrap ((n : Int) * 64) = ((64 * n : Nat) : Int) := by rw [IntWalk.i64_in _ ⟨by omega, by omega⟩]; omega
  have q2 : IntKind.i64.wrap ((n : Int) + 1) = (n : Int) + 1 := IntWalk.i64_in _ ⟨by omega, by omega⟩
  have q3 : IntKind.i64.wrap (((n : Int) + 1) * 64) = ((64 * n + 64 : Nat) : Int) := by rw [IntWalk.i64_in _ ⟨by omega, by omega⟩]; omega
  unfold oldV
  obtain ⟨a, ha⟩ : ∃ a, 64 * n = a := ⟨_, rfl⟩
  rw [ha] at hn q1 q3 ⊢
  have hac : a + 64 ≤ cap := by omega
  have hcm2 : cap ≤ 9223372036854775807 := by unfold maxLen at hm; omega
  have hne : ¬ cap = a := by omega
  have hd : a + 64 - a = 64 := by omega
  clear hm ha hc hn
  go_enter Try.func44, Try.ntmps44
  go_wp2
  go_ret
  exact ⟨congrArg Ending.returned (show Value.slice (some ⟨g, a, none⟩) (a + 64 - a) (cap - a) = _ by rw [hd]), rfl⟩
end Go.Proofs.Ytbhoiibcfibmhaa
