/- A disk of the program: how it lies; call, Sectors, is, Off. -/

import Derived.Test.YtcgdlmlolmfinaaDkReq
import Derived.Test.YtcgdlmlolmfinaaRng
import Derived.Test.YtcgdlmlolmfinaaClone
import Derived.Test.YtcgdlmlolmfinaaTy
import Derived.Lib.Hide
namespace Go.Proofs.Ytcgdlmlolmfinaa
open Go.RowKit Go.MapKept

theorem IMap.noTy {w : World} {b k : Nat} {L : List (Int × Value)} {t : TypeId} (h : IMap w b L) (ht : Ty w k t) : k ≠ b := by
  obtain ⟨es, clock, hb, _⟩ := h.size
  obtain ⟨c, f, ht⟩ := ht
  intro e
  subst e
  rw [hb] at ht
  injection ht with ht
  cases ht
/-- What a disk holds, plainly. -/
structure DS where
  K : List UInt8
  W : List (Int × List UInt8)
  Q : List Rq
  last : Int
  off : Bool
  lft : Int
  armed : Bool
/-- There is such a sector. -/
def secIn (K : List UInt8) (n : Int) : Prop := 0 ≤ n ∧ 64 * n + 64 ≤ K.length
def rqOk (K : List UInt8) (q : Rq) : Prop := (q.kind = 0 ∧ secIn K q.n) ∨ (q.kind = 1 ∧ secIn K q.n ∧ q.b.length = 64) ∨ q.kind = 2
structure DkAt (w : World) (base R M : Nat) (F : List Nat) (kv wv : Value) (Wv : List (Int × Value × List UInt8)) (Qv : List RV) (s : DS) : Prop where
  head : Whole w R 68 [kv, .map (some M), wv, .int .i64 s.last, .bool s.off, .int .i64 s.lft, .bool s.armed]
  kept : w.ownsRow base 5 1 kv s.K.length (u8s s.K)
  map : IMap w M (Wv.map fun p => (p.1, p.2.1))
  vals : ∀ p ∈ Wv, w.ownsRow base 5 1 p.2.1 64 (u8s p.2.2) ∧ p.2.2.length = 64 ∧ secIn s.K p.1 ∧ (∀ k, p.2.1.ownBlock = some k → k ∈ F ∧ kv.ownBlock ≠ some k)
  wval : Wv.map (fun p => (p.1, p.2.2)) = s.W
  waits : w.ownsRow base 100 4 wv Qv.length (wCells Qv)
  reqs : ∀ q ∈ Qv, w.ownsRow base 5 1 q.2 q.1.b.length (u8s q.1.b) ∧ rqOk s.K q.1 ∧ (∀ k, q.2.ownBlock = some k → k ∈ F ∧ kv.ownBlock ≠ some k)
  qval : Qv.map (·.1) = s.Q
  room : Qv.length ≤ 16
  blk : R ∈ F ∧ M ∈ F ∧ (∀ k, kv.ownBlock = some k → k ∈ F) ∧ (∀ k, wv.ownBlock = some k → k ∈ F)
  lt : ∀ k ∈ F, base ≤ k ∧ k < w.heap.size
  size : 64 ≤ s.K.length ∧ s.K.length % 64 = 0 ∧ s.K.length ≤ 262144
  fuse : s.armed = true → s.off = false → 1 ≤ s.lft ∧ s.lft ≤ 9223372036854775807
def DkG (w : World) (base R : Nat) (F : List Nat) (s : DS) : Prop := ∃ M kv wv Wv Qv, DkAt w base R M F kv wv Wv Qv s
section
variable {w w' : World} {base R M : Nat} {F S : List Nat} {kv wv : Value} {Wv : List (Int × Value × List UInt8)} {Qv : List RV} {s s' : DS}
theorem DkAt.left (h : DkAt w base R M F kv wv Wv Qv s) (hl : Left S w w') (hS : ∀ k ∈ S, k ∉ F) : DkAt w' base R M F kv wv Wv Qv s := by
  obtain ⟨b1, b2, b3, b4⟩ := h.blk
  have hz := hl.size
  exact ⟨h.head.left hl (fun hm => hS _ hm b1), own_leftB h.kept hl (fun k hk e => hS k hk (b3 k e)), h.map.left hl (fun hm => hS _ hm b2), fun p hp => by
    obtain ⟨a, b, c, d⟩ := h.vals p hp
    exact ⟨own_leftB a hl (fun k hk e => hS k hk (d k e).1), b, c, d⟩, h.wval, own_leftB h.waits hl (fun k hk e => hS k hk (b4 k e)), fun q hq => by
    obtain ⟨a, b, d⟩ := h.reqs q hq
    exact ⟨own_leftB a hl (fun k hk e => hS k hk (d k e).1), b, d⟩, h.qval, h.room, h.blk, fun k hk => by have := h.lt k hk; omega, h.size, h.fuse⟩
theorem DkG.left (h : DkG w base R F s) (hl : Left S w w') (hS : ∀ k ∈ S, k ∉ F) : DkG w' base R F s := by
  obtain ⟨M, kv, wv, Wv, Qv, h⟩ := h
  exact ⟨M, kv, wv, Wv, Qv, h.left hl hS⟩
theorem DkG.left0 (h : DkG w base R F s) (hl : Left [] w w') : DkG w' base R F s := h.left hl (by simp)
/-- The head alone was written. -/
theorem DkAt.head_ (h : DkAt w base R M F kv wv Wv Qv s) (hl : Left [R] w w') (hs : s'.K = s.K ∧ s'.W = s.W ∧ s'.Q = s.Q) (hd : Whole w' R 68 [kv, .map (some M), wv, .int .i64 s'.last, .bool s'.off, .int .i64 s'.lft, .bool s'.armed])
    (hf : s'.armed = true → s'.off = false → 1 ≤ s'.lft ∧ s'.lft ≤ 9223372036854775807) : DkAt w' base R M F kv wv Wv Qv s' := by
  obtain ⟨b1, b2, b3, b4⟩ := h.blk
  obtain ⟨e1, e2, e3⟩ := hs
  have hz := hl.size
  have hRt := h.head.ty
  have hu : ∀ {v : Value} {n : Nat} {xs : List Value} {t : TypeId} {sz : Nat}, w.ownsRow base t sz v n xs → 68 ≠ t → w'.ownsRow base t sz v n xs := fun ho hne => own_leftB ho hl (fun k hk e => by
    simp only [List.mem_singleton] at hk
    subst hk
    exact (hRt.ne (own_ty ho e) hne) rfl)
  exact ⟨hd, by rw [e1]; exact hu h.kept (by decide), h.map.left hl (by simp only [List.mem_singleton]; exact fun e => (h.map.noTy hRt) e.symm), fun p hp => by
    obtain ⟨a, b, c, d⟩ := h.vals p hp
    rw [e1]
    exact ⟨hu a (by decide), b, c, d⟩, by rw [e2]; exact h.wval, hu h.waits (by decide), fun q hq => by
    obtain ⟨a, b, d⟩ := h.reqs q hq
    rw [e1]
    exact ⟨hu a (by decide), b, d⟩, by rw [e3]; exact h.qval, h.room, h.blk, fun k hk => by have := h.lt k hk; omega, by rw [e1]; exact h.size, hf⟩

/-- A call is counted. -/
def callS (s : DS) : DS := if s.armed = true ∧ s.off = false then { s with lft := s.lft - 1, off := decide (s.lft - 1 < 1) } else s
theorem callS_K : (callS s).K = s.K ∧ (callS s).W = s.W ∧ (callS s).Q = s.Q ∧ (callS s).last = s.last ∧ (callS s).armed = s.armed := by
  unfold callS
  split <;> simp
set_option maxHeartbeats 1000000 in
theorem call_at (h : DkAt w base R M F kv wv Wv Qv s) :
    Calls Try.prog 58 #[.pointer (some ⟨R, 0, none⟩)] w fun e w' => e = .returned (.bool (!(callS s).off)) ∧ DkAt w' base R M F kv wv Wv Qv (callS s) ∧ Left [R] w w' := by
  have hW := h.head
  have c4 : w.cell? ⟨R, 4, none⟩ = some (.bool s.off) := by rw [hW.cell]; rfl
  have c5 : w.cell? ⟨R, 5, none⟩ = some (.int .i64 s.lft) := by rw [hW.cell]; rfl
  have c6 : w.cell? ⟨R, 6, none⟩ = some (.bool s.armed) := by rw [hW.cell]; rfl
  have f4 := hW.free 4
  have f5 := hW.free 5
  have hfu := h.fuse
  have HD := Lib.hid h
  have HW := Lib.hid hW
  obtain ⟨K, W, Q, last, off, lft, armed⟩ := s
  clear h hW
  dsimp only at c4 c5 c6 hfu
  cases armed
  · have hc : callS ⟨K, W, Q, last, off, lft, false⟩ = ⟨K, W, Q, last, off, lft, false⟩ := rfl
    rw [hc]
    clear hc
    go_enter Try.func58, Try.ntmps58
    go_wp2
    go_ret
    exact ⟨rfl, HD.out, Left.refl _ _⟩
  · cases off
    · obtain ⟨l1, l2⟩ := hfu rfl rfl
      have hc : callS ⟨K, W, Q, last, false, lft, true⟩ = ⟨K, W, Q, last, decide (lft - 1 < 1), lft - 1, true⟩ := rfl
      rw [hc]
      clear hc hfu
      have hEND : DkAt ((w.setCell ⟨R, 5, none⟩ (.int .i64 (lft - 1))).setCell ⟨R, 4, none⟩ (.bool (decide (lft - 1 < 1)))) base R M F kv wv Wv Qv ⟨K, W, Q, last, decide (lft - 1 < 1), lft - 1, true⟩ ∧ Left [R] w ((w.setCell ⟨R, 5, none⟩ (.int .i64 (lft - 1))).setCell ⟨R, 4, none⟩ (.bool (decide (lft - 1 < 1)))) := by
        have hl : Left [R] w ((w.setCell ⟨R, 5, none⟩ (.int .i64 (lft - 1))).setCell ⟨R, 4, none⟩ (.bool (decide (lft - 1 < 1)))) := ((Left.refl _ _).setCell (Or.inl (by simp)) _).setCell (Or.inl (by simp)) _
        refine ⟨HD.out.head_ hl ⟨rfl, rfl, rfl⟩ ((HW.out.put 5 _).put 4 _) (fun _ h0 => ?_), hl⟩
        simp only [decide_eq_false_iff_not] at h0
        simp only
        omega
      have HE := Lib.hid hEND
      clear hEND
      go_enter Try.func58, Try.ntmps58
      go_wp2
      go_ret
      exact ⟨rfl, HE.out.1, HE.out.2⟩
    · have hc : callS ⟨K, W, Q, last, true, lft, true⟩ = ⟨K, W, Q, last, true, lft, true⟩ := rfl
      rw [hc]
      clear hc
      go_enter Try.func58, Try.ntmps58
      go_wp2
      go_ret
      exact ⟨rfl, HD.out, Left.refl _ _⟩
end
end Go.Proofs.Ytcgdlmlolmfinaa
