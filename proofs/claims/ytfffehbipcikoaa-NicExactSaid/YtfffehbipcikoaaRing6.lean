/- Driver.Add: the plain laws of the descriptors that it takes. -/

import Derived.Test.YtfffehbipcikoaaRing5
namespace Go.Proofs.Ytfffehbipcikoaa
open Go.RowKit

theorem pairs_inj : ∀ {L L' : List (Int × Value)}, L.map pairOf = L'.map pairOf → L = L'
  | [], [], _ => rfl
  | [], _ :: _, h => by simp at h
  | _ :: _, [], h => by simp at h
  | p :: L, q :: L', h => by
    rw [List.map_cons, List.map_cons] at h
    injection h with hp hr
    have h1 : Value.int .i64 p.1 = Value.int .i64 q.1 := congrArg (fun x : Value × Value => x.1) hp
    have h2 : p.2 = q.2 := congrArg (fun x : Value × Value => x.2) hp
    injection h1 with _ h1
    rw [pairs_inj hr, show p = q from Prod.ext h1 h2]
theorem imap_uniq {w : World} {b : Nat} {L L' : List (Int × Value)} (h : IMap w b L) (h' : IMap w b L') : L = L' := by
  obtain ⟨es, ck, h0, _, h1⟩ := h
  obtain ⟨es', ck', h0', _, h1'⟩ := h'
  rw [h0] at h0'
  injection h0' with e
  injection e with e
  subst e
  exact pairs_inj (h1.symm.trans h1')
/-- None of the rows that the map bw holds lies in block k. -/
def NoRow (w : World) (bw k : Nat) : Prop := ∀ W, IMap w bw W → ∀ p ∈ W, p.2.ownBlock ≠ some k
theorem NoRow.left {w w' : World} {bw k : Nat} {S : List Nat} (h : NoRow w bw k) (hl : Left S w w') (hn : bw ∉ S) (hlt : bw < w.heap.size) : NoRow w' bw k :=
  fun W hW p hp => h W (hW.keep (hl.block bw hlt hn).symm) p hp

/-- The free descriptors, from number i on. -/
def freeFrom : Nat → List Bool → List Nat
  | _, [] => []
  | i, b :: r => if b then freeFrom (i + 1) r else i :: freeFrom (i + 1) r
/-- What a chain of n pieces takes. -/
def takes (bz : List Bool) (n : Nat) : List Nat := (freeFrom 0 bz).take n
theorem freeFrom_length (i : Nat) (bz : List Bool) : (freeFrom i bz).length = freeN bz := by
  induction bz generalizing i with
  | nil => rfl
  | cons b r ih =>
    have := ih (i + 1)
    cases b <;> simp [freeFrom, freeN] at this ⊢ <;> exact this
theorem freeFrom_append (i : Nat) (x y : List Bool) : freeFrom i (x ++ y) = freeFrom i x ++ freeFrom (i + x.length) y := by
  induction x generalizing i with
  | nil => simp [freeFrom]
  | cons b r ih =>
    have h := ih (i + 1)
    rw [show i + 1 + r.length = i + (b :: r).length by simp; omega] at h
    cases b <;> simp only [List.cons_append, freeFrom, h] <;> simp
theorem freeFrom_take {bz : List Bool} {i : Nat} {b : Bool} (h : bz[i]? = some b) : freeFrom 0 (bz.take (i + 1)) = freeFrom 0 (bz.take i) ++ if b then [] else [i] := by
  have hi := (List.getElem?_eq_some_iff.1 h).1
  rw [List.take_add_one, h, freeFrom_append, List.length_take]
  rw [show 0 + min i bz.length = i by omega]
  cases b <;> simp [freeFrom]
theorem takes_step {bz : List Bool} {i n : Nat} {b : Bool} (h : bz[i]? = some b) :
    takes (bz.take (i + 1)) n = takes (bz.take i) n ++ if !b && decide ((takes (bz.take i) n).length < n) then [i] else [] := by
  unfold takes
  rw [freeFrom_take h, List.take_append]
  rw [List.length_take]
  by_cases hl : (freeFrom 0 (bz.take i)).length < n
  · rw [Nat.min_eq_right (by omega)]
    cases b
    · simp [hl]
      rw [List.take_of_length_le (by simp; omega)]
    · simp
  · rw [Nat.min_eq_left (by omega)]
    cases b
    · simp
      omega
    · simp
theorem takes_length (bz : List Bool) (n : Nat) : (takes bz n).length = min n (freeN bz) := by
  unfold takes
  rw [List.length_take, freeFrom_length]
theorem freeFrom_mem {i : Nat} {bz : List Bool} {x : Nat} (h : x ∈ freeFrom i bz) : ∃ k : Nat, x = i + k ∧ bz[k]? = some false := by
  induction bz generalizing i with
  | nil => simp [freeFrom] at h
  | cons b r ih =>
    cases b
    · simp [freeFrom] at h
      rcases h with h | h
      · exact ⟨0, by simpa using h, rfl⟩
      · obtain ⟨k, hk, hb⟩ := ih h
        exact ⟨k + 1, by rw [hk]; omega, by simpa using hb⟩
    · simp [freeFrom] at h
      obtain ⟨k, hk, hb⟩ := ih h
      exact ⟨k + 1, by rw [hk]; omega, by simpa using hb⟩
theorem takes_mem {bz : List Bool} {n x : Nat} (h : x ∈ takes bz n) : bz[x]? = some false := by
  obtain ⟨k, hk, hb⟩ := freeFrom_mem (List.mem_of_mem_take h)
  rw [hk, Nat.zero_add]
  exact hb

/-- What one descriptor's four writes leave of memory: descriptor x, piece b, the next one. -/
def oneB (B : List UInt8) (x : Nat) (b : Buf) (nx : Option Nat) : List UInt8 :=
  putV (putV (putV (putV B (16 * x) 8 b.addr.toNat) (16 * x + 8) 4 b.len.toNat) (16 * x + 12) 2 ((if b.wr then 2 else 0) + (if nx.isSome then 1 else 0))) (16 * x + 14) 2 (nx.getD 0)
theorem oneB_length (B : List UInt8) (x : Nat) (b : Buf) (nx : Option Nat) : (oneB B x b nx).length = B.length := by
  simp [oneB, putV_length]
/-- The first j descriptors of a chain are written. -/
def descsB (B : List UInt8) (L : List Buf) (own : List Nat) : Nat → List UInt8
  | 0 => B
  | j + 1 => match L[j]?, own[j]? with
    | some b, some x => oneB (descsB B L own j) x b own[j + 1]?
    | _, _ => descsB B L own j
theorem descsB_succ {B : List UInt8} {L : List Buf} {own : List Nat} {j x : Nat} {b : Buf} (h1 : L[j]? = some b) (h2 : own[j]? = some x) : descsB B L own (j + 1) = oneB (descsB B L own j) x b own[j + 1]? := by
  rw [descsB]
  simp only [h1, h2]
theorem descsB_length (B : List UInt8) (L : List Buf) (own : List Nat) (j : Nat) : (descsB B L own j).length = B.length := by
  induction j with
  | zero => rfl
  | succ j ih =>
    unfold descsB
    split
    · rw [oneB_length, ih]
    · exact ih
/-- The flags of the descriptors own set to v. -/
def setAll (bz : List Bool) (own : List Nat) (v : Bool) : List Bool := own.foldl (fun z x => z.set x v) bz
theorem setAll_length (bz : List Bool) (own : List Nat) (v : Bool) : (setAll bz own v).length = bz.length := by
  induction own generalizing bz with
  | nil => rfl
  | cons x r ih => exact (ih _).trans (by simp)
theorem setAll_snoc (bz : List Bool) (own : List Nat) (x : Nat) (v : Bool) : setAll bz (own ++ [x]) v = (setAll bz own v).set x v := by
  simp [setAll, List.foldl_append]
theorem chainOk_at {after : Bool} {L : List Buf} (h : chainOk after L = true) {j : Nat} {b : Buf} (hb : L[j]? = some b) : bufB b = true := by
  induction L generalizing after j with
  | nil => simp at hb
  | cons c r ih =>
    simp [chainOk] at h
    cases j with
    | zero =>
      simp at hb
      subst hb
      have := h.1
      simp [pieceB] at this
      exact this.1
    | succ j => exact ih h.2 (by simpa using hb)
theorem bufsB_at {L : List Buf} (h : bufsB L = true) {j : Nat} {b : Buf} (hb : L[j]? = some b) : ∃ a l : Nat, b.addr = a ∧ b.len = l ∧ a ≤ 4294967296 ∧ 1 ≤ l ∧ l ≤ 65536 := by
  simp [bufsB] at h
  have := chainOk_at h.2 hb
  simp [bufB] at this
  exact ⟨b.addr.toNat, b.len.toNat, by omega, by omega, by omega, by omega, by omega⟩
end Go.Proofs.Ytfffehbipcikoaa
