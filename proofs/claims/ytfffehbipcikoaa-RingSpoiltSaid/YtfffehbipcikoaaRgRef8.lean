/- The page's ring: Add. -/


import Derived.Test.YtfffehbipcikoaaRgRef7
namespace Go.Proofs.Ytfffehbipcikoaa
open Go.RowKit

theorem setAll_get_ne (own : List Nat) (v : Bool) (i : Nat) (h : i ∉ own) (bz : List Bool) : (setAll bz own v)[i]? = bz[i]? := by
  induction own generalizing bz with
  | nil => rfl
  | cons x r ih =>
    simp only [List.mem_cons, not_or] at h
    show (setAll (bz.set x v) r v)[i]? = _
    rw [ih h.2, List.getElem?_set_ne (fun e => h.1 e.symm)]
theorem freeFrom_lt {bz : List Bool} {k x : Nat} (h : x ∈ freeFrom 0 (bz.take k)) : x < k := by
  obtain ⟨j, hj, hb⟩ := freeFrom_mem h
  have := (List.getElem?_eq_some_iff.1 hb).1
  rw [List.length_take] at this
  omega
theorem freeFrom_split (bz : List Bool) (k : Nat) : ∃ r, freeFrom 0 bz = freeFrom 0 (bz.take k) ++ r := by
  refine ⟨freeFrom (0 + (bz.take k).length) (bz.drop k), ?_⟩
  rw [← freeFrom_append, List.take_append_drop]
theorem takes_eq {bz : List Bool} {k n : Nat} (h : (freeFrom 0 (bz.take k)).length = n) : takes bz n = freeFrom 0 (bz.take k) := by
  obtain ⟨r, hr⟩ := freeFrom_split bz k
  unfold takes
  rw [hr, ← h, List.take_left]
theorem wsum_snoc {L : List Buf} {j : Nat} {b : Buf} (h : L[j]? = some b) : wsum (L.take (j + 1)) = wsum (L.take j) + (if b.wr then b.len else 0) := by
  induction L generalizing j with
  | nil => simp at h
  | cons c r ih =>
    cases j with
    | zero => simp at h; subst h; simp [wsum]
    | succ j =>
      have := ih (j := j) (by simpa using h)
      simp only [List.take_succ_cons, wsum] at this ⊢
      rw [this]
      omega
theorem wsum_bound {L : List Buf} (h : bufsB L = true) : ∀ j, j ≤ L.length → 0 ≤ wsum (L.take j) ∧ wsum (L.take j) ≤ 65536 * j := by
  intro j
  induction j with
  | zero => intro _; simp [wsum]
  | succ j ih =>
    intro hj
    obtain ⟨b, hb⟩ : ∃ b, L[j]? = some b := ⟨_, List.getElem?_eq_getElem (by omega)⟩
    obtain ⟨a, l, _, h2, _, h4, h5⟩ := bufsB_at h hb
    rw [wsum_snoc hb]
    have := ih (by omega)
    split <;> omega

set_option maxRecDepth 20000 in
set_option maxHeartbeats 1000000 in
theorem rAdd_broken (w : World) (R bt bc bw m q : Nat) (added last : Nat) (tk : List Bool) (ch : List (List Nat)) (ws : List Int) (F : List Nat) (v : Value) (h : RefAt w R bt bc bw m q true added last tk ch ws F) :
    Calls Try.prog 80 #[.pointer (some ⟨R, 0, none⟩), v] w fun e w' => e = .returned (.tuple #[.int .i64 0, .int .i64 6]) ∧ w' = w := by
  have c9 : w.cell? ⟨R, 9, none⟩ = some (.bool true) := by rw [h.head.cell]; rfl
  clear h
  go_enter Try.func80, Try.ntmps80
  go_wp2
  go_ret2
  exact ⟨rfl, rfl⟩
set_option maxRecDepth 20000 in
set_option maxHeartbeats 1000000 in
theorem rAdd_form (w : World) (R bt bc bw m q : Nat) (added last : Nat) (tk : List Bool) (ch : List (List Nat)) (ws : List Int) (F : List Nat) (v : Value) (L : List Buf) (h : RefAt w R bt bc bw m q false added last tk ch ws F) (hL : Rd w w.heap.size 3 v L.length (bufCells L)) (hx : bufsB L = false) :
    Calls Try.prog 80 #[.pointer (some ⟨R, 0, none⟩), v] w fun e w' => e = .returned (.tuple #[.int .i64 0, .int .i64 1]) ∧ Below w.heap.size w w' := by
  have c9 : w.cell? ⟨R, 9, none⟩ = some (.bool false) := by rw [h.head.cell]; rfl
  have HC : Hid (Calls Try.prog 44 #[v] w fun e w' => e = .returned (.bool false) ∧ Below w.heap.size w w') := Lib.hid ((rBufs_any w v L _ hL (Nat.le_refl _)).mono fun e w' ⟨h1, h2⟩ => ⟨by rw [h1, hx], h2⟩)
  clear h hL hx
  go_enter Try.func80, Try.ntmps80
  go_wp2_with fail
  refine HC.out.mono ?_
  rintro e w1 ⟨rfl, hb⟩
  go_wp2
  go_ret2
  exact ⟨rfl, hb⟩
set_option maxRecDepth 20000 in
set_option maxHeartbeats 1000000 in
theorem rAdd_full (w : World) (R bt bc bw m q : Nat) (added last : Nat) (tk : List Bool) (ch : List (List Nat)) (ws : List Int) (F : List Nat) (v : Value) (L : List Buf) (h : RefAt w R bt bc bw m q false added last tk ch ws F) (hq : q ≤ 64) (hL : Rd w w.heap.size 3 v L.length (bufCells L)) (hx : bufsB L = true) (hf : freeN tk < L.length) :
    Calls Try.prog 80 #[.pointer (some ⟨R, 0, none⟩), v] w fun e w' => e = .returned (.tuple #[.int .i64 0, .int .i64 5]) ∧ Below w.heap.size w w' := by
  have c9 : w.cell? ⟨R, 9, none⟩ = some (.bool false) := by rw [h.head.cell]; rfl
  have HC : Hid (Calls Try.prog 44 #[v] w fun e w' => e = .returned (.bool true) ∧ Below w.heap.size w w') := Lib.hid ((rBufs_any w v L _ hL (Nat.le_refl _)).mono fun e w' ⟨h1, h2⟩ => ⟨by rw [h1, hx], h2⟩)
  obtain ⟨ao, cap, rfl, hcp, hmx⟩ := hL.form
  have HR := Lib.hid h
  obtain ⟨fn, hfn⟩ : ∃ fn, freeN tk = fn := ⟨_, rfl⟩
  rw [hfn] at hf
  have HFN := Lib.hid hfn
  have hf' : (fn : Int) < (L.length : Int) := by omega
  clear h hL hx hfn
  go_enter Try.func80, Try.ntmps80
  go_wp2_with fail
  refine HC.out.mono ?_
  rintro e w1 ⟨rfl, hb⟩
  have HF : Hid (Calls Try.prog 81 #[.pointer (some ⟨R, 0, none⟩)] w1 fun e w' => e = .returned (.int .i64 (fn : Nat)) ∧ w1 = w') := Lib.hid ((rFree_any _ _ _ _ _ _ _ _ _ _ _ _ _ _ (HR.out.below hb) hq).mono fun e w' ⟨h1, h2⟩ => ⟨by rw [h1, HFN.out], h2.symm⟩)
  go_wp2_with fail
  refine HF.out.mono ?_
  rintro e w' ⟨rfl, rfl⟩
  go_wp2
  go_ret2
  exact ⟨rfl, hb⟩
end Go.Proofs.Ytfffehbipcikoaa
