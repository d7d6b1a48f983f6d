/- A record in sectors, plainly: what is laid, what reads it. What one request comes to, plainly. The calls of the log on a disk, as functions. -/
import Derived.Test.YtcgdlmlolmfinaaDkPlain2
import Derived.Test.YtcgdlmlolmfinaaDkNew
import Derived.Test.YtcgdlmlolmfinaaDkOps
namespace Go.Proofs.Ytcgdlmlolmfinaa
section
/-- The sectors of a record, plainly; what reads them. -/
def cut62 (l : List UInt8) (k : Nat) : List UInt8 := (l.drop (62 * k)).take 62
def secOf (kind : UInt8) (p : List UInt8) : List UInt8 := kind :: (p ++ (List.replicate (62 - p.length) 0 ++ [1]))
def kindOf (k : Nat) : UInt8 := if k = 0 then 1 else 2
def hdrOf (cb : List UInt8 → List UInt8) (s : List UInt8) : List UInt8 := UInt8.ofNat (s.length / 256) :: UInt8.ofNat s.length :: (cb s ++ s)
def secsN (n : Nat) : Nat := (n + 6 + 61) / 62
def layR (cb : List UInt8 → List UInt8) (s : List UInt8) : List (List UInt8) := (List.range (secsN s.length)).map fun k => secOf (kindOf k) (cut62 (hdrOf cb s) k)
def okSec (kind : UInt8) (b : List UInt8) : Bool := b[0]? == some kind && b[63]? == some 1
def bodyOf (b : List UInt8) : List UInt8 := (b.drop 1).take 62
def sizeOf2 (all : List UInt8) : Nat := 6 + (all[0]?.getD 0).toNat * 256 + (all[1]?.getD 0).toNat
def recGo (cb : List UInt8 → List UInt8) (E : Nat → List UInt8) (at_ : Nat) : Nat → Nat → UInt8 → List UInt8 → Nat → Option (List UInt8 × Nat)
  | 0, _, _, _, _ => none
  | f + 1, n, kind, all, size =>
    if 2048 ≤ at_ + n then none
    else if okSec kind (E (at_ + n)) = false then none
    else
      let all' := all ++ bodyOf (E (at_ + n))
      let size' := if n = 0 then sizeOf2 all' else size
      if all'.length < size' then recGo cb E at_ f (n + 1) 2 all' size'
      else if (all'.drop 2).take 4 = cb ((all'.drop 6).take (size' - 6)) then some ((all'.drop 6).take (size' - 6), n + 1) else none
def recE (cb : List UInt8 → List UInt8) (E : Nat → List UInt8) (at_ : Nat) : Option (List UInt8 × Nat) := recGo cb E at_ 2049 0 1 [] 6

section
variable {cb : List UInt8 → List UInt8} {E : Nat → List UInt8} {s : List UInt8} {at_ : Nat}
theorem secOf_len {kind : UInt8} {p : List UInt8} (h : p.length ≤ 62) : (secOf kind p).length = 64 := by
  simp [secOf]; omega
theorem secOf_ok {kind : UInt8} {p : List UInt8} (h : p.length ≤ 62) : okSec kind (secOf kind p) = true := by
  unfold okSec secOf
  have e : (kind :: (p ++ (List.replicate (62 - p.length) 0 ++ [1])))[63]? = some (1 : UInt8) := by
    rw [List.getElem?_cons_succ, List.getElem?_append_right (by omega), List.getElem?_append_right (by simp)]
    have : 62 - p.length - (List.replicate (62 - p.length) (0 : UInt8)).length = 0 := by simp
    rw [this]
    rfl
  rw [e]
  simp
theorem secOf_body {kind : UInt8} {p : List UInt8} (h : p.length ≤ 62) : bodyOf (secOf kind p) = p ++ List.replicate (62 - p.length) 0 := by
  unfold bodyOf secOf
  rw [List.drop_succ_cons, List.drop_zero, ← List.append_assoc, List.take_append_of_le_length (by simp; omega), List.take_of_length_le (by simp; omega)]
theorem cut62_len (l : List UInt8) (k : Nat) : (cut62 l k).length ≤ 62 := by unfold cut62; rw [List.length_take]; omega
theorem hdrOf_len (h4 : ∀ s, (cb s).length = 4) : (hdrOf cb s).length = s.length + 6 := by
  simp [hdrOf, h4]; omega
theorem take_cut (l : List UInt8) (k : Nat) : l.take (62 * k) ++ cut62 l k = l.take (62 * (k + 1)) := by
  unfold cut62
  rw [show 62 * (k + 1) = 62 * k + 62 by omega, List.take_add]
theorem size_hdr (hs : s.length < 65536) {r : List UInt8} {m : Nat} (hm : 2 ≤ m) : sizeOf2 ((hdrOf cb s).take m ++ r) = s.length + 6 := by
  obtain ⟨m, rfl⟩ : ∃ j, m = j + 2 := ⟨m - 2, by omega⟩
  unfold sizeOf2 hdrOf
  simp only [List.take_succ_cons, List.cons_append, List.getElem?_cons_zero, List.getElem?_cons_succ, Option.getD_some]
  rw [UInt8.toNat_ofNat', UInt8.toNat_ofNat']
  omega
theorem rec_step (h4 : ∀ s, (cb s).length = 4) (hs : s.length < 65536) (hE : ∀ k b, (layR cb s)[k]? = some b → E (at_ + k) = b) (hat : at_ + secsN s.length ≤ 2048) :
    ∀ (f k : Nat) (size : Nat), k < secsN s.length → secsN s.length - k < f → (k ≠ 0 → size = s.length + 6) →
      recGo cb E at_ f k (kindOf k) ((hdrOf cb s).take (62 * k)) size = some (s, secsN s.length) := by
  have hL := hdrOf_len (cb := cb) (s := s) h4
  have hN : secsN s.length = (s.length + 6 + 61) / 62 := rfl
  intro f
  induction f with
  | zero => intro k size _ h; omega
  | succ f ih =>
    intro k size hk hf hz
    have hb : (layR cb s)[k]? = some (secOf (kindOf k) (cut62 (hdrOf cb s) k)) := by
      unfold layR
      rw [List.getElem?_map, List.getElem?_range hk]
      rfl
    have hb := hE k _ hb
    have hc := cut62_len (hdrOf cb s) k
    rw [recGo, if_neg (by omega), hb, secOf_ok hc, secOf_body hc]
    rw [if_neg (by simp)]
    simp only
    rw [← List.append_assoc, take_cut]
    have hsz : (if k = 0 then sizeOf2 (List.take (62 * (k + 1)) (hdrOf cb s) ++ List.replicate (62 - (cut62 (hdrOf cb s) k).length) 0) else size) = s.length + 6 := by
      by_cases h0 : k = 0
      · rw [if_pos h0, size_hdr hs (by omega)]
      · rw [if_neg h0, hz h0]
    rw [hsz]
    have hlen : (List.take (62 * (k + 1)) (hdrOf cb s) ++ List.replicate (62 - (cut62 (hdrOf cb s) k).length) (0 : UInt8)).length = 62 * (k + 1) := by
      rw [List.length_append, List.length_take, List.length_replicate, cut62, List.length_take, List.length_drop, hL]
      omega
    rw [hlen]
    by_cases hlast : k + 1 < secsN s.length
    · rw [if_pos (by omega)]
      have hrep : List.replicate (62 - (cut62 (hdrOf cb s) k).length) (0 : UInt8) = [] := by
        have : (cut62 (hdrOf cb s) k).length = 62 := by rw [cut62, List.length_take, List.length_drop, hL]; omega
        rw [this]
        rfl
      rw [hrep, List.append_nil]
      have := ih (k + 1) (s.length + 6) hlast (by omega) (fun _ => rfl)
      rw [show kindOf (k + 1) = 2 by simp [kindOf]] at this
      exact this
    · have hke : k + 1 = secsN s.length := by omega
      rw [if_neg (by omega)]
      have htk : List.take (62 * (k + 1)) (hdrOf cb s) = hdrOf cb s := List.take_of_length_le (by rw [hL]; omega)
      rw [htk]
      have e1 : ((hdrOf cb s ++ List.replicate (62 - (cut62 (hdrOf cb s) k).length) 0).drop 2).take 4 = cb s := by
        unfold hdrOf
        simp only [List.cons_append, List.drop_succ_cons, List.drop_zero]
        rw [List.append_assoc, List.take_append_of_le_length (by rw [h4]; omega), List.take_of_length_le (by rw [h4]; omega)]
      have e2 : ((hdrOf cb s ++ List.replicate (62 - (cut62 (hdrOf cb s) k).length) 0).drop 6).take (s.length + 6 - 6) = s := by
        unfold hdrOf
        simp only [List.cons_append, List.drop_succ_cons]
        rw [List.append_assoc, show 4 = (cb s).length by rw [h4], List.drop_left, List.take_append_of_le_length (by omega), List.take_of_length_le (by omega)]
      rw [e1, e2, if_pos rfl, hke]
theorem rec_lay (h4 : ∀ s, (cb s).length = 4) (hs : s.length < 65536) (hE : ∀ k b, (layR cb s)[k]? = some b → E (at_ + k) = b) (hat : at_ + secsN s.length ≤ 2048) : recE cb E at_ = some (s, secsN s.length) := by
  have hp : 0 < secsN s.length := by unfold secsN; omega
  have := rec_step h4 hs hE hat 2049 0 6 hp (by omega) (fun h => absurd rfl h)
  rw [Nat.mul_zero, List.take_zero, show kindOf 0 = 1 from rfl] at this
  exact this
theorem rec_none (h : okSec 1 (E at_) = false) : recE cb E at_ = none := by
  unfold recE
  rw [recGo]
  simp only [Nat.add_zero]
  split
  · rfl
  · rfl
end
end
section
/-- What a sector holds: what was written to it since, or what is kept. -/
def secE (s : DS) (n : Nat) : List UInt8 := (lookW s.W (n : Nat)).getD (secN s.K n)
def rdS (s : DS) (n : Nat) : List UInt8 × Int × DS :=
  if (askS s 0 n [] (isS s.K n)).2.1 ≠ 0 then ([], (askS s 0 n [] (isS s.K n)).2.1, (askS s 0 n [] (isS s.K n)).2.2)
  else ((compS (askS s 0 n [] (isS s.K n)).2.2 0).2.1, (compS (askS s 0 n [] (isS s.K n)).2.2 0).2.2.1, (compS (askS s 0 n [] (isS s.K n)).2.2 0).2.2.2)
def wrS (s : DS) (n : Nat) (b : List UInt8) : Int × DS :=
  if (askS s 1 n b (isS s.K n && b.length == 64)).2.1 ≠ 0 then ((askS s 1 n b (isS s.K n && b.length == 64)).2.1, (askS s 1 n b (isS s.K n && b.length == 64)).2.2)
  else ((compS (askS s 1 n b (isS s.K n && b.length == 64)).2.2 0).2.2.1, (compS (askS s 1 n b (isS s.K n && b.length == 64)).2.2 0).2.2.2)
def flS (s : DS) : Int × DS :=
  if (askS s 2 0 [] true).2.1 ≠ 0 then ((askS s 2 0 [] true).2.1, (askS s 2 0 [] true).2.2)
  else ((compS (askS s 2 0 [] true).2.2 0).2.2.1, (compS (askS s 2 0 [] true).2.2 0).2.2.2)

/-- A disk that is on, without requests that wait. -/
structure On (s : DS) : Prop where
  off : s.off = false
  q : s.Q = []
  len : s.K.length = 262144
  w64 : ∀ p ∈ s.W, p.2.length = 64
/-- The power is off; nothing was done. -/
structure Gone (s s' : DS) : Prop where
  off : s'.off = true
  K : s'.K = s.K
  W : s'.W = s.W
  last : s'.last ≤ s.last + 1
  armed : s.armed = true
  armed' : s'.armed = true
section
variable {s s' : DS} {n : Nat} {b : List UInt8}
theorem callS_cases (h : s.off = false) : (callS s).off = false ∨ ((callS s).off = true ∧ s.armed = true) := by
  unfold callS
  by_cases ha : s.armed = true
  · rw [if_pos ⟨ha, h⟩]
    by_cases hl : s.lft - 1 < 1
    · right; simp [hl, ha]
    · left; simp [hl]
  · rw [if_neg (fun x => ha x.1)]
    exact .inl h
theorem callS_lft (h : s.armed = false) : callS s = s := by unfold callS; rw [if_neg (by simp [h])]
theorem isS_nat {K : List UInt8} (hK : K.length = 262144) (hn : n < 4096) : isS K n = true := by
  unfold isS
  simp only [Bool.and_eq_true, decide_eq_true_eq]
  omega
/-- What an operation that went well has done. -/
structure Did (s s' : DS) : Prop where
  on : On s'
  last : s'.last = s.last + 1
  armed : s'.armed = s.armed
structure Asked (s t : DS) (q : Rq) : Prop where
  off : t.off = false
  K : t.K = s.K
  W : t.W = s.W
  Q : t.Q = [q]
  last : t.last = s.last + 1
  armed : t.armed = s.armed
theorem ask_on (h : On s) (kind m : Int) (b : List UInt8) : (∃ t, askS s kind m b true = (s.last + 1, 0, t) ∧ Asked s t ⟨s.last + 1, kind, m, b⟩) ∨ ∃ t, askS s kind m b true = (0, 10, t) ∧ Gone s t := by
  obtain ⟨k1, k2, k3, k4, k5⟩ := callS_K (s := s)
  rcases callS_cases h.off with h1 | ⟨h1, ha⟩
  · left
    refine ⟨{ callS s with last := s.last + 1, Q := [⟨s.last + 1, kind, m, b⟩] }, ?_, h1, k1, k2, rfl, rfl, k5⟩
    unfold askS
    simp [h1, k3, k4, h.q]
  · right
    refine ⟨callS s, ?_, h1, k1, k2, by rw [k4]; omega, ha, by rw [k5]; exact ha⟩
    unfold askS
    simp [h1]
theorem comp_on {t : DS} {q : Rq} (h : On s) (ht : Asked s t q) : (∃ u, (callS t).off = false ∧ u = { callS t with Q := [] } ∧ On u ∧ Did s u ∧ u.K = s.K ∧ u.W = s.W ∧
      compS t 0 = (if q.kind = 1 then (q.id, [], 0, { u with W := updW u.W q.n q.b }) else if q.kind = 2 then (q.id, [], 0, { u with K := flushK u.K u.W, W := [] }) else (q.id, (lookW u.W q.n).getD (secN u.K q.n.toNat), 0, u))) ∨ ∃ u, compS t 0 = (0, [], 10, u) ∧ Gone s u := by
  obtain ⟨k1, k2, k3, k4, k5⟩ := callS_K (s := t)
  rcases callS_cases ht.off with h1 | ⟨h1, ha⟩
  · left
    have hon : On { callS t with Q := [] } := ⟨h1, rfl, by show (callS t).K.length = _; rw [k1, ht.K]; exact h.len, by show ∀ p ∈ (callS t).W, _; rw [k2, ht.W]; exact h.w64⟩
    refine ⟨{ callS t with Q := [] }, h1, rfl, hon, ⟨hon, by show (callS t).last = _; rw [k4, ht.last], by show (callS t).armed = _; rw [k5, ht.armed]⟩, by show (callS t).K = _; rw [k1, ht.K], by show (callS t).W = _; rw [k2, ht.W], ?_⟩
    have hQ : (callS t).Q = [q] := by rw [k3, ht.Q]
    unfold compS
    simp [h1, hQ]
  · right
    refine ⟨callS t, by unfold compS; simp [h1], h1, by rw [k1, ht.K], by rw [k2, ht.W], by rw [k4, ht.last]; omega, by rw [← ht.armed]; exact ha, by rw [k5]; exact ha⟩
theorem rdS_on (h : On s) (hn : n < 4096) : (∃ s', rdS s n = (secE s n, 0, s') ∧ Did s s' ∧ s'.K = s.K ∧ s'.W = s.W) ∨ ∃ s', rdS s n = ([], 10, s') ∧ Gone s s' := by
  unfold rdS
  rw [isS_nat h.len hn]
  rcases ask_on h 0 n [] with ⟨t, e, ht⟩ | ⟨t, e, ht⟩
  · rw [e]
    simp only [ne_eq, not_true_eq_false, if_false]
    rcases comp_on h ht with ⟨u, _, _, hu, hd, uK, uW, e2⟩ | ⟨u, e2, hu⟩
    · left
      rw [e2]
      exact ⟨u, by simp [uK, uW, secE], hd, uK, uW⟩
    · right
      rw [e2]
      exact ⟨u, rfl, hu⟩
  · right
    rw [e]
    exact ⟨t, rfl, ht⟩
theorem wrS_on (h : On s) (hn : n < 4096) (hb : b.length = 64) : (∃ s', wrS s n b = (0, s') ∧ Did s s' ∧ s'.K = s.K ∧ s'.W = updW s.W n b) ∨ ∃ s', wrS s n b = (10, s') ∧ Gone s s' := by
  unfold wrS
  rw [isS_nat h.len hn, hb]
  rcases ask_on h 1 n b with ⟨t, e, ht⟩ | ⟨t, e, ht⟩
  · simp only [Bool.true_and, beq_self_eq_true]
    rw [e]
    simp only [ne_eq, not_true_eq_false, if_false]
    rcases comp_on h ht with ⟨u, _, _, hu, hd, uK, uW, e2⟩ | ⟨u, e2, hu⟩
    · left
      rw [e2]
      refine ⟨{ u with W := updW u.W n b }, by simp, ⟨⟨hu.off, hu.q, hu.len, ?_⟩, hd.last, hd.armed⟩, uK, by show updW u.W n b = _; rw [uW]⟩
      intro p hp
      have hp : p ∈ updW u.W n b := hp
      unfold updW at hp
      split at hp
      · obtain ⟨q, hq, rfl⟩ := List.mem_map.1 hp
        split
        · exact hb
        · exact hu.w64 q hq
      · rcases List.mem_append.1 hp with hp | hp
        · exact hu.w64 p hp
        · simp only [List.mem_singleton] at hp; subst hp; exact hb
    · right
      rw [e2]
      exact ⟨u, rfl, hu⟩
  · right
    simp only [Bool.true_and, beq_self_eq_true]
    rw [e]
    exact ⟨t, rfl, ht⟩
theorem flS_on (h : On s) : (∃ s', flS s = (0, s') ∧ Did s s' ∧ s'.K = flushK s.K s.W ∧ s'.W = []) ∨ ∃ s', flS s = (10, s') ∧ Gone s s' := by
  unfold flS
  rcases ask_on h 2 0 [] with ⟨t, e, ht⟩ | ⟨t, e, ht⟩
  · rw [e]
    simp only [ne_eq, not_true_eq_false, if_false]
    rcases comp_on h ht with ⟨u, _, _, hu, hd, uK, uW, e2⟩ | ⟨u, e2, hu⟩
    · left
      rw [e2]
      refine ⟨{ u with K := flushK u.K u.W, W := [] }, by simp, ⟨⟨hu.off, hu.q, ?_, by simp⟩, hd.last, hd.armed⟩, by show flushK u.K u.W = _; rw [uK, uW], rfl⟩
      show (flushK u.K u.W).length = _
      rw [flushK_length (by rw [hu.len]) hu.w64]
      exact hu.len
    · right
      rw [e2]
      exact ⟨u, rfl, hu⟩
  · right
    rw [e]
    exact ⟨t, rfl, ht⟩
end
end
section
section
variable {s s' : DS} {n m : Nat} {b : List UInt8}
theorem secE_wr (hK : s'.K = s.K) (hW : s'.W = updW s.W n b) : secE s' m = if m = n then b else secE s m := by
  unfold secE
  rw [hK, hW, lookW_upd]
  by_cases h : m = n
  · subst h; simp
  · rw [if_neg (by omega), if_neg h]
theorem secE_same (hK : s'.K = s.K) (hW : s'.W = s.W) : secE s' m = secE s m := by
  unfold secE; rw [hK, hW]
theorem secE_fl (h : On s) (hm : m < 4096) (hK : s'.K = flushK s.K s.W) (hW : s'.W = []) : secE s' m = secE s m := by
  unfold secE
  rw [hK, hW, flushK_sec h.w64 (by rw [h.len]; omega)]
  rfl
theorem secE_len (h : On s) (hm : m < 4096) : (secE s m).length = 64 := by
  unfold secE
  cases e : lookW s.W (m : Nat) with
  | none => exact secN_length (by rw [h.len]; omega)
  | some x => exact h.w64 _ (lookW_mem e)
end
/-! What the log does, on the disk as it is. -/
def zero64 : List UInt8 := List.replicate 64 0
structure LS where
  d : DS
  l : List (List UInt8)
  size : Nat
  region : Nat
  gen : Int
  at_ : Nat
  dead : Bool
def recD (cb : List UInt8 → List UInt8) (base at_ : Nat) : Nat → DS → Nat → UInt8 → List UInt8 → Nat → (List UInt8 × Nat × Int) × DS
  | 0, s, _, _, _, _ => (([], 0, 0), s)
  | f + 1, s, n, kind, all, size =>
    if 2048 ≤ at_ + n then (([], 0, 0), s)
    else
      let r := rdS s (base + at_ + n)
      if r.2.1 ≠ 0 then (([], 0, r.2.1), r.2.2)
      else if okSec kind r.1 = false then (([], 0, 0), r.2.2)
      else
        let all' := all ++ bodyOf r.1
        let size' := if n = 0 then sizeOf2 all' else size
        if all'.length < size' then recD cb base at_ f r.2.2 (n + 1) 2 all' size'
        else if (all'.drop 2).take 4 = cb ((all'.drop 6).take (size' - 6)) then (((all'.drop 6).take (size' - 6), n + 1, 0), r.2.2) else (([], 0, 0), r.2.2)
def recS (cb : List UInt8 → List UInt8) (s : DS) (region at_ : Nat) : (List UInt8 × Nat × Int) × DS := recD cb (region * 2048) at_ 2049 s 0 1 [] 6
def allZero (b : List UInt8) : Bool := b.all (· == 0)
/-- From sector n on, so many. -/
def cleanD (base : Nat) : Nat → DS → Nat → Bool → Int × DS
  | 0, s, _, dirty => if dirty then flS s else (0, s)
  | f + 1, s, n, dirty =>
    let r := rdS s (base + n)
    if r.2.1 ≠ 0 then (r.2.1, r.2.2)
    else if allZero r.1 then cleanD base f r.2.2 (n + 1) dirty
    else
      let w := wrS r.2.2 (base + n) zero64
      if w.1 ≠ 0 then w else cleanD base f w.2 (n + 1) true
def cleanS (s : DS) (region at_ : Nat) : Int × DS := cleanD (region * 2048) (2048 - at_) s at_ false
def putD (base : Nat) : List (List UInt8) → DS → Nat → Nat × Int × DS
  | [], s, at_ => (at_, 0, s)
  | b :: r, s, at_ =>
    let w := wrS s (base + at_) b
    if w.1 ≠ 0 then (at_, w.1, w.2) else putD base r w.2 (at_ + 1)
def putS (cb : List UInt8 → List UInt8) (s : DS) (region at_ : Nat) (x : List UInt8) : Nat × Int × DS := putD (region * 2048) (layR cb x) s at_
def putsD (cb : List UInt8 → List UInt8) (region : Nat) : List (List UInt8) → DS → Nat → Nat × Int × DS
  | [], s, at_ => (at_, 0, s)
  | x :: r, s, at_ =>
    let p := putS cb s region at_ x
    if p.2.1 ≠ 0 then (0, p.2.1, p.2.2) else putsD cb region r p.2.2 p.1
def leV : List UInt8 → Nat
  | [] => 0
  | b :: r => b.toNat + 256 * leV r
def genV (b : List UInt8) : Int := if b[63]? = some 1 then IntKind64 (leV (b.take 8)) else 0
where IntKind64 (n : Nat) : Int := if n < 9223372036854775808 then n else (n : Int) - 18446744073709551616
def genS (s : DS) (region : Nat) : Int × Int × DS :=
  let r := rdS s (region * 2048)
  if r.2.1 ≠ 0 ∨ r.1[63]? ≠ some 1 then (0, r.2.1, r.2.2) else (genV r.1, 0, r.2.2)
def superB (gen : Int) : List UInt8 := (List.range 8).map (fun i => UInt8.ofNat ((gen / 256 ^ i) % 256).toNat) ++ List.replicate 55 0 ++ [if 0 < gen then 1 else 0]
def superS (s : DS) (region : Nat) (gen : Int) : Int × DS :=
  let w := wrS s (region * 2048) (superB gen)
  if w.1 ≠ 0 then w else flS w.2
def loadD (cb : List UInt8 → List UInt8) (region : Nat) : Nat → DS → Nat → List (List UInt8) → Nat → Int × Nat × List (List UInt8) × Nat × DS
  | 0, s, at_, l, size => (0, at_, l, size, s)
  | f + 1, s, at_, l, size =>
    let r := recS cb s region at_
    if r.1.2.2 ≠ 0 then (r.1.2.2, at_, l, size, r.2)
    else if r.1.2.1 = 0 then (0, at_, l, size, r.2)
    else loadD cb region f r.2 (at_ + r.1.2.1) (l ++ [r.1.1]) (size + r.1.1.length + 128)
/-- A disk's log; the error. -/
def openS (cb : List UInt8 → List UInt8) (s : DS) : Int × LS :=
  let a := genS s 0
  if a.2.1 ≠ 0 then (a.2.1, ⟨a.2.2, [], 0, 0, 0, 1, false⟩)
  else
    let b := genS a.2.2 1
    if b.2.1 ≠ 0 then (b.2.1, ⟨b.2.2, [], 0, 0, 0, 1, false⟩)
    else
      let region := if a.1 < b.1 then 1 else 0
      let gen := if a.1 < b.1 then b.1 else a.1
      let r := loadD cb region 2049 b.2.2 1 [] 0
      if r.1 ≠ 0 then (r.1, ⟨r.2.2.2.2, r.2.2.1, r.2.2.2.1, region, gen, r.2.1, false⟩)
      else
        let c := cleanS r.2.2.2.2 region r.2.1
        if c.1 ≠ 0 then (c.1, ⟨c.2, r.2.2.1, r.2.2.2.1, region, gen, r.2.1, false⟩)
        else ((flS c.2).1, ⟨(flS c.2).2, r.2.2.1, r.2.2.2.1, region, gen, r.2.1, false⟩)
def appendS (cb : List UInt8 → List UInt8) (L : LS) (x : List UInt8) : Int × LS :=
  if L.dead then (10, L)
  else if 16384 < x.length then (1, L)
  else if 65536 < x.length + 128 + L.size then (5, L)
  else
    let p := putS cb L.d L.region L.at_ x
    if p.2.1 ≠ 0 then (p.2.1, { L with d := p.2.2, dead := true })
    else (0, { L with d := p.2.2, l := L.l ++ [x], size := L.size + x.length + 128, at_ := p.1 })
def syncS (L : LS) : Int × LS :=
  if L.dead then (10, L) else ((flS L.d).1, { L with d := (flS L.d).2, dead := decide ((flS L.d).1 ≠ 0) })
/-- How much records are: 0 and the error, if they may not be. -/
def countD : List (List UInt8) → Nat → Bool → Nat × Int
  | [], n, full => if full then (0, 5) else (n, 0)
  | x :: r, n, full =>
    if 16384 < x.length then (0, 1)
    else if full || decide (65536 < x.length + 128 + n) then countD r n true else countD r (n + x.length + 128) false
def renewS (cb : List UInt8 → List UInt8) (L : LS) (l : List (List UInt8)) : Nat × Int × DS :=
  let r := 1 - L.region
  let a := superS L.d r 0
  if a.1 ≠ 0 then (0, a.1, a.2)
  else
    let c := cleanS a.2 r 1
    if c.1 ≠ 0 then (0, c.1, c.2)
    else
      let p := putsD cb r l c.2 1
      if p.2.1 ≠ 0 then (0, p.2.1, p.2.2)
      else
        let f := flS p.2.2
        if f.1 ≠ 0 then (0, f.1, f.2)
        else (p.1, (superS f.2 r (L.gen + 1)).1, (superS f.2 r (L.gen + 1)).2)
def resetS (cb : List UInt8 → List UInt8) (L : LS) (l : List (List UInt8)) : Int × LS :=
  if L.dead then (10, L)
  else if (countD l 0 false).2 ≠ 0 then ((countD l 0 false).2, L)
  else
    let p := renewS cb L l
    if p.2.1 ≠ 0 then (p.2.1, { L with d := p.2.2, dead := true })
    else (0, ⟨p.2.2, l, (countD l 0 false).1, 1 - L.region, L.gen + 1, p.1, L.dead⟩)
end
end Go.Proofs.Ytcgdlmlolmfinaa
