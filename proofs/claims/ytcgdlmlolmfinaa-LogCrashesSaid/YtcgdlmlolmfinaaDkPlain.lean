/- Plain law: sectors of 64 bytes; what was written since. -/
import Derived.Test.YtcgdlmlolmfinaaKit
namespace Go.Proofs.Ytcgdlmlolmfinaa

def secN (K : List UInt8) (n : Nat) : List UInt8 := (K.drop (64 * n)).take 64
def setSec (K : List UInt8) (n : Nat) (b : List UInt8) : List UInt8 := K.take (64 * n) ++ (b ++ K.drop (64 * n + 64))
section
variable {K K' b : List UInt8} {n m : Nat}
theorem secN_at (i : Nat) (hi : i < 64) : (secN K n)[i]? = K[64 * n + i]? := by
  unfold secN
  rw [List.getElem?_take, if_pos hi, List.getElem?_drop]
theorem secN_length (h : 64 * n + 64 ≤ K.length) : (secN K n).length = 64 := by
  unfold secN
  rw [List.length_take, List.length_drop]
  omega
theorem setSec_length (h : 64 * n + 64 ≤ K.length) (hb : b.length = 64) : (setSec K n b).length = K.length := by
  unfold setSec
  rw [List.length_append, List.length_append, List.length_take, List.length_drop, hb]
  omega
theorem setSec_at (h : 64 * n + 64 ≤ K.length) (hb : b.length = 64) (i : Nat) : (setSec K n b)[i]? = if 64 * n ≤ i ∧ i < 64 * n + 64 then b[i - 64 * n]? else K[i]? := by
  unfold setSec
  have ht : (K.take (64 * n)).length = 64 * n := by rw [List.length_take]; omega
  by_cases h1 : i < 64 * n
  · rw [List.getElem?_append_left (by omega), List.getElem?_take, if_pos h1, if_neg (by omega)]
  · rw [List.getElem?_append_right (by omega), ht]
    by_cases h2 : i < 64 * n + 64
    · rw [List.getElem?_append_left (by omega), if_pos (by omega)]
    · rw [List.getElem?_append_right (by omega), hb, List.getElem?_drop, if_neg (by omega)]
      congr 1
      omega
theorem secN_set (h : 64 * n + 64 ≤ K.length) (hb : b.length = 64) : secN (setSec K n b) n = b := by
  apply List.ext_getElem?
  intro i
  by_cases hi : i < 64
  · rw [secN_at i hi, setSec_at h hb, if_pos (by omega)]
    congr 1
    omega
  · rw [List.getElem?_eq_none (by rw [secN_length (by rw [setSec_length h hb]; exact h)]; omega), List.getElem?_eq_none (by omega)]
theorem secN_other (h : 64 * n + 64 ≤ K.length) (hb : b.length = 64) (hne : m ≠ n) : secN (setSec K n b) m = secN K m := by
  apply List.ext_getElem?
  intro i
  by_cases hi : i < 64
  · rw [secN_at i hi, secN_at i hi, setSec_at h hb, if_neg (by omega)]
  · unfold secN
    rw [List.getElem?_eq_none (by rw [List.length_take]; omega), List.getElem?_eq_none (by rw [List.length_take]; omega)]
theorem sec_ext (hl : K.length = K'.length) (h64 : K.length % 64 = 0) (h : ∀ n, 64 * n + 64 ≤ K.length → secN K n = secN K' n) : K = K' := by
  apply List.ext_getElem?
  intro i
  by_cases hi : i < K.length
  · have h1 := h (i / 64) (by omega)
    have h2 : (secN K (i / 64))[i % 64]? = (secN K' (i / 64))[i % 64]? := by rw [h1]
    rw [secN_at _ (by omega), secN_at _ (by omega), show 64 * (i / 64) + i % 64 = i by omega] at h2
    exact h2
  · rw [List.getElem?_eq_none (by omega), List.getElem?_eq_none (by omega)]
end
/-- Blocks of 64, one behind the other. -/
theorem flat_len {f : Nat → List UInt8} : ∀ (N : Nat), (∀ n, n < N → (f n).length = 64) → ((List.range N).flatMap f).length = 64 * N
  | 0, _ => by simp
  | N + 1, h => by
    rw [List.range_succ, List.flatMap_append, List.length_append, flat_len N (fun n hn => h n (by omega))]
    simp [h N (by omega)]
    omega
theorem flat_at {f : Nat → List UInt8} : ∀ (N n : Nat), (∀ n, n < N → (f n).length = 64) → n < N → secN ((List.range N).flatMap f) n = f n
  | 0, _, _, hn => by omega
  | N + 1, n, h, hn => by
    have hl := flat_len N (fun n hn => h n (by omega))
    rw [List.range_succ, List.flatMap_append]
    unfold secN
    by_cases hN : n < N
    · rw [List.drop_append_of_le_length (by omega), List.take_append_of_le_length (by rw [List.length_drop]; omega)]
      exact flat_at N n (fun n hn => h n (by omega)) hN
    · have : n = N := by omega
      subst this
      rw [List.drop_append, List.drop_eq_nil_of_le (by omega), hl, Nat.sub_self, List.nil_append]
      simp [h n (by omega), List.take_of_length_le]

def lookW (W : List (Int × List UInt8)) (n : Int) : Option (List UInt8) := (W.find? (·.1 == n)).map (·.2)
def updW (W : List (Int × List UInt8)) (n : Int) (b : List UInt8) : List (Int × List UInt8) := if (lookW W n).isSome then W.map (fun p => if p.1 = n then (n, b) else p) else W ++ [(n, b)]
theorem lookW_none {W : List (Int × List UInt8)} {n : Int} : lookW W n = none ↔ ∀ p ∈ W, p.1 ≠ n := by
  unfold lookW
  rw [Option.map_eq_none_iff, List.find?_eq_none]
  exact ⟨fun h p hp e => h p hp (by simp [e]), fun h p hp e => h p hp (by simpa using e)⟩
theorem lookW_mem {W : List (Int × List UInt8)} {n : Int} {b : List UInt8} (h : lookW W n = some b) : (n, b) ∈ W := by
  unfold lookW at h
  rw [Option.map_eq_some_iff] at h
  obtain ⟨p, hp, rfl⟩ := h
  have h1 := List.mem_of_find?_eq_some hp
  have h2 := List.find?_some hp
  simp at h2
  rw [← h2]
  exact h1
theorem lookW_of_mem {W : List (Int × List UInt8)} (hn : (W.map (·.1)).Nodup) {n : Int} {b : List UInt8} (h : (n, b) ∈ W) : lookW W n = some b := by
  induction W with
  | nil => simp at h
  | cons p W ih =>
    rw [List.map_cons, List.nodup_cons] at hn
    rcases List.mem_cons.1 h with rfl | h
    · simp [lookW]
    · have hne : p.1 ≠ n := fun e => hn.1 (e ▸ List.mem_map_of_mem h)
      have := ih hn.2 h
      unfold lookW at this ⊢
      rw [List.find?_cons_of_neg (by simpa using hne)]
      exact this
theorem lookW_cons {p : Int × List UInt8} {W : List (Int × List UInt8)} {m : Int} : lookW (p :: W) m = if p.1 = m then some p.2 else lookW W m := by
  unfold lookW
  by_cases h : p.1 = m
  · rw [List.find?_cons_of_pos (by simpa using h), if_pos h]
    rfl
  · rw [List.find?_cons_of_neg (by simpa using h), if_neg h]
theorem lookW_map {n m : Int} {b : List UInt8} : ∀ W : List (Int × List UInt8), lookW (W.map (fun p => if p.1 = n then (n, b) else p)) m = if m = n then (lookW W n).map (fun _ => b) else lookW W m
  | [] => by simp [lookW]
  | p :: W => by
    rw [List.map_cons, lookW_cons, lookW_cons, lookW_cons, lookW_map W]
    by_cases h1 : p.1 = n
    · rw [if_pos h1, if_pos h1]
      by_cases h2 : m = n
      · rw [if_pos h2.symm, if_pos h2]
        rfl
      · rw [if_neg (fun e => h2 e.symm), if_neg h2, if_neg h2, if_neg (fun e => h2 (e.symm.trans h1))]
    · rw [if_neg h1, if_neg h1]
      by_cases h2 : m = n
      · rw [if_pos h2, if_pos h2, if_neg (fun e => h1 (e.trans h2))]
      · rw [if_neg h2, if_neg h2]
theorem lookW_snoc {n m : Int} {b : List UInt8} : ∀ W : List (Int × List UInt8), lookW (W ++ [(n, b)]) m = (lookW W m).orElse (fun _ => if n = m then some b else none)
  | [] => by rw [List.nil_append, lookW_cons]; rfl
  | p :: W => by
    rw [List.cons_append, lookW_cons, lookW_cons, lookW_snoc W]
    split <;> rfl
theorem lookW_upd {W : List (Int × List UInt8)} {n m : Int} {b : List UInt8} : lookW (updW W n b) m = if m = n then some b else lookW W m := by
  unfold updW
  split
  · rename_i hs
    rw [lookW_map]
    split
    · obtain ⟨x, hx⟩ := Option.isSome_iff_exists.1 hs
      rw [hx]
      rfl
    · rfl
  · rename_i hs
    have hn : lookW W n = none := by simpa using hs
    rw [lookW_snoc]
    by_cases h2 : m = n
    · subst h2
      simp [hn]
    · rw [if_neg (fun e => h2 e.symm), if_neg h2]
      cases lookW W m <;> rfl
/-- All that was written is kept. -/
def flushK (K : List UInt8) (W : List (Int × List UInt8)) : List UInt8 := (List.range (K.length / 64)).flatMap fun n => (lookW W (n : Nat)).getD (secN K n)
section
variable {K K' : List UInt8} {W : List (Int × List UInt8)}
theorem flush_sec64 (hW : ∀ p ∈ W, p.2.length = 64) (n : Nat) (hn : n < K.length / 64) : ((lookW W (n : Nat)).getD (secN K n)).length = 64 := by
  cases h : lookW W (n : Nat) with
  | none => exact secN_length (by omega)
  | some b => exact hW _ (lookW_mem h)
theorem flushK_length (h64 : K.length % 64 = 0) (hW : ∀ p ∈ W, p.2.length = 64) : (flushK K W).length = K.length := by
  unfold flushK
  rw [flat_len _ (fun n hn => flush_sec64 hW n hn)]
  omega
theorem flushK_sec (hW : ∀ p ∈ W, p.2.length = 64) {n : Nat} (hn : 64 * n + 64 ≤ K.length) : secN (flushK K W) n = (lookW W (n : Nat)).getD (secN K n) := by
  unfold flushK
  exact flat_at _ _ (fun n hn => flush_sec64 hW n hn) (by omega)
theorem flushK_ext (h64 : K.length % 64 = 0) (hW : ∀ p ∈ W, p.2.length = 64) (hl : K'.length = K.length) (h : ∀ n : Nat, 64 * n + 64 ≤ K.length → secN K' n = (lookW W (n : Nat)).getD (secN K n)) : K' = flushK K W :=
  sec_ext (by rw [hl, flushK_length h64 hW]) (by omega) (fun n hn => by rw [flushK_sec hW (by omega)]; exact h n (by omega))
end
end Go.Proofs.Ytcgdlmlolmfinaa
