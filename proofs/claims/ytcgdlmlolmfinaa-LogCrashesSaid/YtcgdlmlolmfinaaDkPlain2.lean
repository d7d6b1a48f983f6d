/- Plain law: a crash tears what was written since. -/
import Derived.Test.YtcgdlmlolmfinaaDkPlain
namespace Go.Proofs.Ytcgdlmlolmfinaa

theorem asc_ext : ∀ {l l' : List Int}, l.Pairwise (· < ·) → l'.Pairwise (· < ·) → (∀ x, x ∈ l ↔ x ∈ l') → l = l'
  | [], [], _, _, _ => rfl
  | [], b :: l', _, _, h => by have := (h b).2 (List.mem_cons_self ..); simp at this
  | a :: l, [], _, _, h => by have := (h a).1 (List.mem_cons_self ..); simp at this
  | a :: l, b :: l', h1, h2, h => by
    rw [List.pairwise_cons] at h1 h2
    have e : a = b := by
      have ha := (h a).1 (List.mem_cons_self ..)
      have hb := (h b).2 (List.mem_cons_self ..)
      rcases List.mem_cons.1 ha with e | ha
      · exact e
      · rcases List.mem_cons.1 hb with e | hb
        · exact e.symm
        · have := h1.1 b hb
          have := h2.1 a ha
          omega
    subst e
    rw [asc_ext h1.2 h2.2 (fun x => ?_)]
    have hx := h x
    simp only [List.mem_cons] at hx
    constructor
    · intro hm
      rcases hx.1 (.inr hm) with rfl | hm'
      · exact absurd (h1.1 _ hm) (by omega)
      · exact hm'
    · intro hm
      rcases hx.2 (.inr hm) with rfl | hm'
      · exact absurd (h2.1 _ hm) (by omega)
      · exact hm'
/-- What is picked for the k-th sector that was written. -/
def pickAt (picks : List Int) (k : Nat) : Nat := match picks[k]? with
  | none => 0
  | some p => ((p.tmod 66 + 64 + 2).tmod 66).toNat
theorem pickAt_lt (picks : List Int) (k : Nat) : pickAt picks k < 66 := by
  unfold pickAt
  split
  · omega
  · rename_i p _
    have h1 := Int.tmod_lt_of_pos (p.tmod 66 + 64 + 2) (b := 66) (by omega)
    omega
def tear (p : Nat) (old new : List UInt8) : List UInt8 := if p = 0 then old else if p = 1 then new else new.take (p - 1) ++ old.drop (p - 1)
theorem tear_length {p : Nat} {old new : List UInt8} (hp : p < 66) (ho : old.length = 64) (hn : new.length = 64) : (tear p old new).length = 64 := by
  unfold tear
  split
  · exact ho
  · split
    · exact hn
    · rw [List.length_append, List.length_take, List.length_drop]; omega
theorem tear_form {p : Nat} {old new : List UInt8} (hp : p < 66) (ho : old.length = 64) (hn : new.length = 64) : ∃ q, q ≤ 64 ∧ tear p old new = new.take q ++ old.drop q := by
  unfold tear
  split
  · exact ⟨0, by omega, by simp⟩
  · split
    · exact ⟨64, by omega, by rw [List.take_of_length_le (by omega), List.drop_eq_nil_of_le (by omega), List.append_nil]⟩
    · exact ⟨p - 1, by omega, rfl⟩
/-- A beginning of a sector is written. -/
theorem setSec_tear {K new : List UInt8} {n q : Nat} (h : 64 * n + 64 ≤ K.length) (hq : q ≤ 64) (hn : new.length = 64) :
    K.take (64 * n) ++ (new.take q ++ K.drop (64 * n + q)) = setSec K n (new.take q ++ (secN K n).drop q) := by
  unfold setSec secN
  rw [List.drop_take, List.drop_drop, List.append_assoc]
  congr 2
  have h1 : K.drop (64 * n + 64) = (K.drop (64 * n + q)).drop (64 - q) := by rw [List.drop_drop]; congr 1; omega
  rw [h1, List.take_append_drop]
theorem setSec_same {K : List UInt8} {n : Nat} (h : 64 * n + 64 ≤ K.length) : setSec K n (secN K n) = K := by
  have := setSec_tear (K := K) (new := List.replicate 64 0) (n := n) (q := 0) h (by omega) List.length_replicate
  simp only [List.take_zero, List.nil_append, List.drop_zero, Nat.add_zero, List.take_append_drop] at this
  exact this.symm

/-- The sectors of a list, one by one: those that were written are torn. -/
def crashGo (W : List (Int × List UInt8)) (picks : List Int) : List Nat → Nat → List UInt8 → List UInt8
  | [], _, cur => cur
  | n :: l, k, cur => match lookW W n with
    | none => crashGo W picks l k cur
    | some b => crashGo W picks l (k + 1) (setSec cur n (tear (pickAt picks k) (secN cur n) b))
def crashK (W : List (Int × List UInt8)) (picks : List Int) (K : List UInt8) : List UInt8 := crashGo W picks (List.range (K.length / 64)) 0 K
section
variable {W : List (Int × List UInt8)} {picks : List Int}
theorem crashGo_none {n : Nat} {l : List Nat} {k : Nat} {cur : List UInt8} (h : lookW W n = none) : crashGo W picks (n :: l) k cur = crashGo W picks l k cur := by
  rw [crashGo, h]
theorem crashGo_some {n : Nat} {l : List Nat} {k : Nat} {cur b : List UInt8} (h : lookW W n = some b) : crashGo W picks (n :: l) k cur = crashGo W picks l (k + 1) (setSec cur n (tear (pickAt picks k) (secN cur n) b)) := by
  rw [crashGo, h]
theorem crashGo_filter : ∀ (l : List Nat) (k : Nat) (cur : List UInt8), crashGo W picks (l.filter fun n => (lookW W n).isSome) k cur = crashGo W picks l k cur
  | [], _, _ => rfl
  | n :: l, k, cur => by
    cases h : lookW W n with
    | none => rw [List.filter_cons_of_neg (by rw [h]; simp), crashGo_none h, crashGo_filter l]
    | some b => rw [List.filter_cons_of_pos (by rw [h]; simp), crashGo_some h, crashGo_some h, crashGo_filter l]
variable (hW : ∀ p ∈ W, p.2.length = 64)
include hW in
theorem crashGo_sec : ∀ (l : List Nat) (k : Nat) (cur : List UInt8), l.Nodup → (∀ n ∈ l, 64 * n + 64 ≤ cur.length) →
    (crashGo W picks l k cur).length = cur.length ∧ (∀ n, n ∉ l → secN (crashGo W picks l k cur) n = secN cur n) ∧
    ∀ n ∈ l, ∃ q, q ≤ 64 ∧ secN (crashGo W picks l k cur) n = ((lookW W n).getD (secN cur n)).take q ++ (secN cur n).drop q
  | [], _, _, _, _ => ⟨rfl, fun _ _ => rfl, fun _ h => by cases h⟩
  | m :: l, k, cur, hn, hl => by
    rw [List.nodup_cons] at hn
    have hm := hl m (List.mem_cons_self ..)
    cases h : lookW W m with
    | none =>
      rw [crashGo_none h]
      obtain ⟨a, b, c⟩ := crashGo_sec l k cur hn.2 (fun n hn => hl n (List.mem_cons_of_mem _ hn))
      refine ⟨a, fun n hx => b n (fun hx' => hx (List.mem_cons_of_mem _ hx')), fun n hx => ?_⟩
      rcases List.mem_cons.1 hx with rfl | hx
      · exact ⟨0, by omega, by rw [b _ hn.1]; simp⟩
      · exact c n hx
    | some x =>
      rw [crashGo_some h]
      have hx64 : x.length = 64 := hW _ (lookW_mem h)
      have ht := tear_length (pickAt_lt picks k) (secN_length hm) hx64
      obtain ⟨q, hq, e⟩ := tear_form (pickAt_lt picks k) (secN_length hm) hx64
      obtain ⟨a, b, c⟩ := crashGo_sec l (k + 1) (setSec cur m (tear (pickAt picks k) (secN cur m) x)) hn.2 (fun n hn => by rw [setSec_length hm ht]; exact hl n (List.mem_cons_of_mem _ hn))
      refine ⟨by rw [a, setSec_length hm ht], fun n hx => ?_, fun n hx => ?_⟩
      · simp only [List.mem_cons, not_or] at hx
        rw [b n hx.2, secN_other hm ht hx.1]
      · rcases List.mem_cons.1 hx with rfl | hx
        · exact ⟨q, hq, by rw [b _ hn.1, secN_set hm ht, e, h]; rfl⟩
        · obtain ⟨q', hq', e'⟩ := c n hx
          have hne : n ≠ m := fun e => hn.1 (e ▸ hx)
          exact ⟨q', hq', by rw [e', secN_other hm ht hne]⟩
end
/-- The keys, in order, are the sectors that were written, in order. -/
theorem keys_are {W : List (Int × List UInt8)} {ks : List Int} {N : Nat} (hp : ks.Perm (W.map (·.1))) (hs : ks.Pairwise (· < ·)) (hN : ∀ p ∈ W, 0 ≤ p.1 ∧ p.1 < N) :
    ks = ((List.range N).filter fun n => (lookW W (n : Nat)).isSome).map (fun n : Nat => (n : Int)) := by
  refine asc_ext hs ?_ (fun x => ?_)
  · rw [List.pairwise_map]
    refine ((List.pairwise_lt_range).filter _).imp (fun h => ?_)
    omega
  · rw [hp.mem_iff, List.mem_map, List.mem_map]
    constructor
    · rintro ⟨p, hp, rfl⟩
      obtain ⟨h1, h2⟩ := hN p hp
      refine ⟨p.1.toNat, ?_, by omega⟩
      rw [List.mem_filter, List.mem_range]
      refine ⟨by omega, ?_⟩
      cases h : lookW W ((p.1.toNat : Nat) : Int) with
      | none => exact absurd (by omega) (lookW_none.1 h p hp)
      | some b => rfl
    · rintro ⟨n, hn, rfl⟩
      rw [List.mem_filter] at hn
      obtain ⟨b, hb⟩ := Option.isSome_iff_exists.1 hn.2
      exact ⟨_, lookW_mem hb, rfl⟩
end Go.Proofs.Ytcgdlmlolmfinaa
