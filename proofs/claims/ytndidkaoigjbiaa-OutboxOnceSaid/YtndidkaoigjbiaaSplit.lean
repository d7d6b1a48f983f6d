/- A region whose order is drawn, and whose last operations come in one forced order: the first ones by themselves, then the last ones one by one. Over any program. -/
import Derived.Test.YtndidkaoigjbiaaDraw
import Derived.StillTail
namespace Go.Proofs.Ytndidkaoigjbiaa
section
variable {P : Program} {Q : Exit → Act → World → Prop} {S : World → Prop}
/-- Behind the first operations: the last ones, one by one. -/
def tailQ (P : Program) (ops : Array Oper) (Q : Exit → Act → World → Prop) (tail : List Oper) : Exit → Act → World → Prop
  | .normal, a, w => wpList P ops Q tail a w
  | .exit id, a, w => Q (.exit id) a w
  | .goto l, a, w => Q (.goto l) a w
  | .ret, a, w => Q .ret a w
  | .panic c, a, w => Q (.panic c) a w
  | .outgrown, a, w => Q .outgrown a w
theorem wpAny_more {md : Region.Mode} {ops : Array Oper} : ∀ (f : Nat) (listed : Array Bool) (a : Act) (w : World), wpAny P md ops Q f listed a w → wpAny P md ops Q (f + 1) listed a w
  | 0, listed, a, w, h => ⟨fun _ => h.2, fun i hi => by rw [h.1] at hi; cases hi⟩
  | f + 1, listed, a, w, h => ⟨h.1, fun i hi => wpOp_mono (fun a' w' h' => wpAny_more f _ a' w' h') (h.2 i hi)⟩
theorem wpAny_moreN {md : Region.Mode} {ops : Array Oper} {f : Nat} {listed : Array Bool} {a : Act} {w : World} (h : wpAny P md ops Q f listed a w) : ∀ k, wpAny P md ops Q (f + k) listed a w
  | 0 => h
  | k + 1 => wpAny_more _ _ _ _ (wpAny_moreN h k)
theorem upon_tail {ops : Array Oper} {tail : List Oper} {o : Oper} {a : Act} {w : World} {K : Act → World → Prop} (h : o.wp P a w K (tailQ P ops Q tail)) : o.wp P a w K Q := by
  unfold Oper.wp at *
  generalize (execOp a.eval o).run P w = r at *
  cases r with
  | ok n w' => cases n <;> exact h
  | halt x w' => cases x <;> exact h
theorem wanted_head {l : List Oper} {n : Nat} {o : Oper} {tmps : Array Value} (h : ∀ g, o.guard = some g → g.1 < n) : Region.wanted o (yielded (l.take n).toArray tmps) = Region.wanted o (yielded l.toArray tmps) := by
  unfold Region.wanted
  cases hg : o.guard with
  | none => rfl
  | some gw =>
    obtain ⟨g, want⟩ := gw
    have hlt := h _ hg
    have hy : yielded (l.take n).toArray tmps g = yielded l.toArray tmps g := by
      unfold yielded
      simp [List.getElem?_take, hlt]
    simp only [hy]
theorem wpOp_head {l : List Oper} {n i : Nat} {o : Oper} {K : Act → World → Prop} {a : Act} {w : World} (hi : i < n) (ho : l[i]? = some o) (hg : ∀ g, o.guard = some g → g.1 < n)
    (h : wpOp P (l.take n).toArray (tailQ P l.toArray Q (l.drop n)) i K a w) : wpOp P l.toArray Q i K a w := by
  unfold wpOp at *
  have h1 : (l.take n).toArray[i]? = some o := by simp [List.getElem?_take, hi, ho]
  have h2 : l.toArray[i]? = some o := by simp [ho]
  simp only [h1] at h
  simp only [h2]
  rw [wanted_head hg] at h
  split
  · rename_i hw
    rw [if_pos hw] at h
    exact h.imp upon_tail id
  · rename_i hw
    rw [if_neg hw] at h
    exact h
theorem wpAny_split {l : List Oper} {n : Nat} (hn : n < l.length) (hs : Region.sinkB .any l.toArray n = true) (hc : Region.chainB .any l.toArray n = true)
    (hh : ∀ i, i < n → ∃ o, l[i]? = some o ∧ (∀ e ∈ o.after, Region.binds .any e = true → e.on < i) ∧ ∀ g, o.guard = some g → g.1 < n)
    (hq : Region.seqB .any l.toArray (l.length - n) n ((List.replicate n true ++ List.replicate (l.length - n) false).toArray) = true) :
    ∀ (f : Nat) (L L' : Array Bool) (a : Act) (w : World), HeadInv .any l.toArray n L → L'.size = n → (∀ j, j < n → L'[j]? = L[j]?) →
      wpAny P .any (l.take n).toArray (tailQ P l.toArray Q (l.drop n)) f L' a w → wpAny P .any l.toArray Q (f + (l.length - n)) L a w := by
  have hsz : l.toArray.size = l.length := by simp
  -- all of the first ones are there: the last ones, one by one
  have fin : ∀ (L : Array Bool) (a : Act) (w : World), HeadInv .any l.toArray n L → (∀ j, j < n → L[j]? = some true) → wpList P l.toArray Q (l.drop n) a w → wpAny P .any l.toArray Q (l.length - n) L a w := by
    intro L a w inv hall hw
    have hL : L = (List.replicate n true ++ List.replicate (l.length - n) false).toArray := by
      apply Array.ext'
      apply List.ext_getElem?
      intro j
      rw [Array.getElem?_toList]
      by_cases hj : j < n
      · rw [hall j hj, List.getElem?_append_left (by simpa using hj), List.getElem?_replicate, if_pos hj]
      · by_cases hj2 : j < l.length
        · have h1 := inv.tail j (by omega) (by rw [hsz]; exact hj2)
          have h2 : j < L.size := by rw [inv.size, hsz]; exact hj2
          rw [List.getElem?_append_right (by simp; omega), List.length_replicate, List.getElem?_replicate, if_pos (by omega), Array.getElem?_eq_getElem h2]
          congr 1
          simpa [h2] using h1
        · rw [Array.getElem?_eq_none (by rw [inv.size, hsz]; omega), List.getElem?_eq_none (by simp; omega)]
    have := wpAny_of_seq (md := .any) (P := P) (Q' := Q) (ops := l.toArray) (l.drop n) n L a w (fun j => by simp [List.getElem?_drop]) (by rw [List.length_drop, hL]; exact hq) hw
    rwa [List.length_drop] at this
  have rdy : ∀ (L L' : Array Bool), HeadInv .any l.toArray n L → L'.size = n → (∀ j, j < n → L'[j]? = L[j]?) → ∀ i, i < n → (i ∈ Region.ready .any l.toArray L ↔ i ∈ Region.ready .any (l.take n).toArray L') := by
    intro L L' inv hsz' heq i hi
    obtain ⟨o, ho, hae, _⟩ := hh i hi
    have e1 : L'.getD i true = L.getD i true := by rw [Array.getD_eq_getD_getElem?, Array.getD_eq_getD_getElem?, heq i hi]
    rw [mem_ready, mem_ready, e1]
    have o1 : l.toArray[i]? = some o := by simp [ho]
    have o2 : (l.take n).toArray[i]? = some o := by simp [List.getElem?_take, hi, ho]
    simp only [o1, o2, Option.some.injEq, exists_eq_left']
    have : ∀ e ∈ o.after, Region.binds .any e = true → L'.getD e.on false = L.getD e.on false := fun e he hb => by
      have := hae e he hb
      rw [Array.getD_eq_getD_getElem?, Array.getD_eq_getD_getElem?, heq e.on (by omega)]
    exact and_congr_right fun _ => ⟨fun h e he hb => by rw [this e he hb]; exact h e he hb, fun h e he hb => by rw [← this e he hb]; exact h e he hb⟩
  -- none of the first ones may come up: all are there
  have full : ∀ (L L' : Array Bool), HeadInv .any l.toArray n L → L'.size = n → (∀ j, j < n → L'[j]? = L[j]?) → Region.ready .any (l.take n).toArray L' = [] → ∀ j, j < n → L[j]? = some true := by
    intro L L' inv hsz' heq h0 j
    induction j using Nat.strongRecOn with
    | _ j ih =>
      intro hj
      have hjl : j < L.size := by rw [inv.size, hsz]; omega
      obtain ⟨o, ho, hae, _⟩ := hh j hj
      cases hb : L[j] with
      | true => rw [Array.getElem?_eq_getElem hjl, hb]
      | false =>
        exfalso
        have hm : j ∈ Region.ready .any l.toArray L := by
          rw [mem_ready]
          refine ⟨by simp [hjl, hb], o, by simp [ho], fun e he hbd => ?_⟩
          have := ih e.on (hae e he hbd) (by have := hae e he hbd; omega)
          rw [Array.getD_eq_getD_getElem?, this]
          rfl
        have := (rdy L L' inv hsz' heq j hj).1 hm
        rw [h0] at this
        cases this
  intro f
  induction f with
  | zero =>
    intro L L' a w inv hsz' heq h
    rw [Nat.zero_add]
    exact fin L a w inv (full L L' inv hsz' heq h.1) h.2
  | succ f ih =>
    intro L L' a w inv hsz' heq h
    by_cases h0 : Region.ready .any (l.take n).toArray L' = []
    · have := wpAny_moreN (fin L a w inv (full L L' inv hsz' heq h0) (h.1 h0)) (f + 1)
      rwa [Nat.add_comm] at this
    · obtain ⟨i0, hi0⟩ := List.exists_mem_of_ne_nil _ h0
      have hi0n : i0 < n := by
        obtain ⟨_, o, ho, _⟩ := mem_ready.1 hi0
        have := (Array.getElem?_eq_some_iff.1 ho).1
        simp at this
        omega
      have hi0r := (rdy L L' inv hsz' heq i0 hi0n).2 hi0
      rw [show f + 1 + (l.length - n) = (f + (l.length - n)) + 1 by omega]
      refine ⟨fun h1 => (by rw [h1] at hi0r; cases hi0r), fun i hi => ?_⟩
      have hin : i < n := by
        rcases Nat.lt_or_ge i n with h1 | h1
        · exact h1
        · exact absurd hi (tail_waits hs hc (by rw [hsz]; exact hn) inv (n - i0) i0 rfl hi0n (mem_ready.1 hi0r).1 i h1)
      obtain ⟨o, ho, hae, hg⟩ := hh i hin
      refine wpOp_head hin ho hg (wpOp_mono (fun a' w' h' => ?_) (h.2 i ((rdy L L' inv hsz' heq i hin).1 hi)))
      refine ih _ _ a' w' (inv.set hi hin) (by simp [hsz']) (fun j hj => ?_) h'
      rw [Array.getElem?_setIfInBounds, Array.getElem?_setIfInBounds, hsz', inv.size, hsz, heq j hj]
      by_cases hij : i = j
      · subst hij
        simp [hin, Nat.lt_trans hin hn]
      · simp [hij]
def headB (l : List Oper) (n : Nat) : Bool :=
  (List.range n).all fun i => match l[i]? with
    | some o => (o.after.all fun e => !Region.binds .any e || decide (e.on < i)) && (match o.guard with | none => true | some g => decide (g.1 < n))
    | none => false
/-- THE LAW. -/
theorem wp_region_split {id : Nat} {a : Act} {w : World} {l : List Oper} (n : Nat) (hm : P.follows .mixedOrders = true) (hn' : Nat.blt n l.length = true) (hs : Region.sinkB .any l.toArray n = true) (hc : Region.chainB .any l.toArray n = true) (hh : headB l n = true)
    (hq : Region.seqB .any l.toArray (l.length - n) n ((List.replicate n true ++ List.replicate (l.length - n) false).toArray) = true) (hS : S w.drew)
    (h : S w.drew → wpAnyH P .any (l.take n).toArray (tailQ P l.toArray Q (l.drop n)) S n (Array.replicate n false) a w.drew) : (Code.region id l.toArray true).wp P Q a w := by
  have hn : n < l.length := by simpa [Nat.blt_eq] using hn'
  unfold headB at hh
  refine wp_region_any hm ?_
  have hsz : l.toArray.size = n + (l.length - n) := by simp; omega
  rw [hsz]
  refine wpAny_split hn hs hc (fun i hi => ?_) hq n _ (Array.replicate n false) a _ ⟨by rw [Array.size_replicate, hsz], fun j oj _ hl => (by rw [getD_replicate_false] at hl; cases hl), fun t _ ht => getD_in (by rw [Array.size_replicate, ← hsz]; exact ht) (getD_replicate_false _ _)⟩ (by simp) (fun j hj => ?_) (wpAny_of_held _ _ _ _ (h hS))
  · have := List.all_eq_true.1 hh i (List.mem_range.2 hi)
    split at this
    · rename_i o ho
      simp only [Bool.and_eq_true] at this
      refine ⟨o, ho, fun e he hb => ?_, fun g hg => ?_⟩
      · have h3 := Array.all_eq_true'.1 this.1 e he
        simpa [hb] using h3
      · have h2 := this.2
        rw [hg] at h2
        simpa using h2
    · cases this
  · rw [Array.getElem?_replicate, Array.getElem?_replicate, if_pos hj, if_pos (Nat.lt_of_lt_of_le hj (Nat.le_add_right _ _))]
end
end Go.Proofs.Ytndidkaoigjbiaa
