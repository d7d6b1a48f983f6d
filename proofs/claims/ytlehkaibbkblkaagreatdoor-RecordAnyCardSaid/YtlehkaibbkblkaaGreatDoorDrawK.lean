/- A region whose order is drawn, where what is held is held only until operation k comes up; k and all behind it come in one forced order. (After the library's wpAnyH and its laws.) Over any program. -/
import Derived.Test.YtlehkaibbkblkaaGreatDoorGa
import Derived.StillTail
namespace Go.Proofs.YtlehkaibbkblkaaGreatDoor
section
variable {P : Program} {ops : Array Oper} {Q : Exit → Act → World → Prop} {md : Region.Mode} {S : World → Prop} {k : Nat}
/-- Whatever order is picked from here on; until k has come up, S holds behind every operation. -/
def wpAnyK (P : Program) (md : Region.Mode) (ops : Array Oper) (Q : Exit → Act → World → Prop) (k : Nat) (S : World → Prop) : Nat → Array Bool → Act → World → Prop
  | 0, listed, a, w => Region.ready md ops listed = [] ∧ Q .normal a w
  | fuel + 1, listed, a, w =>
    (Region.ready md ops listed = [] → Q .normal a w) ∧
    ∀ i ∈ Region.ready md ops listed, wpOp P ops Q i (fun a' w' => ((listed.setIfInBounds i true).getD k false = true ∨ S w') ∧ wpAnyK P md ops Q k S fuel (listed.setIfInBounds i true) a' w') a w
theorem wpAny_of_k : ∀ (fuel : Nat) (listed : Array Bool) (a : Act) (w : World), wpAnyK P md ops Q k S fuel listed a w → wpAny P md ops Q fuel listed a w
  | 0, _, _, _, h => h
  | fuel + 1, _, _, _, h => ⟨h.1, fun i hi => wpOp_mono (fun a' w' h' => wpAny_of_k fuel _ a' w' h'.2) (h.2 i hi)⟩
def Closed (md : Region.Mode) (ops : Array Oper) (L : Array Bool) : Prop := ∀ j oj, ops[j]? = some oj → L.getD j false = true → ∀ e ∈ oj.after, Region.binds md e = true → L.getD e.on false = true
def closedB (md : Region.Mode) (ops : Array Oper) (L : Array Bool) : Bool := (List.range ops.size).all fun j => match ops[j]? with
  | some o => !L.getD j false || o.after.all fun e => !Region.binds md e || L.getD e.on false
  | none => true
theorem closedB_spec {L : Array Bool} (h : closedB md ops L = true) : Closed md ops L := fun j oj hj hl e he hb => by
  have h4 := List.all_eq_true.1 h j (List.mem_range.2 (Array.getElem?_eq_some_iff.1 hj).1)
  rw [hj] at h4
  simp only [Bool.or_eq_true, Bool.not_eq_true'] at h4
  rcases h4 with h4 | h4
  · rw [hl] at h4; cases h4
  · have h5 := Array.all_eq_true'.1 h4 e he
    simpa [hb] using h5
theorem Closed.set {L : Array Bool} {j : Nat} (h : Closed md ops L) (hj : j ∈ Region.ready md ops L) : Closed md ops (L.setIfInBounds j true) := fun t ot ht hl e he hb => by
  obtain ⟨_, oj, hoj, hall⟩ := mem_ready.1 hj
  by_cases hjt : j = t
  · subst hjt
    have : ot = oj := Option.some.inj (ht.symm.trans hoj)
    subst this
    exact getD_set_true (hall e he hb)
  · rw [getD_set_ne false hjt] at hl
    exact getD_set_true (h t ot ht hl e he hb)
theorem wpAnyK_first {S' : World → Prop} {i : Nat} {oi : Oper} {v : Value} (hik : i ≠ k) (hi : ops[i]? = some oi) (hsel : ∀ (j : Nat) (o : Oper) cs b, ops[j]? = some o → o.op ≠ .select cs b)
    (hQ : ∀ c a w, Q (.panic c) (a.put oi.dst v) w → Q (.panic c) a w)
    (hS' : ∀ (L : Array Bool) (w : World), Closed md ops L → L.getD i true = false → (L.getD k false = true ∨ S w) → S' w) :
    ∀ (fuel : Nat) (listed : Array Bool) (a : Act) (w : World), Closed md ops listed →
      (∀ j oj, ops[j]? = some oj → j ≠ i → listed.getD j true = false → (∀ e ∈ oj.after, Region.binds md e = true → e.on ≠ i) → oi.apart ops oj = true) →
      i ∈ Region.ready md ops listed → YieldsIf P ops S' oi v a → (listed.getD k false = true ∨ S w) →
      wpAnyK P md ops Q k S fuel (listed.setIfInBounds i true) (a.put oi.dst v) w → wpAnyK P md ops Q k S (fuel + 1) listed a w := by
  have hset : ∀ (L : Array Bool) (w : World), (L.getD k false = true ∨ S w) → ((L.setIfInBounds i true).getD k false = true ∨ S w) := fun L w h => h.imp (fun h => getD_set_true h) id
  intro fuel
  induction fuel with
  | zero =>
    intro listed a w hcl _ hr hy hS H
    refine ⟨fun h => (by rw [h] at hr; cases hr), fun j hj => ?_⟩
    by_cases hji : j = i
    · subst hji; exact hy.wpOp hi (hS' listed w hcl (mem_ready.1 hr).1 hS) ⟨hset _ _ hS, H⟩
    · have := ready_mono hj hji
      rw [H.1] at this
      cases this
  | succ fuel ih =>
    intro listed a w hcl hfree hr hy hS H
    refine ⟨fun h => (by rw [h] at hr; cases hr), fun j hj => ?_⟩
    by_cases hji : j = i
    · subst hji; exact hy.wpOp hi (hS' listed w hcl (mem_ready.1 hr).1 hS) ⟨hset _ _ hS, H⟩
    · have h1 := H.2 j (ready_mono hj hji)
      obtain ⟨hjun, oj, hoj, hall⟩ := mem_ready.1 hj
      have hnot : ∀ e ∈ oj.after, Region.binds md e = true → e.on ≠ i := fun e he hb heq => by
        have h1 := hall e he hb
        have h0 := (mem_ready.1 hr).1
        rw [heq] at h1
        rcases Nat.lt_or_ge i listed.size with h' | h'
        · simp [h'] at h0 h1; rw [h0] at h1; cases h1
        · simp [Array.getElem?_eq_none h'] at h1
      have h2 := wpOp_putIf hoj (hfree j oj hoj hji hjun hnot) (fun cs b => hsel i oi cs b hi) (fun cs b => hsel j oj cs b hoj) hQ hy h1
      have hfree' : ∀ t ok, ops[t]? = some ok → t ≠ i → (listed.setIfInBounds j true).getD t true = false →
          (∀ e ∈ ok.after, Region.binds md e = true → e.on ≠ i) → oi.apart ops ok = true := fun t ok hk hki hun hno => by
        refine hfree t ok hk hki ?_ hno
        by_cases hjk : j = t
        · subst hjk; exact hjun
        · rw [getD_set_ne true hjk] at hun; exact hun
      have hback : ∀ w', (((listed.setIfInBounds i true).setIfInBounds j true).getD k false = true ∨ S w') → ((listed.setIfInBounds j true).getD k false = true ∨ S w') := fun w' h => by
        rw [Array.setIfInBounds_comm _ _ (Ne.symm hji)] at h
        rwa [getD_set_ne false hik] at h
      refine wpOp_mono (fun a' w' h3 => ⟨hback w' h3.2.1, ih (listed.setIfInBounds j true) a' w' (hcl.set hj) hfree' (ready_mono hr (Ne.symm hji)) h3.1 (hback w' h3.2.1) ?_⟩) h2
      rw [Array.setIfInBounds_comm _ _ hji]
      exact h3.2.2
/-- A load (k waits for it) is taken first. -/
theorem take_kl {fuel : Nat} {listed : Array Bool} {a : Act} {w : World} (i : Nat)
    (H : ∃ (oi : Oper) (v : Value), ops[i]? = some oi ∧ Region.noSelect ops = true ∧ Region.free md ops listed i = true ∧ (Region.ready md ops listed).contains i = true ∧
      (Nat.beq i k = false ∧ closedB md ops listed = true ∧ Region.waitsFor md ops k i = true) ∧ (∀ c a w, Q (.panic c) (a.put oi.dst v) w → Q (.panic c) a w) ∧ YieldsIf P ops S oi v a ∧ S w ∧ wpAnyK P md ops Q k S fuel (listed.setIfInBounds i true) (a.put oi.dst v) w) : wpAnyK P md ops Q k S (fuel + 1) listed a w := by
  obtain ⟨oi, v, h1, h2, h3, h4, ⟨h9, h10, h11⟩, h5, h6, h7, h8⟩ := H
  refine wpAnyK_first (S' := S) (fun e => by subst e; simp at h9) h1 (Region.noSelect_spec h2) h5 (fun L w hcl hun hS => ?_) fuel listed a w (closedB_spec h10) (Region.free_spec h1 h3) (by simpa using h4) h6 (.inr h7) h8
  rcases hS with hS | hS
  · obtain ⟨ok, hok, e, he, hb, hon⟩ := Region.waitsFor_spec h11
    have := hcl k ok hok hS e he hb
    rw [hon, getD_both hun] at this
    cases this
  · exact hS
/-- One that looks at no world is taken first. -/
theorem take_kp {fuel : Nat} {listed : Array Bool} {a : Act} {w : World} (i : Nat)
    (H : ∃ (oi : Oper) (v : Value), ops[i]? = some oi ∧ Region.noSelect ops = true ∧ Region.free md ops listed i = true ∧ (Region.ready md ops listed).contains i = true ∧
      (Nat.beq i k = false ∧ closedB md ops listed = true) ∧ (∀ c a w, Q (.panic c) (a.put oi.dst v) w → Q (.panic c) a w) ∧ YieldsIf P ops (fun _ => True) oi v a ∧ S w ∧ wpAnyK P md ops Q k S fuel (listed.setIfInBounds i true) (a.put oi.dst v) w) : wpAnyK P md ops Q k S (fuel + 1) listed a w := by
  obtain ⟨oi, v, h1, h2, h3, h4, ⟨h9, h10⟩, h5, h6, h7, h8⟩ := H
  exact wpAnyK_first (S' := fun _ => True) (fun e => by subst e; simp at h9) h1 (Region.noSelect_spec h2) h5 (fun L w hcl hun hS => trivial) fuel listed a w (closedB_spec h10) (Region.free_spec h1 h3) (by simpa using h4) h6 (.inr h7) h8
/-- The one that may come up. -/
theorem call_k {fuel : Nat} {listed : Array Bool} {a : Act} {w : World} (i : Nat) (hr : Region.ready md ops listed = [i])
    (H : ∃ o : Oper, ops[i]? = some o ∧ ∀ K' : Act → World → Prop, Shut (∀ a w, S w → (S w → wpAnyK P md ops Q k S fuel (listed.setIfInBounds i true) a w) → K' a w) → if Region.wanted o (yielded ops a.tmps) = true then Oper.wp P o a w K' Q else K' (a.put o.dst undef) w) :
    wpAnyK P md ops Q k S (fuel + 1) listed a w := by
  obtain ⟨o, h1, h2⟩ := H
  refine ⟨fun h0 => (by rw [hr] at h0; cases h0), fun j hj => ?_⟩
  rw [hr] at hj
  have hji : j = i := by simpa using hj
  subst hji
  unfold wpOp
  simp only [h1]
  have h3 := h2 (fun a' w' => ((listed.setIfInBounds j true).getD k false = true ∨ S w') ∧ wpAnyK P md ops Q k S fuel (listed.setIfInBounds j true) a' w') (fun a w hS h => ⟨.inr hS, h hS⟩)
  split
  · rename_i hw
    rw [if_pos hw] at h3
    exact .inl h3
  · rename_i hw
    rw [if_neg hw] at h3
    exact h3
theorem tail_k' : ∀ (l : List Oper) (t : Nat) (listed : Array Bool) (a : Act) (w : World), (t = k ∨ listed.getD k false = true) → t + l.length ≤ listed.size → (∀ j, l[j]? = ops[t + j]?) →
    Region.seqB md ops l.length t listed = true → wpList P ops Q l a w → wpAnyK P md ops Q k S l.length listed a w
  | [], t, listed, a, w, _, _, _, hB, h => ⟨by simpa [Region.seqB] using hB, h⟩
  | o :: l, t, listed, a, w, hk, hsz, hl, hB, h => by
    have h0 : ops[t]? = some o := by simpa using (hl 0).symm
    simp only [List.length_cons, Region.seqB, Bool.and_eq_true, decide_eq_true_eq] at hB
    have hk' : (listed.setIfInBounds t true).getD k false = true := by
      rcases hk with rfl | hk
      · simp only [List.length_cons] at hsz
        rw [Array.getD_eq_getD_getElem?, Array.getElem?_setIfInBounds, if_pos rfl, if_pos (by omega)]
        rfl
      · exact getD_set_true hk
    refine ⟨fun h1 => (by rw [hB.1] at h1; cases h1), fun i hi => ?_⟩
    rw [hB.1] at hi
    have hik : i = t := by simpa using hi
    subst hik
    have hw : wpOp P ops Q i (wpList P ops Q l) a w := by unfold wpOp; simp only [h0]; exact h
    exact wpOp_mono (fun a' w' h' => ⟨.inl hk', tail_k' l (i + 1) _ a' w' (.inr hk') (by simp only [List.length_cons] at hsz; simp; omega) (fun j => by have := hl (j + 1); simpa [Nat.add_assoc, Nat.add_comm 1 j] using this) hB.2 h'⟩) hw
/-- k and all behind it, one by one. -/
theorem tail_k {l : List Oper} {fuel : Nat} {listed : Array Bool} {a : Act} {w : World} (hf : Nat.beq fuel (l.drop k).length = true) (hsz : Nat.ble (k + (l.drop k).length) listed.size = true)
    (hB : Region.seqB md l.toArray (l.drop k).length k listed = true) (h : wpList P l.toArray Q (l.drop k) a w) : wpAnyK P md l.toArray Q k S fuel listed a w := by
  have hf := Nat.eq_of_beq_eq_true hf
  subst hf
  exact tail_k' (l.drop k) k listed a w (.inl rfl) (Nat.le_of_ble_eq_true hsz) (fun j => by simp [List.getElem?_drop]) hB h
theorem region_k {id : Nat} {a : Act} {w : World} (k : Nat) (hm : P.follows .mixedOrders = true) (hS : S w.drew)
    (h : S w.drew → wpAnyK P .any ops Q k S ops.size (Array.replicate ops.size false) a w.drew) : (Code.region id ops true).wp P Q a w :=
  wp_region_any hm (wpAny_of_k _ _ _ _ (h hS))
end
end Go.Proofs.YtlehkaibbkblkaaGreatDoor
