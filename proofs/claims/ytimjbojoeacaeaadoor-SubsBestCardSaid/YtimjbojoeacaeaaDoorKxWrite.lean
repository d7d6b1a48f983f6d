/- The evaluator's operations that write. -/
import Derived.Test.YtimjbojoeacaeaaDoorKxMore
namespace Go.Proofs.YtimjbojoeacaeaaDoor.Kx
section
variable {P : Program} {B0 : Nat} {g : G} {h : H} {w : World}

def wset (w : World) (B : Nat) (o : Obj) : World := { w with heap := w.heap.setIfInBounds B o }
theorem wset_same (w : World) (B : Nat) (o : Obj) (hB : B < w.heap.size) : (wset w B o).heap[B]? = some o := by simp [wset, hB]
theorem wset_other (w : World) (B : Nat) (o : Obj) (B' : Nat) (hne : B' ≠ B) : (wset w B o).heap[B']? = w.heap[B']? := by
  simp [wset]
  rw [Array.getElem?_setIfInBounds_ne (fun e => hne e.symm)]
theorem wset_wset (w : World) (B : Nat) (o o' : Obj) : wset (wset w B o) B o' = wset w B o' := by
  unfold wset
  simp
theorem wset_size (w : World) (B : Nat) (o : Obj) : (wset w B o).heap.size = w.heap.size := by simp [wset]
theorem wset_self (w : World) (B : Nat) (o : Obj) (h : w.heap[B]? = some o) : wset w B o = w := by
  unfold wset
  congr 1
  apply Array.ext
  · simp
  · intro i h1 h2
    rw [Array.getElem_setIfInBounds]
    split
    · rename_i e
      subst e
      rw [Array.getElem?_eq_getElem h2] at h
      injection h with h
      exact h.symm
    · rfl
theorem setCell_wset (w : World) (B i : Nat) (cs : Array Value) (t : TypeId) (fr : Nat × Nat) (v : Value) (hb : w.heap[B]? = some (.cells cs t fr)) : w.setCell ⟨B, i, none⟩ v = wset w B (.cells (cs.setIfInBounds i v) t fr) := by
  unfold World.setCell wset
  congr 1
  apply Array.ext
  · simp
  · intro j h1 h2
    rw [Array.getElem_modify, Array.getElem_setIfInBounds]
    have hj : j < w.heap.size := by simpa using h2
    split
    · rename_i e
      subst e
      rw [Array.getElem?_eq_getElem hj] at hb
      injection hb with hb
      rw [hb]
      simp
    · rfl
theorem run_store1 (w : World) (B i : Nat) (cs : Array Value) (t : TypeId) (fr : Nat × Nat) (v : Value) (hb : w.heap[B]? = some (.cells cs t fr)) (hi : i < cs.size) (hfr : ¬ (fr.1 ≤ i ∧ i < fr.2)) (h1 : one1 v = true) :
    (store ⟨B, i, none⟩ v).run P w = .ok () (wset w B (.cells (cs.setIfInBounds i v) t fr)) := by
  have hc : w.cell? ⟨B, i, none⟩ = some cs[i] := by simp [World.cell?, hb, hi]
  have hf : w.frozen? ⟨B, i, none⟩ = false := by
    simp only [World.frozen?, hb]
    rw [Bool.and_eq_false_iff]
    rw [decide_eq_false_iff_not, decide_eq_false_iff_not]
    omega
  have hs := setCell_wset w B i cs t fr v hb
  cases v <;> first | (cases h1; done) | (simp [store, Sem.run, hc, hf, hs])
theorem run_storeRow (B ro : Nat) (t : TypeId) (fr : Nat × Nat) : ∀ (vs : List Value) (i : Nat) (cs : Array Value) (w : World), w.heap[B]? = some (.cells cs t fr) → (∀ j : Nat, ¬ (fr.1 ≤ j ∧ j < fr.2)) → ro + i + vs.length ≤ cs.size → (∀ v ∈ vs, one1 v = true) →
    (storeCells ⟨B, ro, none⟩ vs i).run P w = .ok () (wset w B (.cells (cs.toList.take (ro + i) ++ (vs ++ cs.toList.drop (ro + i + vs.length))).toArray t fr))
  | [], i, cs, w, hb, _, _, _ => by
    rw [storeCells]
    simp only [List.nil_append, List.length_nil, Nat.add_zero, List.take_append_drop]
    rw [wset_self w B _ (by simpa using hb)]
    rfl
  | v :: r, i, cs, w, hb, hfr, hl, h1 => by
    simp only [List.length_cons] at hl
    have hB : B < w.heap.size := (Array.getElem?_eq_some_iff.1 hb).1
    rw [storeCells, add_none]
    simp only [Sem.run_bind]
    rw [run_store1 w B (ro + i) cs t fr v hb (by omega) (hfr _) (h1 v (List.mem_cons_self)), Result.andThen_ok]
    rw [run_storeRow B ro t fr r (i + 1) (cs.setIfInBounds (ro + i) v) _ (wset_same w B _ hB) hfr (by simp; omega) (fun x hx => h1 x (List.mem_cons_of_mem _ hx))]
    rw [wset_wset]
    congr 4
    simp only [Array.toList_setIfInBounds, List.length_cons]
    have h2 : (cs.toList.set (ro + i) v).take (ro + (i + 1)) = cs.toList.take (ro + i) ++ [v] := by
      rw [← Nat.add_assoc, List.take_add_one, List.getElem?_set_self (by simp; omega), List.take_set_of_le (Nat.le_refl _)]
      rfl
    rw [h2, List.drop_set_of_lt (by omega), show ro + (i + 1) + r.length = ro + i + (r.length + 1) by omega]
    simp

/-- Cells put into a row of both. -/
theorem CR.put {b B base : Nat} {l : List AV} {t : TypeId} (hc : CR g b B base l t w) {o : Nat} {ys r : List AV} {ys' : List Value} (hy : VRs g ys ys') (h1 : ∀ x ∈ ys', one1 x = true) (hp : put o ys l = some r) :
    ∃ w1, (storeCells ⟨B, base + o, none⟩ ys').run P w = .ok () w1 ∧ CR g b B base r t w1 ∧ (∀ B', B' ≠ B → w1.heap[B']? = w.heap[B']?) ∧ w1.heap.size = w.heap.size ∧ w1.os = w.os ∧ w1.tape = w.tape ∧ w1.output = w.output := by
  obtain ⟨hle, hr⟩ := put_some hp
  rw [hy.length] at hle
  obtain ⟨cs, fr, e1, e2, e3, e4, e5⟩ := hc.ex
  have hB : B < w.heap.size := (Array.getElem?_eq_some_iff.1 e1).1
  have hrun := run_storeRow (P := P) B (base + o) t fr ys' 0 cs w e1 e2 (by omega) h1
  refine ⟨_, hrun, ⟨_, fr, wset_same _ _ _ hB, ?_, ?_, ?_, ?_⟩, fun B' hB' => wset_other _ _ _ _ hB', wset_size _ _ _, rfl, rfl, rfl⟩
  · exact e2
  · subst hr
    simp [hy.length]
    omega
  · intro i v hv
    subst hr
    simp only [Nat.add_zero]
    rcases Nat.lt_or_ge i o with hi | hi
    · rw [List.getElem?_append_left (by simp; omega), List.getElem?_take, if_pos hi] at hv
      obtain ⟨v', a1, a2, a3⟩ := e4 i v hv
      refine ⟨v', ?_, a2, a3⟩
      simp only [List.getElem?_toArray]
      rw [List.getElem?_append_left (by simp; omega), List.getElem?_take, if_pos (by omega)]
      simpa using a1
    · rw [List.getElem?_append_right (by simp; omega)] at hv
      have hto : (l.take o).length = o := by simp; omega
      rw [hto] at hv
      have hto' : (cs.toList.take (base + o)).length = base + o := by simp; omega
      rcases Nat.lt_or_ge (i - o) ys.length with hj | hj
      · rw [List.getElem?_append_left hj] at hv
        obtain ⟨v', a1, a2⟩ := hy.at hv
        refine ⟨v', ?_, a2, h1 v' (List.mem_of_getElem? a1)⟩
        simp only [List.getElem?_toArray]
        rw [List.getElem?_append_right (by omega), hto', show base + i - (base + o) = i - o by omega, List.getElem?_append_left (by rw [← hy.length]; exact hj)]
        exact a1
      · rw [List.getElem?_append_right hj, List.getElem?_drop] at hv
        obtain ⟨v', a1, a2, a3⟩ := e4 _ v hv
        refine ⟨v', ?_, a2, a3⟩
        simp only [List.getElem?_toArray]
        rw [List.getElem?_append_right (by omega), hto', show base + i - (base + o) = i - o by omega, List.getElem?_append_right (by rw [← hy.length]; exact hj), List.getElem?_drop]
        have ha : cs.toList[base + (o + ys.length + (i - o - ys.length))]? = some v' := by simpa using a1
        rw [← ha, hy.length]
        congr 1
        omega
  · intro c s hc
    obtain ⟨q1, q2, q3⟩ := e5 c s hc
    refine ⟨q1, ?_, ?_⟩
    · subst hr
      simp [hy.length]
      omega
    · simp
      omega

/-- A unit operation's goodness: nothing comes of it. -/
def UG (P : Program) (B0 : Nat) (g : G) (h : H) (w : World) (s : Sem Unit) : XR → Prop
  | .no => True
  | .val v h' => v = .tup [] ∧ ∃ w', s.run P w = .ok () w' ∧ ∃ g', Tr B0 g h w g' h' w'
  | .call _ _ _ => False
theorem Tr.cells (hr : HR B0 g h w) (hm : ∀ b o, h.m.get b = some o → b < h.next) {b B base : Nat} {c : List AV × TypeId} (hob : objCells (h.m.get b) = some c) (hp : g.pos b = some (B, base)) {r : List AV} {w1 : World} (hc : CR g b B base r c.2 w1)
    (hother : ∀ B', B' ≠ B → w1.heap[B']? = w.heap[B']?) (hsz : w1.heap.size = w.heap.size) (hos : w1.os = w.os) (ht : w1.tape = w.tape) (hou : w1.output = w.output) : Tr B0 g h w g (h.upd b (.cells r c.2)) w1 := by
  have hg := objCells_some hob
  refine Tr.write hr b B base ⟨_, hg, by simp⟩ (hm _ _ hg) hp _ hother hsz hos ht hou (fun l t e => ?_) (fun es c' e => by cases e)
  injection e with e1 e2
  subst e1; subst e2
  exact hc
theorem store_good (hr : HR B0 g h w) (hm : ∀ b o, h.m.get b = some o → b < h.next) (t : TypeId) (x v : AV) (xv vv : Value) (hx : VR g x xv) (hv : VR g v vv) : UG P B0 g h w (Instr.storeAt t xv vv) (xStore h v x (mkTI P t)) := by
  unfold xStore
  cases hk : okV v
  · trivial
  · rw [bi_true]
    obtain ⟨hv1, hv2⟩ := cells_inv hk hv
    cases h1 : asPtr x with
    | none => trivial
    | some p =>
      have := asPtr_some h1; subst this
      cases hx with | ptr b o B base hp =>
      simp only [oc_some]
      cases ht : mkTI P t with
      | none => trivial
      | some ti =>
        have hT := mkTI_some ht
        simp only [oc_some]
        cases hob : objCells (h.m.get p.1) with
        | none => trivial
        | some c =>
          simp only [oc_some]
          unfold st
          cases hb : Nat.beq (len (cellsOf v)) ti.size
          · trivial
          · rw [bi_true]
            have hb := Nat.eq_of_beq_eq_true hb
            rw [len_eq, hv1.length] at hb
            cases hpu : put p.2 (cellsOf v) c.1 with
            | none => trivial
            | some r =>
              obtain ⟨w1, a1, a2, a3, a4, a5, a6, a7⟩ := (hr.row hob hp).put (P := P) hv1 hv2 hpu
              refine ⟨rfl, w1, ?_, g, Tr.cells hr hm hob hp a2 a3 a4 a5 a6 a7⟩
              have hsz : vv.cells.size = ti.size := by simpa using hb
              simp [Instr.storeAt, Instr.sureAddr, storeVar, Sem.run_bind, hT.sizeOf, hsz, a1, Result.andThen]
end
end Go.Proofs.YtimjbojoeacaeaaDoor.Kx
