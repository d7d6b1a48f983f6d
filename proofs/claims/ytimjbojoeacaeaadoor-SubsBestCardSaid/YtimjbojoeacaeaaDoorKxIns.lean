/- slices.Insert: what comes of cells that are laid over others; a row that goes on in place, or anew. -/
import Derived.Test.YtimjbojoeacaeaaDoorKxExt
import Derived.Laws.IdiomCopy
namespace Go.Proofs.YtimjbojoeacaeaaDoor.Kx
section
variable {P : Program} {B0 : Nat} {g : G} {h : H} {w : World}

/-- Cells laid over others, from r on. -/
def lay (L : List Value) (r : Nat) (D : List Value) : List Value := L.take r ++ (D ++ L.drop (r + D.length))
theorem lay_length {L D : List Value} {r : Nat} (h : r + D.length ≤ L.length) : (lay L r D).length = L.length := by unfold lay; simp; omega
theorem lay_at {L D : List Value} {r : Nat} (h : r + D.length ≤ L.length) (j : Nat) : (lay L r D)[j]? = if j < r then L[j]? else if j < r + D.length then D[j - r]? else L[j]? := by
  unfold lay
  have hl : (L.take r).length = r := by simp; omega
  by_cases h1 : j < r
  · rw [if_pos h1, List.getElem?_append_left (by omega), List.getElem?_take, if_pos h1]
  · rw [if_neg h1, List.getElem?_append_right (by omega), hl]
    by_cases h2 : j < r + D.length
    · rw [if_pos h2, List.getElem?_append_left (by omega)]
    · rw [if_neg h2, List.getElem?_append_right (by omega), List.getElem?_drop]
      congr 1
      omega
theorem lay_lay {L V : List Value} {r a s m : Nat} (hV : V.length = s) (hm : a + m + s + r ≤ L.length) :
    lay (lay L (r + (a + s)) ((L.drop (r + a)).take m)) (r + a) V = lay L r (((L.drop r).take a) ++ (V ++ (L.drop (r + a)).take m)) := by
  have hD : ((L.drop (r + a)).take m).length = m := by simp; omega
  have hA : ((L.drop r).take a).length = a := by simp; omega
  have hL1 : (lay L (r + (a + s)) ((L.drop (r + a)).take m)).length = L.length := lay_length (by omega)
  apply List.ext_getElem?
  intro j
  rw [lay_at (by omega), lay_at (by omega), lay_at (by simp only [List.length_append]; omega)]
  simp only [List.length_append, hV, hD, hA]
  by_cases h1 : j < r
  · rw [if_pos h1, if_pos (by omega), if_pos (by omega)]
  · rw [if_neg h1]
    by_cases h2 : j < r + a
    · rw [if_pos h2, if_pos (by omega), if_pos (by omega), List.getElem?_append_left (by omega), List.getElem?_take, if_pos (by omega), List.getElem?_drop]
      congr 1
      omega
    · rw [if_neg h2]
      by_cases h3 : j < r + a + s
      · rw [if_pos h3, if_pos (by omega), List.getElem?_append_right (by omega), hA, List.getElem?_append_left (by omega)]
        congr 1
        omega
      · rw [if_neg h3, if_neg (by omega)]
        by_cases h4 : j < r + (a + s) + m
        · rw [if_pos h4, if_pos (by omega), List.getElem?_append_right (by omega), hA, List.getElem?_append_right (by omega), hV]
          congr 1
          omega
        · rw [if_neg h4, if_neg (by omega)]
theorem load_row {W : World} {B o n : Nat} {L : List Value} {t : TypeId} {fr : Nat × Nat} (hb : W.heap[B]? = some (.cells L.toArray t fr)) (hl : o + n ≤ L.length) : (loadCells ⟨B, o, none⟩ n).run P W = .ok ((L.drop o).take n).toArray W := by
  have := run_loadCells_list (P := P) W ⟨B, o, none⟩ ((L.drop o).take n) (fun j v hv => by
    rw [List.getElem?_take] at hv
    split at hv
    · rw [List.getElem?_drop] at hv
      rw [add_none]
      simpa [World.cell?, hb] using hv
    · cases hv)
  have hlen : ((L.drop o).take n).length = n := by simp; omega
  rw [hlen] at this
  exact this
theorem copy_row {t xt e ty : TypeId} {S : Nat} (hu : P.underlying t = some (.slice e)) (hsz : ∀ w, (Go.sizeOf e).run P w = .ok S w) {W : World} {B r : Nat} {t' : TypeId} {fr : Nat × Nat} {L : List Value} (hb : W.heap[B]? = some (.cells L.toArray t' fr))
    (hf : ∀ j : Nat, ¬ (fr.1 ≤ j ∧ j < fr.2)) (D : List Value) (h1 : ∀ v ∈ D, one1 v = true) (k dLen dCap sLen sCap : Nat) (hk : Nat.min sLen dLen = k) (hfit : r + D.length ≤ L.length) (sa : Addr) (hload : (loadCells sa (k * S)).run P W = .ok D.toArray W) :
    (Builtin.copy_ #[t, xt] ty #[.slice (some ⟨B, r, none⟩) dLen dCap, .slice (some sa) sLen sCap]).run P W = .ok (goInt k) (wset W B (.cells (lay L r D).toArray t' fr)) := by
  have hst := run_storeRow (P := P) B r t' fr D 0 L.toArray W hb hf (by simpa using hfit) h1
  simp only [Nat.add_zero] at hst
  subst hk
  unfold lay
  simp [Builtin.copy_, run_underlying hu, Builtin.lenOf, Builtin.firstCells, hsz, hload, goInt, Result.andThen, hst]
/-- A row that goes on in place. -/
theorem inplace_good (hr : HR B0 g h w) (hm : ∀ b o, h.m.get b = some o → b < h.next) (hp : g.pos h.next = none) (hgr : g.grow h.next = none) {b B base o k cc S ro need : Nat} {c : List AV × TypeId} (hob : objCells (h.m.get b) = some c) (hpb : g.pos b = some (B, base)) (ho : o = k * S)
    {L : List Value} {fr : Nat × Nat} (e1 : w.heap[B]? = some (.cells L.toArray c.2 fr)) (e2 : ∀ i : Nat, ¬ (fr.1 ≤ i ∧ i < fr.2)) (hs0 : 0 < S) (hle3 : base + cc * S ≤ L.length) (hreal : need ≤ cc - k) (hn0 : 0 < need) (hro : k < cc → ro = base + o)
    {N : List AV} {N' : List Value} (hN : VRs g N N') (hN1 : ∀ v ∈ N', one1 v = true) (hlen : N.length = need * S) {w1 : World} (hw1 : w1.heap = (wset w B (.cells (lay L (base + o) N').toArray c.2 fr)).heap) (hos : w1.os = w.os) (ht : w1.tape = w.tape) (hou : w1.output = w.output) :
    ∃ g1, VR g1 (.slc h.next 0 need (.v S 0)) (.slice (some ⟨B, ro, none⟩) need (cc - k)) ∧ Tr B0 g h w g1 ⟨(h.m.set b .dead).set h.next (.cells N c.2), Nat.succ h.next⟩ w1 := by
  have hBl : B < w.heap.size := (Array.getElem?_eq_some_iff.1 e1).1
  have hall : o + need * S ≤ cc * S := by
    rw [ho, ← Nat.add_mul]
    exact Nat.mul_le_mul_right _ (by omega)
  have hNl : N'.length = need * S := by rw [← hN.length, hlen]
  refine ⟨g.add h.next B (base + o) (some (cc - k, S)), ?_, Tr.move hr hm hp hgr b B base o ⟨_, objCells_some hob, by simp⟩ hpb _ _ _ ⟨(lay L (base + o) N').toArray, fr, by rw [hw1]; exact wset_same _ _ _ hBl, ?_, ?_, ?_, ?_⟩ (fun B' hB' => by rw [hw1]; exact wset_other _ _ _ _ hB') (by rw [hw1]; exact wset_size _ _ _) hos ht hou⟩
  · have := VR.slcv (g := g.add h.next B (base + o) (some (cc - k, S))) h.next 0 need 0 B (base + o) (cc - k) S ro (if_pos rfl) (if_pos rfl) (by simp) (by omega) (fun hlt => by rw [hro (by omega)]; rfl)
    rw [Nat.sub_zero] at this
    exact this
  · exact e2
  · simp only [List.size_toArray]
    rw [lay_length (by omega), hlen]
    omega
  · intro i v hv
    obtain ⟨v', q1, q2⟩ := hN.at hv
    have hi := (List.getElem?_eq_some_iff.1 q1).1
    refine ⟨v', ?_, q2.mono (G.add_le g _ _ _ _ hp hgr), hN1 v' (List.mem_of_getElem? q1)⟩
    simp only [List.getElem?_toArray]
    rw [lay_at (by omega), if_neg (by omega), if_pos (by omega), show base + o + i - (base + o) = i by omega]
    exact q1
  · intro c' s' hcs
    have : (some (cc - k, S) : Option (Nat × Nat)) = some (c', s') := by rw [← hcs]; exact (if_pos rfl).symm
    injection this with this
    injection this with e3 e4
    subst e3; subst e4
    refine ⟨hs0, by rw [hlen]; exact Nat.mul_le_mul_right _ hreal, ?_⟩
    have : (cc - k) * S + k * S = cc * S := by rw [← Nat.add_mul]; congr 1; omega
    simp only [List.size_toArray]
    rw [lay_length (by omega)]
    omega
theorem lay_grow {O Z1 Z2 V D : List Value} (hz : Z1.length = V.length + D.length) : lay (lay (O ++ Z1 ++ Z2) O.length V) (O.length + V.length) D = O ++ (V ++ D) ++ Z2 := by
  have h1 : (lay (O ++ Z1 ++ Z2) O.length V).length = (O ++ Z1 ++ Z2).length := lay_length (by simp; omega)
  apply List.ext_getElem?
  intro j
  rw [lay_at (by rw [h1]; simp; omega), lay_at (by simp; omega)]
  by_cases a1 : j < O.length
  · rw [if_pos (by omega), if_pos a1, List.append_assoc, List.append_assoc, List.getElem?_append_left a1, List.getElem?_append_left a1]
  · by_cases a2 : j < O.length + V.length
    · rw [if_pos a2, if_neg a1, if_pos a2, List.append_assoc O, List.getElem?_append_right (by omega), List.append_assoc V, List.getElem?_append_left (by omega)]
    · rw [if_neg a2]
      by_cases a3 : j < O.length + V.length + D.length
      · rw [if_pos a3, List.append_assoc O, List.getElem?_append_right (by omega), List.append_assoc V, List.getElem?_append_right (by omega), List.getElem?_append_left (by omega)]
        congr 1
        omega
      · rw [if_neg a3, if_neg a1, if_neg a2, List.getElem?_append_right (by simp; omega), List.getElem?_append_right (by simp; omega)]
        congr 1
        simp
        omega
theorem wset_push {W : World} {w : World} {ob o : Obj} (hW : W.heap = w.heap.push ob) : (wset W w.heap.size o).heap = w.heap.push o := by
  unfold wset
  simp only [hW]
  apply Array.ext_getElem?
  intro j
  rw [Array.getElem?_setIfInBounds]
  by_cases e : w.heap.size = j
  · subst e
    simp
  · rw [if_neg e, Array.getElem?_push, Array.getElem?_push, if_neg (fun h => e h.symm), if_neg (fun h => e h.symm)]
theorem push_at (w : World) (ob : Obj) {W : World} (hW : W.heap = w.heap.push ob) : W.heap[w.heap.size]? = some ob := by rw [hW]; simp
theorem push_below {w : World} {ob : Obj} {W : World} (hW : W.heap = w.heap.push ob) {b : Nat} (h : b < w.heap.size) : W.heap[b]? = w.heap[b]? := by rw [hW, Array.getElem?_push_lt h, Array.getElem?_eq_getElem h]
end
end Go.Proofs.YtimjbojoeacaeaaDoor.Kx
