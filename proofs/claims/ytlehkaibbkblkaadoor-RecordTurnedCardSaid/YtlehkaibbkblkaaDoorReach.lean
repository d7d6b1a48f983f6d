/- Arguments opened, with what the reach says of each part. Over any program. -/
import Derived.Test.YtlehkaibbkblkaaDoorArgs
namespace Go.Proofs.YtlehkaibbkblkaaDoor
open Go.ChangeShapes Go.WideShapes Go.Deep Go.RowKit

section
variable {H : Type} {enc : TypeId × Value → H} {P : Program} {w : World} {spare : Nat → Bool} {held : Bool}
/-- All that is read takes no more than the reach. -/
def Rch (P : Program) (t : TypeId) (d : DataW H) : Prop := ∀ n ∈ d.weights P t, n ≤ reachBytes
theorem mem_all {e : TypeId} : ∀ {l : List (DataW H)} {d : DataW H}, d ∈ l → ∀ n ∈ d.weights P e, n ∈ DataW.weightsAll P e l
  | x :: r, d, hd, n, hn => by
    simp only [DataW.weightsAll, List.mem_append]
    rcases List.mem_cons.1 hd with rfl | h
    · exact .inl hn
    · exact .inr (mem_all h n hn)
theorem rch_elem {t e : TypeId} {el sp : List (DataW H)} {d : DataW H} (ht : P.underlying t = some (.slice e)) (h : Rch P t (.slice el sp)) (hd : d ∈ el) : Rch P e d := fun n hn =>
  h n (by simp only [DataW.weights, ht, List.mem_cons, List.mem_append]; exact .inr (.inl (mem_all hd n hn)))
theorem rch_len {t e : TypeId} {el sp : List (DataW H)} (ht : P.underlying t = some (.slice e)) (h : Rch P t (.slice el sp)) : (el.length + sp.length) * P.bytesOf e ≤ reachBytes :=
  h _ (by simp [DataW.weights, ht])
theorem rch_field {t : TypeId} {fs : Array Field} {parts : List (DataW H)} {j : Nat} {f : Field} {d : DataW H} (ht : P.underlying t = some (.struct fs)) (h : Rch P t (.agg parts)) (hf : fs[j]? = some f) (hd : parts[j]? = some d) : Rch P f.type d := fun n hn =>
  h n (by
    simp only [DataW.weights, ht]
    exact DataW.weights_mem_each (j := j) (by rw [List.getElem?_map, Array.getElem?_toList, hf]; rfl) hd n hn)
theorem rch_string {t : TypeId} {l : List UInt8} (h : Rch P t (.lit (.string l) : DataW H)) : l.length ≤ reachBytes := h _ (by simp [DataW.weights])
theorem rch_arg {t : TypeId} {d : DataW H} (h : (DataW.weightsEach P ([t] ++ []) ([d] ++ [])).all (· ≤ reachBytes) = true) : Rch P t d := fun n hn => by
  have := List.all_eq_true.1 h n (by simp [DataW.weightsEach]; exact hn)
  simpa using this

/-- The elements of a slice, each with its cells. -/
theorem open_elems {t e : TypeId} {fuel : Nat} {cs : List Value} {x : DataW H × List MemPlace} (ht : P.underlying t = some (.slice e)) (hpos : 0 < P.cellsOf e)
    (h : DataW.trod enc P w 0 spare held fuel t cs = some x) (hr : Rch P t x.1) :
    cs = [.slice none 0 0] ∨
    ∃ (a : Addr) (len cap : Nat), cs = [.slice (some a) len cap] ∧ len ≤ cap ∧ cap ≤ maxLen ∧ len * P.bytesOf e ≤ reachBytes ∧
      ∀ i, i < len → a.spot = none ∧ ∃ (vs : List Value) (n : Nat) (y : DataW H × List MemPlace), vs.length = P.cellsOf e ∧ (∀ j, j < P.cellsOf e → w.cell? ⟨a.block, a.off + (i * P.cellsOf e + j), none⟩ = vs[j]?) ∧
        DataW.trod enc P w 0 spare held n e vs = some y ∧ Rch P e y.1 := by
  rcases open_slice ht h with h0 | ⟨a, len, cap, m, n, D, Pl, hcs, _, hl, hm, hmm, hx, hi⟩
  · exact .inl h0.1
  have hlm : len ≤ m := by rw [hmm]; split <;> omega
  rw [hx] at hr
  have hlen := rch_len ht hr
  simp only [List.length_map, List.length_range] at hlen
  have hle : len * P.bytesOf e ≤ reachBytes := Nat.le_trans (Nat.mul_le_mul_right _ (Nat.le_add_right _ _)) hlen
  refine .inr ⟨a, len, cap, hcs, hl, hm, hle, fun i him => ?_⟩
  have hrow : ∀ i, i < m → ∃ vs : List Value, vs.length = P.cellsOf e ∧ (∀ j, j < P.cellsOf e → w.cell? (a.add (i * P.cellsOf e + j)) = vs[j]?) ∧ DataW.trod enc P w 0 spare held n e vs = some (D i, Pl i) := by
    intro i him
    obtain ⟨vs, hc, htr⟩ := hi i him
    obtain ⟨_, hcl, hat⟩ := World.cells?_some hc
    exact ⟨vs, hcl, fun j hj => by rw [← hat j hj, Go.Deep.add_add], htr⟩
  have hs : a.spot = none := by
    obtain ⟨vs, hcl, hat, _⟩ := hrow 0 (by omega)
    have h0 := hat 0 hpos
    rw [List.getElem?_eq_getElem (by omega)] at h0
    simp only [Nat.zero_mul, Nat.add_zero, Addr.add, if_true] at h0
    exact spot_none h0
  obtain ⟨vs, hcl, hat, htr⟩ := hrow i (by omega)
  refine ⟨hs, vs, n, _, hcl, fun j hj => ?_, htr, rch_elem ht hr (List.mem_map.2 ⟨i, List.mem_range.2 him, rfl⟩)⟩
  rw [← hat j hj]
  obtain ⟨b, o, s⟩ := a
  simp only at hs
  subst hs
  rw [add_flat]

/-- A field of a struct. -/
theorem open_field {t : TypeId} {fs : Array Field} {fuel : Nat} {cs : List Value} {x : DataW H × List MemPlace} (ht : P.underlying t = some (.struct fs)) (h : DataW.trod enc P w 0 spare held fuel t cs = some x) (hr : Rch P t x.1) :
    cs.length = P.cellsOf t ∧ ∀ (j : Nat) (f : Field), fs[j]? = some f → ∃ (n : Nat) (y : DataW H × List MemPlace), DataW.trod enc P w 0 spare held n f.type ((cs.drop f.offset).take (P.cellsOf f.type)) = some y ∧ Rch P f.type y.1 := by
  obtain ⟨xs, n, _, hx, hlen, hxl, hf⟩ := DataW.trod_struct ht h
  refine ⟨hlen, fun j f hj => ?_⟩
  have hjl : j < fs.size := (Array.getElem?_eq_some_iff.1 hj).1
  have h1 := hf j f hj
  rw [List.getElem?_eq_getElem (by omega)] at h1
  refine ⟨n, _, h1, ?_⟩
  rw [hx] at hr
  exact rch_field ht hr hj (by rw [List.getElem?_map, List.getElem?_eq_getElem (by omega)]; rfl)
theorem open_str {t : TypeId} {fuel : Nat} {cs : List Value} {x : DataW H × List MemPlace} (ht : P.underlying t = some .string) (h : DataW.trod enc P w 0 spare held fuel t cs = some x) (hr : Rch P t x.1) :
    ∃ s : ByteArray, cs = [.string s] ∧ s.size ≤ reachBytes := by
  obtain ⟨s, hc, hx, _⟩ := DataW.trod_string ht h
  rw [hx] at hr
  have := rch_string hr
  exact ⟨s, hc, by rw [Array.length_toList] at this; exact this⟩
end
end Go.Proofs.YtlehkaibbkblkaaDoor
