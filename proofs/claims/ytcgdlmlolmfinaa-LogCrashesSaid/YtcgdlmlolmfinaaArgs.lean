/- Arguments opened to cells: slices of structs of one-cell fields, slices of bytes; lists out of 'for every index there is one'. Over any program. -/
import Derived.Test.YtcgdlmlolmfinaaSli
import Derived.Test.YtcgdlmlolmfinaaRowKit
import Derived.Deep.Slices
import Derived.Deep.Fields
import Derived.Lib.SmallJoins
namespace Go.Proofs.Ytcgdlmlolmfinaa
open Go.ChangeShapes Go.WideShapes Go.Deep Go.RowKit

theorem list_of_all {α : Type} {P : Nat → α → Prop} (n : Nat) (h : ∀ i, i < n → ∃ x, P i x) : ∃ l : List α, l.length = n ∧ ∀ i x, l[i]? = some x → P i x := by
  induction n with
  | zero => exact ⟨[], rfl, fun i x hx => by simp at hx⟩
  | succ n ih =>
    obtain ⟨l, hl, hp⟩ := ih (fun i hi => h i (by omega))
    obtain ⟨y, hy⟩ := h n (by omega)
    refine ⟨l ++ [y], by simp [hl], fun i x hx => ?_⟩
    by_cases hi : i < n
    · rw [List.getElem?_append_left (by omega)] at hx
      exact hp i x hx
    · have hlt : i < (l ++ [y]).length := (List.getElem?_eq_some_iff.1 hx).1
      have he : i = n := by simp at hlt; omega
      subst he
      rw [List.getElem?_append_right (by omega), hl, Nat.sub_self] at hx
      simp at hx
      exact hx ▸ hy

section
variable {H : Type} {enc : TypeId × Value → H} {P : Program} {w : World} {spare : Nat → Bool} {held : Bool}

/-- A slice of structs, each of one-cell fields: the cells of each element, and each field's own reading. -/
theorem open_rows {t e : TypeId} {fs : Array Field} {fuel : Nat} {cs : List Value} {x : DataW H × List MemPlace} (ht : P.underlying t = some (.slice e)) (he : P.underlying e = some (.struct fs))
    (hone : oneCellFields P fs = true) (hC : P.cellsOf e = fs.size) (hpos : 0 < fs.size) (h : DataW.trod enc P w 0 spare held fuel t cs = some x) :
    cs = [.slice none 0 0] ∨
    ∃ (a : Addr) (len cap : Nat), cs = [.slice (some a) len cap] ∧ len ≤ cap ∧ cap ≤ maxLen ∧
      ∀ i, i < len → a.spot = none ∧ ∃ (vs : List Value) (n : Nat), vs.length = fs.size ∧ (∀ j, j < fs.size → w.cell? ⟨a.block, a.off + (i * fs.size + j), none⟩ = vs[j]?) ∧
        ∀ (j : Nat) (f : Field), fs[j]? = some f → ∃ (v : Value) (y : DataW H × List MemPlace), vs[j]? = some v ∧ DataW.trod enc P w 0 spare held n f.type [v] = some y := by
  rcases open_slice ht h with h0 | ⟨a, len, cap, m, n, D, Pl, hcs, _, hl, hm, hmm, _, hi⟩
  · exact .inl h0.1
  have hlm : len ≤ m := by rw [hmm]; split <;> omega
  refine .inr ⟨a, len, cap, hcs, hl, hm, fun i him => ?_⟩
  have hrow : ∀ i, i < m → ∃ vs : List Value, vs.length = fs.size ∧ (∀ j, j < fs.size → w.cell? (a.add (i * fs.size + j)) = vs[j]?) ∧
      ∃ n, ∀ (j : Nat) (f : Field), fs[j]? = some f → ∃ (v : Value) (y : DataW H × List MemPlace), vs[j]? = some v ∧ DataW.trod enc P w 0 spare held n f.type [v] = some y := by
    intro i him
    obtain ⟨vs, hc, htr⟩ := hi i him
    rw [hC] at hc
    obtain ⟨_, hcl, hat⟩ := World.cells?_some hc
    obtain ⟨ys, n', _, _, _, hyl, hf⟩ := DataW.trod_struct he htr
    refine ⟨vs, hcl, fun j hj => by rw [← hat j hj, Go.Deep.add_add], n', fun j f hj => ?_⟩
    obtain ⟨ho, hk⟩ := hone_of hone j f hj
    have hjl : j < fs.size := (Array.getElem?_eq_some_iff.1 hj).1
    have h1 := hf j f hj
    rw [ho, hk] at h1
    have hcut : (vs.drop j).take 1 = [vs[j]'(by omega)] := by
      rw [List.drop_eq_getElem_cons (by omega)]
      rfl
    rw [hcut] at h1
    exact ⟨_, _, List.getElem?_eq_getElem (by omega), h1.trans (List.getElem?_eq_getElem (by omega))⟩
  have hs : a.spot = none := by
    obtain ⟨vs, hcl, hat, _⟩ := hrow 0 (by omega)
    have h0 := hat 0 hpos
    rw [List.getElem?_eq_getElem (by omega)] at h0
    simp only [Nat.zero_mul, Nat.add_zero, Addr.add, if_true] at h0
    exact spot_none h0
  obtain ⟨vs, hcl, hat, n, hf⟩ := hrow i (by omega)
  refine ⟨hs, vs, n, hcl, fun j hj => ?_, hf⟩
  rw [← hat j hj]
  obtain ⟨b, o, s⟩ := a
  simp only at hs
  subst hs
  rw [add_flat]

/-- A slice of bytes reads as a list. -/
theorem open_bytes {t e : TypeId} {fuel : Nat} {v : Value} {x : DataW H × List MemPlace} (ht : P.underlying t = some (.slice e)) (he : P.underlying e = some (.int .u8)) (hc : P.cellsOf e = 1)
    (h : DataW.trod enc P w 0 spare held fuel t [v] = some x) : ∃ L : List UInt8, Rd w w.heap.size 1 v L.length (u8s L) := by
  rcases open_ints ht he hc h with ⟨hcs, _⟩ | ⟨a, len, cap, zs, hcs, _, hl, hm, hz, _, hcell, hwf⟩
  · injection hcs with hcs
    subst hcs
    exact ⟨[], Rd.nil_ _ _ _⟩
  · injection hcs with hcs
    subst hcs
    have hzl : len ≤ zs.length := by rw [hz]; split <;> omega
    have hlen : ((zs.take len).map fun z => UInt8.ofNat z.toNat).length = len := by simp; omega
    refine ⟨(zs.take len).map fun z => UInt8.ofNat z.toNat, ?_⟩
    rw [hlen]
    refine ⟨by rw [u8s_length, hlen]; omega, some a, cap, rfl, hl, hm, (fun e => by cases e), fun hn => ?_⟩
    have hs : a.spot = none := by
      have h0 := hcell 0 (by omega)
      simp only [Addr.add, if_true] at h0
      exact spot_none h0
    obtain ⟨b, o, s⟩ := a
    simp only at hs
    subst hs
    refine ⟨b, o, rfl, ?_, fun j u hu => ?_⟩
    · have := World.block_lt_of_cell? w _ (hcell 0 (by omega))
      simpa [add_flat] using this
    · have hj : j < len := by
        have := (List.getElem?_eq_some_iff.1 hu).1
        rw [u8s_length, hlen] at this
        exact this
      have h1 := hcell j (by omega)
      rw [add_flat] at h1
      rw [h1, ← hu]
      have hw := hwf (zs.getD j 0) (by rw [List.getD_eq_getElem?_getD, List.getElem?_eq_getElem (by omega)]; exact List.getElem_mem _)
      have hr : 0 ≤ zs.getD j 0 ∧ zs.getD j 0 ≤ 255 := by simpa [Lit.wf, IntKind.min, IntKind.max, IntKind.signed, IntKind.bits] using hw
      simp only [u8s, List.getElem?_map, List.getElem?_take, if_pos hj, List.getElem?_eq_getElem (show j < zs.length by omega), Option.map_some]
      rw [List.getD_eq_getElem?_getD, List.getElem?_eq_getElem (show j < zs.length by omega)] at hr ⊢
      simp only [Option.getD_some] at hr ⊢
      congr 2
      simp
      omega
end
end Go.Proofs.Ytcgdlmlolmfinaa
