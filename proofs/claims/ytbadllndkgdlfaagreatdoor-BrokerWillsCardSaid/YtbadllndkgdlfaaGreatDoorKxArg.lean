/- An argument that is a struct: more that may be said of its cells, case by case. -/
import Derived.Test.YtbadllndkgdlfaaGreatDoorKxMain
namespace Go.Proofs.YtbadllndkgdlfaaGreatDoor.Kx
theorem VRs.setAt {g : G} {a : AV} {x : Value} (ha : VR g a x) : ∀ {l : List AV} {l' : List Value} (i : Nat), VRs g l l' → l'[i]? = some x → VRs g (l.set i a) l'
  | _, _, _, .nil, h => by cases h
  | _, _, 0, .cons v v' l l' hv hs, h => by
    injection h with h
    subst h
    exact .cons _ _ _ _ ha hs
  | _, _, i + 1, .cons v v' l l' hv hs, h => .cons _ _ _ _ hv (VRs.setAt ha i hs h)
/-- A struct's cells. -/
structure ArgAt (P : Program) (g : G) (ts : List TypeId) (v : Value) (cs : List Value) : Prop where
  eq : v = .agg cs.toArray
  len : cs.length = ts.length
  vrs : VRs g (ts.map (absT P)) cs
  one : ∀ x ∈ cs, one1 x = true
theorem arg_struct {P : Program} {w : World} {r : Reach} {base : Nat} {t : TypeId} {v : Value} {fs : Array Field} {ts : List TypeId} (hu : P.underlying t = some (.struct fs)) (hc : P.cellTypes P.depth t = some ts) (hn : P.cellsOf t = ts.length)
    (h : Value.okWide P w r base t v) : ∃ cs, ArgAt P G.e ts v cs ∧ ∀ (i : Nat) x, cs[i]? = some x → ∃ u, ts[i]? = some u ∧ Cell.okWide P w r base u x := by
  simp only [Value.okWide, hu] at h
  obtain ⟨cs, rfl, h1, ts', h2, _, h3⟩ := h
  rw [hc] at h2
  injection h2 with h2
  subst h2
  have h4 : ∀ (i : Nat) v, cs.toList[i]? = some v → ∃ u, ts[i]? = some u ∧ Cell.okWide P w r base u v := fun i v hi => by
    have hi' : cs[i]? = some v := by simpa using hi
    have hlt : i < cs.size := (Array.getElem?_eq_some_iff.1 hi').1
    obtain ⟨u, e, hk⟩ := h3 i v hi'
    rw [Nat.mod_eq_of_lt (by omega)] at e
    exact ⟨u, e, hk⟩
  have key := absL_VRs (P := P) (g := G.e) (w := w) (r := r) (base := base) ts cs.toList (by simp; omega) h4
  exact ⟨cs.toList, ⟨by simp, by simp; omega, key.1, key.2⟩, h4⟩
theorem ArgAt.VR {P : Program} {g : G} {ts : List TypeId} {v : Value} {cs : List Value} (h : ArgAt P g ts v cs) : VR g (.agg (ts.map (absT P))) v := by rw [h.eq]; exact .agg _ cs h.vrs h.one
/-- .. of which one cell is known better. -/
theorem ArgAt.VR1 {P : Program} {g : G} {ts : List TypeId} {v : Value} {cs : List Value} (h : ArgAt P g ts v cs) (i : Nat) {x : Value} (hx : cs[i]? = some x) {a : AV} (ha : Kx.VR g a x) : Kx.VR g (.agg ((ts.map (absT P)).set i a)) v := by
  rw [h.eq]; exact .agg _ cs (VRs.setAt ha i h.vrs hx) h.one
theorem cell_at {P : Program} {w : World} {r : Reach} {base : Nat} {ts : List TypeId} {cs : List Value} (hl : cs.length = ts.length) (h : ∀ (i : Nat) x, cs[i]? = some x → ∃ u, ts[i]? = some u ∧ Cell.okWide P w r base u x) (i : Nat) (u : TypeId) (hu : ts[i]? = some u) : ∃ x, cs[i]? = some x ∧ Cell.okWide P w r base u x := by
  have hi : i < ts.length := (List.getElem?_eq_some_iff.1 hu).1
  have hx : cs[i]? = some cs[i] := List.getElem?_eq_getElem (by omega)
  obtain ⟨u', e, hk⟩ := h i _ hx
  rw [hu] at e
  injection e with e
  subst e
  exact ⟨_, hx, hk⟩
theorem cell_int {P : Program} {w : World} {r : Reach} {base : Nat} {u : TypeId} {x : Value} (hu : P.underlying u = some (.int .i64)) (h : Cell.okWide P w r base u x) : ∃ n, x = .int .i64 n ∧ IntKind.i64.wrap n = n := by
  unfold Cell.okWide at h
  simp only [hu] at h
  cases x <;> simp only [Cell.ok, hu] at h <;> try exact h.elim
  obtain ⟨rfl, h⟩ := h
  refine ⟨_, rfl, ?_⟩
  simp only [IntKind.has] at h
  rw [IntKind.wrap_i64]
  simp [IntKind.min, IntKind.max, IntKind.bits, IntKind.signed] at h
  omega
theorem cell_slice {P : Program} {w : World} {r : Reach} {base : Nat} {u e : TypeId} {x : Value} (hu : P.underlying u = some (.slice e)) (h : Cell.okWide P w r base u x) : ∃ a n c, x = .slice a n c := by
  unfold Cell.okWide at h
  simp only [hu] at h
  cases x <;> simp only [Cell.ok, hu] at h <;> first | exact ⟨_, _, _, rfl⟩ | exact h.elim
end Go.Proofs.YtbadllndkgdlfaaGreatDoor.Kx
