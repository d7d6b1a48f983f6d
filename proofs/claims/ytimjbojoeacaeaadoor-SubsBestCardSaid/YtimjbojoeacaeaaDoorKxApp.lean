/- The evaluator's append and copy. -/
import Derived.Test.YtimjbojoeacaeaaDoorKxWrite
import Derived.Laws.Append
namespace Go.Proofs.YtimjbojoeacaeaaDoor.Kx
section
variable {P : Program} {B0 : Nat} {g : G} {h : H} {w : World}

theorem lenOf_ok {x : AV} {xv : Value} (hx : VR g x xv) {n : Nat} (e : lenOf x = some n) (w : World) : (Builtin.lenOf xv).run P w = .ok n w := by
  cases hx <;> first | (cases e; done) | (injection e with e; subst e; simp [Builtin.lenOf]; done) | skip
  rename_i s
  injection e with e
  subst e
  simp [Builtin.lenOf, byteL_length]
theorem sliceCells (hr : HR B0 g h w) {b o n m : Nat} {c : Cap} {xv : Value} (hx : VR g (.slc b o m c) xv) {k size : Nat} {cs : List AV} (hn : n ≤ m) (hk : k = n * size) (e : cellsAt h b o k = some cs) :
    ∃ cs' : List Value, (∀ w', w'.heap = w.heap → (Builtin.firstCells size n xv).run P w' = .ok cs'.toArray w') ∧ VRs g cs cs' ∧ (∀ v ∈ cs', one1 v = true) ∧ cs'.length = n * size := by
  subst hk
  obtain ⟨B, base, mm, ro, hp, rfl, hro⟩ := hx.slc_form
  unfold cellsAt at e
  cases hob : objCells (h.m.get b) with
  | none => rw [hob] at e; cases e
  | some c' =>
    rw [hob] at e
    obtain ⟨cs', a1, a2, a3, _, a5⟩ := (hr.row hob hp).cells (P := P) e
    refine ⟨cs', fun w' hw' => ?_, a2, a3, a1⟩
    by_cases h0 : n * size = 0
    · rw [h0] at a1
      have : cs' = [] := List.eq_nil_of_length_eq_zero a1
      subst this
      simp [Builtin.firstCells, h0, loadCells, loadCellsFrom]
    · have hn0 : 0 < n := by rcases Nat.eq_zero_or_pos n with h1 | h1; exact absurd (by rw [h1]; simp) h0; exact h1
      obtain rfl := hro (by omega)
      simp only [Builtin.firstCells]
      rw [← a1]
      exact run_loadCells_list w' _ cs' (fun j v hj => by
        have := a5 j v hj
        unfold World.cell? at this ⊢
        rw [hw']
        exact this)
theorem firstCells_ok (hr : HR B0 g h w) {x : AV} {xv : Value} (hx : VR g x xv) {size n m : Nat} {cs : List AV} (hm : lenOf x = some m) (hn : n ≤ m) (e : firstCells x h size n = some cs) (hs : ∀ l, x = .str l → size = 1) :
    ∃ cs' : List Value, (∀ w', w'.heap = w.heap → (Builtin.firstCells size n xv).run P w' = .ok cs'.toArray w') ∧ VRs g cs cs' ∧ (∀ v ∈ cs', one1 v = true) ∧ cs'.length = n * size := by
  cases x
  case nils =>
    cases hx
    injection e with e; subst e
    injection hm with hm; subst hm
    obtain rfl : n = 0 := by omega
    exact ⟨[], fun w' _ => by simp [Builtin.firstCells], .nil, by simp, by simp⟩
  case str l =>
    have hs1 := hs _ rfl
    subst hs1
    obtain ⟨s, rfl, rfl⟩ := hx.str_inv
    injection e with e; subst e
    injection hm with hm; subst hm
    rw [len_eq, byteL_length] at hn
    refine ⟨(s.data.toList.take n).map (fun b => .int .u8 b.toNat), fun w' _ => ?_, ?_, ?_, ?_⟩
    · simp [Builtin.firstCells, ByteArray.data_extract]
      apply Array.ext'
      simp
    · have key : ∀ l : List UInt8, VRs g (u8s (byteL l)) (l.map (fun b => .int .u8 b.toNat)) := fun l => by
        induction l with
        | nil => exact .nil
        | cons a r ih => exact .cons _ _ _ _ (.int _ _) ih
      rw [tak_eq, ← byteL_take]
      exact key _
    · intro v hv
      obtain ⟨b, _, rfl⟩ := List.mem_map.1 hv
      rfl
    · simp at hn ⊢
      omega
  case slc b o len c =>
    injection hm with hm; subst hm
    exact sliceCells hr hx hn rfl e
  all_goals cases e
end
end Go.Proofs.YtimjbojoeacaeaaDoor.Kx
