/- Plain laws: what Put answers is the page's, of what may be. -/
import Derived.Test.YtimjbojoeacaeaaDoorKpMatch
namespace Go.Proofs.YtimjbojoeacaeaaDoor
open Go.RowKit Go.Shelf Go.Proofs

theorem put_eq {L : List Msg1} {x : Msg1} (h : subsB L = true) (hx : mayW x = true) : putL L x = rputL L x := by
  rw [putL_yes h hx]
  have hlen := subsB_len h
  cases ht : thereW L x.f
  · by_cases hp : x.p.toList = []
    · rw [rput_empty rfl ht rfl hp, if_pos hp]
      simp
    · by_cases h16 : L.length = 16
      · rw [rput_full ht hp (by omega), if_neg hp, if_pos h16]
        simp
      · rw [rput_more rfl ht rfl hp (by rintro ⟨_, h⟩; omega), if_neg hp, if_neg h16]
        simp
  · obtain ⟨y, hy, _⟩ := there_lt ht
    have hlt := (List.getElem?_eq_some_iff.1 hy).1
    by_cases hp : x.p.toList = []
    · rw [rput_empty rfl ht rfl hp, if_pos hp]
      simp
    · rw [rput_more rfl ht rfl hp (by rintro ⟨h, _⟩; cases h), if_neg hp]
      simp [List.set_eq_take_append_cons_drop, hlt]
theorem short_of {L M : List Msg1} (h : Short L) (hm : ∀ x ∈ M, x ∈ L) : Short M := by
  intro i x hx
  obtain ⟨j, hj⟩ := List.getElem?_of_mem (hm x (List.mem_of_getElem? hx))
  exact h j x hj
theorem short_empty : Short [] := fun i x hx => by simp at hx
theorem short_hits {L : List Msg1} (f : ByteArray) (h : Short L) : Short (hits f L) := short_of h (fun x hx => (List.mem_filter.1 hx).1)
theorem short_cons {L : List Msg1} {x : Msg1} (h : Short L) (hx : x.f.size ≤ 100000 ∧ x.p.size ≤ 100000) : Short (x :: L) := by
  intro i y hy
  cases i with
  | zero => simp at hy; subst hy; exact hx
  | succ i => exact h i y (by simpa using hy)
theorem mem_rput {L : List Msg1} {x y : Msg1} (h : y ∈ (rputL L x).1) : y ∈ x :: L := by
  unfold rputL at h
  simp only at h
  split at h
  · rcases List.mem_append.1 h with h | h
    · exact List.mem_cons_of_mem _ (List.mem_of_mem_take h)
    · exact List.mem_cons_of_mem _ (List.mem_of_mem_drop h)
  · split at h
    · simp at h
    · rcases List.mem_append.1 h with h | h
      · rcases List.mem_append.1 h with h | h
        · exact List.mem_cons_of_mem _ (List.mem_of_mem_take h)
        · simp at h; subst h; exact List.mem_cons_self
      · exact List.mem_cons_of_mem _ (List.mem_of_mem_drop h)
theorem short_rput {L : List Msg1} {x : Msg1} (h : Short L) (hx : x.f.size ≤ 100000 ∧ x.p.size ≤ 100000) : Short (rputL L x).1 := short_of (short_cons h hx) (fun _ hy => mem_rput hy)
theorem rput_len {L : List Msg1} {x : Msg1} : (rputL L x).1.length ≤ 2 * L.length + 1 := by
  unfold rputL
  simp only
  split
  · simp; omega
  · split
    · simp
    · simp; omega
theorem match_yes {L : List Msg1} {f : ByteArray} (h : subsB L = true) (hf : ft f = true) : matchM L f = (hits f L, 0) := by unfold matchM; rw [h, hf]; rfl
theorem match_no {L : List Msg1} {f : ByteArray} (h : (subsB L && ft f) = false) : matchM L f = ([], 1) := by unfold matchM; rw [h]; rfl
end Go.Proofs.YtimjbojoeacaeaaDoor
