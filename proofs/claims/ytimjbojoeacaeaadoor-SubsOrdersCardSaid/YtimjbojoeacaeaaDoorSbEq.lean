/- Plain laws: what Drop and Add answer is the page's, of lists that may be. -/
import Derived.Test.YtimjbojoeacaeaaDoorSbRefAdd
namespace Go.Proofs.YtimjbojoeacaeaaDoor
open Go.RowKit Go.Shelf Go.Proofs

theorem bytes_eq (x f : ByteArray) : (x.toList == f.toList) = decide (x = f) := by
  by_cases e : x = f
  · subst e; simp
  · rw [decide_eq_false e]
    rw [beq_eq_false_iff_ne]
    intro h
    rw [Lib.toList_data, Lib.toList_data] at h
    exact e (by rw [← bs_of x, ← bs_of f, h])
theorem lessB_irrefl (f : ByteArray) : lessB f f = false := less_irrefl _
/-- In a list that rises a filter stands where it is looked for. -/
theorem posW_of {L : List Wish1} {f : ByteArray} {j : Nat} {x : Wish1} (hs : Sorted L) (hx : L[j]? = some x) (he : x.f = f) : posW L f = j := by
  have hj := (List.getElem?_eq_some_iff.1 hx).1
  refine takeWhile_stop _ L j (by omega) (fun t y ht hy => ?_) (fun y hy => ?_)
  · rw [← he]; exact hs t j y x ht hy hx
  · rw [hx] at hy; injection hy with hy; subst hy; rw [he]; exact lessB_irrefl f
theorem without_all {L : List Wish1} {f : ByteArray} (h : ∀ x ∈ L, x.f ≠ f) : without L f = L := by
  unfold without
  rw [List.filter_eq_self]
  intro x hx
  rw [bytes_eq, decide_eq_false (h x hx)]; rfl
theorem dropL_eq {L : List Wish1} (f : ByteArray) (h : subsB L = true) : dropL L f = if (without L f).length < L.length then (without L f, 0) else ([], 3) := by
  have hs := sorted_of h
  unfold dropL
  rw [if_pos h]
  cases ht : thereW L f
  · have hw : without L f = L := without_all (fun x hx e => by
      obtain ⟨j, hj⟩ := List.getElem?_of_mem hx
      have hp := posW_of hs hj e
      unfold thereW at ht
      rw [hp, hj] at ht
      simp [e] at ht)
    rw [hw, if_neg (show ¬ false = true by decide), if_neg (show ¬ L.length < L.length by omega)]
  · obtain ⟨x, hx, he⟩ := there_lt ht
    obtain ⟨hlt, hx'⟩ := List.getElem?_eq_some_iff.1 hx
    obtain ⟨p, hp⟩ : ∃ p, posW L f = p := ⟨_, rfl⟩
    rw [hp] at hx hlt
    have hL : L = L.take p ++ x :: L.drop (p + 1) := by
      obtain ⟨h1, rfl⟩ := List.getElem?_eq_some_iff.1 hx
      simp
    have h1 : without (L.take p) f = L.take p := without_all (fun y hy e => by
      obtain ⟨j, hj⟩ := List.getElem?_of_mem hy
      have hjl := (List.getElem?_eq_some_iff.1 hj).1
      rw [List.length_take] at hjl
      rw [List.getElem?_take, if_pos (by omega)] at hj
      have := posW_of hs hj e
      omega)
    have h2 : without (L.drop (p + 1)) f = L.drop (p + 1) := without_all (fun y hy e => by
      obtain ⟨j, hj⟩ := List.getElem?_of_mem hy
      rw [List.getElem?_drop] at hj
      have := posW_of hs hj e
      omega)
    have hw : without L f = L.take p ++ L.drop (p + 1) := by
      have e1 : without L f = without (L.take p) f ++ without (x :: L.drop (p + 1)) f := by
        conv => lhs; rw [hL]
        unfold without
        rw [List.filter_append]
      have e2 : without (x :: L.drop (p + 1)) f = without (L.drop (p + 1)) f := by
        unfold without
        rw [List.filter_cons, bytes_eq, decide_eq_true he]; rfl
      rw [e1, e2, h1, h2]
    have hlen : (L.take p ++ L.drop (p + 1)).length < L.length := by rw [List.length_append, List.length_take, List.length_drop]; omega
    rw [hw, hp, if_pos rfl, if_pos hlen]
theorem addL_eq {L : List Wish1} {x : Wish1} (h : subsB L = true) (hx : mayW x = true) : addL L x = raddL L x := by
  have hl := subsB_len h
  unfold addL raddL
  rw [h, hx]
  show (if thereW L x.f = true then _ else if L.length = 16 then _ else _) = _
  by_cases e : L.length = 16
  · rw [if_pos e, if_pos (show 16 ≤ L.length by omega)]
  · rw [if_neg e, if_neg (show ¬ 16 ≤ L.length by omega)]
theorem addL_no {L : List Wish1} {x : Wish1} (h : (subsB L && mayW x) = false) : addL L x = ([], 1) := by
  unfold addL
  rw [h]; rfl
theorem dropL_no {L : List Wish1} {f : ByteArray} (h : subsB L = false) : dropL L f = ([], 1) := by
  unfold dropL
  rw [h]; rfl
theorem short_of {L M : List Wish1} (h : Short L) (hm : ∀ x ∈ M, x ∈ L) : Short M := by
  intro i x hx
  obtain ⟨j, hj⟩ := List.getElem?_of_mem (hm x (List.mem_of_getElem? hx))
  exact h j x hj
theorem short_without {L : List Wish1} (f : ByteArray) (h : Short L) : Short (without L f) := short_of h (fun x hx => (List.mem_filter.1 hx).1)
theorem short_empty : Short [] := fun i x hx => by simp at hx
theorem mem_radd {L : List Wish1} {x y : Wish1} (h : y ∈ (raddL L x).1) : y ∈ x :: L := by
  unfold raddL at h
  split at h
  · rcases List.mem_or_eq_of_mem_set h with h | h
    · exact List.mem_cons_of_mem _ h
    · subst h; exact List.mem_cons_self
  · split at h
    · simp at h
    · rcases List.mem_append.1 h with h | h
      · exact List.mem_cons_of_mem _ (List.mem_of_mem_take h)
      · rcases List.mem_cons.1 h with h | h
        · subst h; exact List.mem_cons_self
        · exact List.mem_cons_of_mem _ (List.mem_of_mem_drop h)
theorem short_radd {L : List Wish1} {x : Wish1} (h : Short L) (hx : x.f.size ≤ 100000) : Short (raddL L x).1 := by
  refine short_of (L := x :: L) (fun i y hy => ?_) (fun y hy => mem_radd hy)
  cases i with
  | zero => simp at hy; subst hy; exact hx
  | succ i => exact h i y (by simpa using hy)
theorem radd_len {L : List Wish1} {x : Wish1} : (raddL L x).1.length ≤ L.length + 1 := by
  unfold raddL
  split
  · simp
  · split
    · simp
    · simp; omega
theorem radd_err (L : List Wish1) (x : Wish1) : (raddL L x).2 = 0 ∨ (raddL L x).2 = 5 := by
  unfold raddL
  split
  · exact .inl rfl
  · split
    · exact .inr rfl
    · exact .inl rfl
theorem without_len (L : List Wish1) (f : ByteArray) : (without L f).length ≤ L.length := List.length_filter_le _ _
theorem qx_hit {L : List Wish1} {t : ByteArray} {z : Int} (h1 : subsB L = true) (h2 : nm t = true) (h3 : bestFrom t (-1) L = z) (h4 : ¬ z < 0) : qRes L t = .tuple #[.int .i64 z, .int .i64 0] := by
  unfold qRes
  rw [h1, h2, h3]
  show (if z < 0 then _ else _ : Value) = _
  rw [if_neg h4]
theorem qx_none {L : List Wish1} {t : ByteArray} {z : Int} (h1 : subsB L = true) (h2 : nm t = true) (h3 : bestFrom t (-1) L = z) (h4 : z < 0) : qRes L t = .tuple #[.int .i64 0, .int .i64 3] := by
  unfold qRes
  rw [h1, h2, h3]
  show (if z < 0 then _ else _ : Value) = _
  rw [if_pos h4]
end Go.Proofs.YtimjbojoeacaeaaDoor
