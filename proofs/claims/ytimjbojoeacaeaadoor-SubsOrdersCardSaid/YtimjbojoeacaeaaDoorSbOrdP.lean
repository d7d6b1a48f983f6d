/- Plain laws for SubsOrders: lists that may be, with a wish more, or less. -/
import Derived.Test.YtimjbojoeacaeaaDoorSbEq
namespace Go.Proofs.YtimjbojoeacaeaaDoor
open Go.RowKit Go.Shelf Go.Proofs

theorem less_total : ∀ a b : List UInt8, Op.bytesLess a b = false → a ≠ b → Op.bytesLess b a = true
  | [], [], _, h => absurd rfl h
  | [], _ :: _, h, _ => by simp [Op.bytesLess] at h
  | _ :: _, [], _, _ => by simp [Op.bytesLess]
  | x :: a, y :: b, h, hn => by
    unfold Op.bytesLess at h ⊢
    by_cases hxy : x < y
    · simp [hxy] at h
    · by_cases hyx : y < x
      · simp [hyx]
      · have e : x = y := by
          have h1 : ¬ x.toNat < y.toNat := fun e => hxy (UInt8.lt_iff_toNat_lt.2 e)
          have h2 : ¬ y.toNat < x.toNat := fun e => hyx (UInt8.lt_iff_toNat_lt.2 e)
          exact UInt8.toNat_inj.1 (by omega)
        subst e
        have hab : a ≠ b := fun e => hn (by rw [e])
        simp at h ⊢
        exact less_total a b (by simpa using h) hab
theorem lessB_total {a b : ByteArray} (h : lessB a b = false) (hn : a ≠ b) : lessB b a = true :=
  less_total _ _ h (fun e => hn (by rw [Lib.toList_data, Lib.toList_data] at e; rw [← bs_of a, ← bs_of b, e]))
theorem lessB_asymm {a b : ByteArray} (h : lessB a b = true) : lessB b a = false := by
  cases e : lessB b a
  · rfl
  · have := lessB_trans h e
    rw [lessB_irrefl] at this
    cases this
theorem lessB_ne {a b : ByteArray} (h : lessB a b = true) : a ≠ b := fun e => by rw [e, lessB_irrefl] at h; cases h
theorem sorted_pw {L : List Wish1} : Sorted L ↔ L.Pairwise (fun x y => lessB x.f y.f = true) := by
  rw [List.pairwise_iff_getElem]
  constructor
  · intro h i j hi hj hij
    exact h i j _ _ hij (List.getElem?_eq_getElem hi) (List.getElem?_eq_getElem hj)
  · intro h i j x y hij hx hy
    obtain ⟨hi, rfl⟩ := List.getElem?_eq_some_iff.1 hx
    obtain ⟨hj, rfl⟩ := List.getElem?_eq_some_iff.1 hy
    exact h i j hi hj hij
theorem subsB_mk {L : List Wish1} (hl : L.length ≤ 16) (hm : ∀ x ∈ L, mayW x = true) (hs : Sorted L) : subsB L = true := by
  unfold subsB
  rw [decide_eq_true hl, allW_good (fun j x _ hx => ?_)]; rfl
  have hmx := hm x (List.mem_of_getElem? hx)
  cases j with
  | zero => exact wOk_zero hmx
  | succ j =>
    have hj := (List.getElem?_eq_some_iff.1 hx).1
    have hy := List.getElem?_eq_getElem (l := L) (i := j) (by omega)
    rw [wOk_succ hmx hy]
    exact hs j (j + 1) _ x (by omega) hy hx
theorem subsB_mem {L : List Wish1} (h : subsB L = true) : ∀ x ∈ L, mayW x = true := fun x hx => by
  obtain ⟨i, hi⟩ := List.getElem?_of_mem hx
  exact subsB_q h i x hi
theorem subsB_sub {L M : List Wish1} (h : subsB L = true) (hs : M.Sublist L) : subsB M = true :=
  subsB_mk (Nat.le_trans hs.length_le (subsB_len h)) (fun x hx => subsB_mem h x (hs.subset hx)) (sorted_pw.2 ((sorted_pw.1 (sorted_of h)).sublist hs))
theorem tw_stop {α : Type} (q : α → Bool) : ∀ (l : List α) (y : α), l[(l.takeWhile q).length]? = some y → q y = false
  | [], y, h => by simp at h
  | a :: l, y, h => by
    rw [List.takeWhile_cons] at h
    by_cases hq : q a = true
    · rw [if_pos hq] at h
      exact tw_stop q l y (by simpa using h)
    · rw [if_neg hq] at h
      simp at h
      subst h
      simpa using hq
theorem posW_stop {L : List Wish1} {f : ByteArray} {y : Wish1} (h : L[posW L f]? = some y) : lessB y.f f = false := tw_stop (fun x : Wish1 => lessB x.f f) L y h
theorem posW_ahead {L : List Wish1} {f : ByteArray} : ∀ y ∈ L.take (posW L f), lessB y.f f = true := by
  intro y hy
  have e : L.take (posW L f) = L.takeWhile (fun x => lessB x.f f) := (List.prefix_iff_eq_take.1 (List.takeWhile_prefix (fun x : Wish1 => lessB x.f f))).symm
  rw [e] at hy
  have := List.all_takeWhile (p := fun x : Wish1 => lessB x.f f) (l := L)
  exact List.all_eq_true.1 this y hy
theorem posW_zero {L : List Wish1} {f : ByteArray} (h : ∀ y ∈ L, lessB f y.f = true) : posW L f = 0 := by
  unfold posW
  cases L with
  | nil => rfl
  | cons a r => rw [List.takeWhile_cons, if_neg (by rw [lessB_asymm (h a List.mem_cons_self)]; decide)]; rfl
theorem there_none {L : List Wish1} {f : ByteArray} (h : ∀ y ∈ L, y.f ≠ f) : thereW L f = false := by
  unfold thereW
  split
  · rename_i x hx
    exact decide_eq_false (h x (List.mem_of_getElem? hx))
  · rfl
theorem there_mem {L : List Wish1} {x : Wish1} (hs : Sorted L) (hx : x ∈ L) : thereW L x.f = true := by
  obtain ⟨j, hj⟩ := List.getElem?_of_mem hx
  unfold thereW
  rw [posW_of hs hj rfl, hj]
  simp

theorem mem_put {L : List Wish1} {p : Nat} {x : Wish1} (h : p < L.length) : x ∈ L.set p x := List.mem_of_getElem? (List.getElem?_set_self h)
/-- What a list that may be is with a wish more. -/
theorem subsB_add {L : List Wish1} {x : Wish1} (h : subsB L = true) (hx : mayW x = true) (hl : L.length < 16 ∨ thereW L x.f = true) :
    ∃ M, addL L x = (M, 0) ∧ subsB M = true ∧ x ∈ M ∧ (∀ y ∈ L, ∃ z ∈ M, z.f = y.f) ∧ M.length ≤ L.length + 1 ∧ (∀ y ∈ M, y = x ∨ y ∈ L) := by
  have hs := sorted_of h
  have hm := subsB_mem h
  have hlen := subsB_len h
  unfold addL
  rw [h, hx]
  cases ht : thereW L x.f
  · have hl' : L.length < 16 := by
      rcases hl with h | h
      · exact h
      · rw [ht] at h; cases h
    refine ⟨L.take (posW L x.f) ++ x :: L.drop (posW L x.f), ?_, ?_, by simp, ?_, by simp; omega, ?_⟩
    · rw [if_pos (show (true && true) = true from rfl), if_neg (show ¬ (false = true) by decide), if_neg (by omega)]
    · refine subsB_mk (by simp; omega) (fun y hy => ?_) (sorted_pw.2 ?_)
      · rcases List.mem_append.1 hy with h1 | h1
        · exact hm y (List.mem_of_mem_take h1)
        · rcases List.mem_cons.1 h1 with rfl | h1
          · exact hx
          · exact hm y (List.mem_of_mem_drop h1)
      · have hp := sorted_pw.1 hs
        have hp' := hp
        rw [← List.take_append_drop (posW L x.f) L] at hp'
        obtain ⟨p1, p2, p3⟩ := List.pairwise_append.1 hp'
        have hd : ∀ z ∈ L.drop (posW L x.f), lessB x.f z.f = true := by
          rcases hlt : L[posW L x.f]? with _ | y
          · have := List.getElem?_eq_none_iff.1 hlt
            rw [List.drop_eq_nil_of_le this]
            simp
          · obtain ⟨hi, hy⟩ := List.getElem?_eq_some_iff.1 hlt
            have hne : y.f ≠ x.f := fun e => by unfold thereW at ht; rw [hlt] at ht; simp [e] at ht
            have hxy := lessB_total (posW_stop hlt) hne
            rw [List.drop_eq_getElem_cons hi, hy] at p2 ⊢
            intro z hz
            rcases List.mem_cons.1 hz with rfl | hz
            · exact hxy
            · exact lessB_trans hxy ((List.pairwise_cons.1 p2).1 z hz)
        refine List.pairwise_append.2 ⟨p1, List.pairwise_cons.2 ⟨hd, p2⟩, fun a ha b hb => ?_⟩
        rcases List.mem_cons.1 hb with rfl | hb
        · exact posW_ahead a ha
        · exact p3 a ha b hb
    · intro y hy
      rw [← List.take_append_drop (posW L x.f) L] at hy
      refine ⟨y, ?_, rfl⟩
      rcases List.mem_append.1 hy with h1 | h1
      · exact List.mem_append_left _ h1
      · exact List.mem_append_right _ (List.mem_cons_of_mem _ h1)
    · intro y hy
      rcases List.mem_append.1 hy with h1 | h1
      · exact .inr (List.mem_of_mem_take h1)
      · rcases List.mem_cons.1 h1 with rfl | h1
        · exact .inl rfl
        · exact .inr (List.mem_of_mem_drop h1)
  · obtain ⟨y, hy, he⟩ := there_lt ht
    obtain ⟨hi, hyi⟩ := List.getElem?_eq_some_iff.1 hy
    refine ⟨L.set (posW L x.f) x, rfl, ?_, mem_put hi, ?_, by simp, fun z hz => (List.mem_or_eq_of_mem_set hz).symm⟩
    · refine subsB_mk (by simp; omega) (fun z hz => ?_) ?_
      · rcases List.mem_or_eq_of_mem_set hz with h1 | rfl
        · exact hm z h1
        · exact hx
      · intro i j a b hij ha hb
        obtain ⟨hil, rfl⟩ := List.getElem?_eq_some_iff.1 ha
        obtain ⟨hjl, rfl⟩ := List.getElem?_eq_some_iff.1 hb
        rw [List.length_set] at hil hjl
        have hf : ∀ (t : Nat) (ht : t < L.length), ((L.set (posW L x.f) x)[t]'(by simpa using ht)).f = L[t].f := by
          intro t ht
          rw [List.getElem_set]
          split
          · rename_i e; subst e; rw [hyi, he]
          · rfl
        rw [hf i hil, hf j hjl]
        exact hs i j _ _ hij (List.getElem?_eq_getElem hil) (List.getElem?_eq_getElem hjl)
    · intro z hz
      obtain ⟨j, hj⟩ := List.getElem?_of_mem hz
      by_cases e : posW L x.f = j
      · subst e
        rw [hy] at hj
        injection hj with hj
        subst hj
        exact ⟨x, mem_put hi, he.symm⟩
      · exact ⟨z, List.mem_of_getElem? (by rw [List.getElem?_set_ne e]; exact hj), rfl⟩

theorem add_front {R : List Wish1} {x y : Wish1} (h : subsB (y :: R) = true) (he : x.f = y.f) (hx : mayW x = true) : addL R x = (x :: R, 0) ∧ subsB (x :: R) = true := by
  have hp := (List.pairwise_cons.1 (sorted_pw.1 (sorted_of h)))
  have hR := subsB_sub h (List.sublist_cons_self y R)
  have hlen := subsB_len h
  rw [List.length_cons] at hlen
  have h0 : posW R x.f = 0 := posW_zero (fun z hz => by rw [he]; exact hp.1 z hz)
  have ht : thereW R x.f = false := there_none (fun z hz e => lessB_ne (hp.1 z hz) (by rw [e, he]))
  refine ⟨?_, subsB_mk (by simpa using hlen) (fun z hz => ?_) (sorted_pw.2 (List.pairwise_cons.2 ⟨fun z hz => by rw [he]; exact hp.1 z hz, hp.2⟩))⟩
  · unfold addL
    rw [hR, hx, ht, h0]
    rw [if_pos (show (true && true) = true from rfl), if_neg (show ¬ (false = true) by decide), if_neg (by omega)]
    simp
  · rcases List.mem_cons.1 hz with rfl | hz
    · exact hx
    · exact subsB_mem hR z hz
theorem add_again {R : List Wish1} {x y : Wish1} (h : subsB (x :: R) = true) (he : x.f = y.f) (hy : mayW y = true) : addL (x :: R) y = (y :: R, 0) := by
  have h0 : posW (x :: R) y.f = 0 := by
    unfold posW
    rw [List.takeWhile_cons, if_neg (by rw [he, lessB_irrefl]; decide)]; rfl
  have ht : thereW (x :: R) y.f = true := by unfold thereW; rw [h0]; simp [he]
  unfold addL
  rw [h, hy, ht, h0]
  rfl
/-- Taken away, and added again. -/
theorem drop_add {L : List Wish1} {i : Nat} {y : Wish1} (h : subsB L = true) (hy : L[i]? = some y) :
    dropL L y.f = (L.take i ++ L.drop (i + 1), 0) ∧ subsB (L.take i ++ L.drop (i + 1)) = true ∧ dropL (L.take i ++ L.drop (i + 1)) y.f = ([], 3) ∧ addL (L.take i ++ L.drop (i + 1)) y = (L, 0) := by
  have hs := sorted_of h
  have hp := posW_of hs hy rfl
  obtain ⟨hi, hyi⟩ := List.getElem?_eq_some_iff.1 hy
  have ht := there_mem hs (List.mem_of_getElem? hy)
  have hL : L = L.take i ++ y :: L.drop (i + 1) := by rw [← hyi]; simp
  have hsub : (L.take i ++ L.drop (i + 1)).Sublist L := by
    conv => rhs; rw [hL]
    exact List.Sublist.append (List.Sublist.refl _) (List.sublist_cons_self _ _)
  have hX := subsB_sub h hsub
  have hp' := sorted_pw.1 hs
  rw [hL] at hp'
  obtain ⟨p1, p2, p3⟩ := List.pairwise_append.1 hp'
  have hne : ∀ z ∈ L.take i ++ L.drop (i + 1), z.f ≠ y.f := by
    intro z hz
    rcases List.mem_append.1 hz with hz | hz
    · exact lessB_ne (p3 z hz y List.mem_cons_self)
    · exact fun e => lessB_ne ((List.pairwise_cons.1 p2).1 z hz) e.symm
  have hno := there_none hne
  have hlen := subsB_len h
  have hpX : posW (L.take i ++ L.drop (i + 1)) y.f = i := by
    refine takeWhile_stop _ _ i (by simp; omega) (fun t x ht hx => ?_) (fun x hx => ?_)
    · rw [List.getElem?_append_left (by simp; omega)] at hx
      exact p3 x (List.mem_of_getElem? hx) y List.mem_cons_self
    · rw [List.getElem?_append_right (by simp; omega)] at hx
      exact lessB_asymm ((List.pairwise_cons.1 p2).1 x (List.mem_of_getElem? hx))
  refine ⟨?_, hX, ?_, ?_⟩
  · unfold dropL; rw [h, ht, hp]; rfl
  · unfold dropL; rw [hX, hno]; rfl
  · unfold addL
    rw [hX, subsB_mem h y (List.mem_of_getElem? hy), hno, hpX]
    rw [if_pos (show (true && true) = true from rfl), if_neg (show ¬ (false = true) by decide), if_neg (by simp; omega)]
    have e1 : (L.take i ++ L.drop (i + 1)).take i = L.take i := by rw [List.take_append_of_le_length (by simp; omega), List.take_take, Nat.min_self]
    have e2 : (L.take i ++ L.drop (i + 1)).drop i = L.drop (i + 1) := by
      rw [List.drop_append, List.drop_eq_nil_of_le (by simp; omega)]
      simp only [List.nil_append, List.length_take]
      rw [show i - min i L.length = 0 by omega, List.drop_zero]
    rw [e1, e2, ← hL]

/-- So many unlike things lie in a list of no less. -/
theorem pigeons {α : Type} [DecidableEq α] : ∀ (k : Nat) (g : Nat → α) (l : List α), (∀ i j, i < k → j < k → g i = g j → i = j) → (∀ i, i < k → g i ∈ l) → k ≤ l.length
  | 0, _, _, _, _ => Nat.zero_le _
  | k + 1, g, l, hg, hl => by
    have hm := hl k (by omega)
    have := pigeons k g (l.erase (g k)) (fun i j hi hj e => hg i j (by omega) (by omega) e) (fun i hi => (List.mem_erase_of_ne (fun e => by have := hg i k (by omega) (by omega) e; omega)).2 (hl i (by omega)))
    rw [List.length_erase_of_mem hm] at this
    have hpos : 0 < l.length := List.length_pos_of_mem hm
    omega
end Go.Proofs.YtimjbojoeacaeaaDoor
