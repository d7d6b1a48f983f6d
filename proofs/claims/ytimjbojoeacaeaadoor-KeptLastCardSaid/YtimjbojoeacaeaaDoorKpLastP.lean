/- Plain laws for KeptLast: what a list that may be is behind a message that was put. -/
import Derived.Test.YtimjbojoeacaeaaDoorKpEq
import Derived.Test.YtimjbojoeacaeaaDoorTpSelfPlain
namespace Go.Proofs.YtimjbojoeacaeaaDoor
open Go.RowKit Go.Shelf Go.Proofs

theorem lessB_irrefl (f : ByteArray) : lessB f f = false := less_irrefl _
theorem less_total : ∀ a b : List UInt8, Op.bytesLess a b = false → a ≠ b → Op.bytesLess b a = true
  | [], [], _, h => absurd rfl h
  | [], _ :: _, h, _ => by simp [Op.bytesLess] at h
  | _ :: _, [], _, _ => by simp [Op.bytesLess]
  | x :: a, y :: b, h, hn => by
    unfold Op.bytesLess at h ⊢
    by_cases hxy : x < y
    · simp [hxy] at h
    · by_cases hyx : y < x
      · simp [hyx]
      · have e : x = y := by
          have h1 : ¬ x.toNat < y.toNat := fun e => hxy (UInt8.lt_iff_toNat_lt.2 e)
          have h2 : ¬ y.toNat < x.toNat := fun e => hyx (UInt8.lt_iff_toNat_lt.2 e)
          exact UInt8.toNat_inj.1 (by omega)
        subst e
        have hab : a ≠ b := fun e => hn (by rw [e])
        simp at h ⊢
        exact less_total a b (by simpa using h) hab
theorem lessB_total {a b : ByteArray} (h : lessB a b = false) (hn : a ≠ b) : lessB b a = true :=
  less_total _ _ h (fun e => hn (by rw [Lib.toList_data, Lib.toList_data] at e; rw [← bs_of a, ← bs_of b, e]))
theorem lessB_ne {a b : ByteArray} (h : lessB a b = true) : a ≠ b := fun e => by rw [e, lessB_irrefl] at h; cases h
theorem sorted_pw {L : List Msg1} : Sorted L ↔ L.Pairwise (fun x y => lessB x.f y.f = true) := by
  rw [List.pairwise_iff_getElem]
  constructor
  · intro h i j hi hj hij
    exact h i j _ _ hij (List.getElem?_eq_getElem hi) (List.getElem?_eq_getElem hj)
  · intro h i j x y hij hx hy
    obtain ⟨hi, rfl⟩ := List.getElem?_eq_some_iff.1 hx
    obtain ⟨hj, rfl⟩ := List.getElem?_eq_some_iff.1 hy
    exact h i j hi hj hij
theorem subsB_mk {L : List Msg1} (hl : L.length ≤ 16) (hm : ∀ x ∈ L, mayK x = true) (hs : Sorted L) : subsB L = true := by
  unfold subsB
  rw [decide_eq_true hl, allW_good (fun j x _ hx => ?_)]; rfl
  have hmx := hm x (List.mem_of_getElem? hx)
  cases j with
  | zero => exact wOk_zero hmx
  | succ j =>
    have hj := (List.getElem?_eq_some_iff.1 hx).1
    have hy := List.getElem?_eq_getElem (l := L) (i := j) (by omega)
    rw [wOk_succ hmx hy]
    exact hs j (j + 1) _ x (by omega) hy hx
theorem subsB_mem {L : List Msg1} (h : subsB L = true) : ∀ x ∈ L, mayK x = true := fun x hx => by
  obtain ⟨i, hi⟩ := List.getElem?_of_mem hx
  exact subsB_q h i x hi
theorem tw_stop {α : Type} (q : α → Bool) : ∀ (l : List α) (y : α), l[(l.takeWhile q).length]? = some y → q y = false
  | [], y, h => by simp at h
  | a :: l, y, h => by
    rw [List.takeWhile_cons] at h
    by_cases hq : q a = true
    · rw [if_pos hq] at h
      exact tw_stop q l y (by simpa using h)
    · rw [if_neg hq] at h
      simp at h
      subst h
      simpa using hq
theorem posW_stop {L : List Msg1} {f : ByteArray} {y : Msg1} (h : L[posW L f]? = some y) : lessB y.f f = false := tw_stop (fun x : Msg1 => lessB x.f f) L y h
theorem posW_ahead {L : List Msg1} {f : ByteArray} : ∀ y ∈ L.take (posW L f), lessB y.f f = true := by
  intro y hy
  have e : L.take (posW L f) = L.takeWhile (fun x => lessB x.f f) := (List.prefix_iff_eq_take.1 (List.takeWhile_prefix (fun x : Msg1 => lessB x.f f))).symm
  rw [e] at hy
  have := List.all_takeWhile (p := fun x : Msg1 => lessB x.f f) (l := L)
  exact List.all_eq_true.1 this y hy
/-- Where what lies behind begins. -/
def dropAt (L : List Msg1) (f : ByteArray) : Nat := if thereW L f then posW L f + 1 else posW L f
theorem posW_behind {L : List Msg1} {f : ByteArray} (hs : Sorted L) : ∀ y ∈ L.drop (dropAt L f), lessB f y.f = true := by
  unfold dropAt
  cases ht : thereW L f
  · intro z hz
    rcases hlt : L[posW L f]? with _ | y
    · have := List.getElem?_eq_none_iff.1 hlt
      rw [if_neg (by decide), List.drop_eq_nil_of_le this] at hz
      simp at hz
    · obtain ⟨hi, hy⟩ := List.getElem?_eq_some_iff.1 hlt
      have hne : y.f ≠ f := fun e => by unfold thereW at ht; rw [hlt] at ht; simp [e] at ht
      have hxy := lessB_total (posW_stop hlt) hne
      rw [if_neg (by decide), List.drop_eq_getElem_cons hi, hy] at hz
      rcases List.mem_cons.1 hz with rfl | hz
      · exact hxy
      · obtain ⟨j, hj⟩ := List.getElem?_of_mem hz
        rw [List.getElem?_drop] at hj
        exact lessB_trans hxy (hs (posW L f) _ y z (by omega) hlt hj)
  · obtain ⟨y, hy, he⟩ := there_lt ht
    intro z hz
    rw [if_pos rfl] at hz
    obtain ⟨j, hj⟩ := List.getElem?_of_mem hz
    rw [List.getElem?_drop] at hj
    rw [← he]
    exact hs (posW L f) _ y z (by omega) hy hj
theorem mem_parts {L : List Msg1} {f : ByteArray} {y : Msg1} (h : y ∈ L) : y ∈ L.take (posW L f) ∨ y.f = f ∨ y ∈ L.drop (dropAt L f) := by
  unfold dropAt
  rw [← List.take_append_drop (posW L f) L] at h
  rcases List.mem_append.1 h with h | h
  · exact .inl h
  · cases ht : thereW L f
    · exact .inr (.inr (by simpa using h))
    · obtain ⟨z, hz, he⟩ := there_lt ht
      obtain ⟨hi, hzi⟩ := List.getElem?_eq_some_iff.1 hz
      rw [List.drop_eq_getElem_cons hi, hzi] at h
      rcases List.mem_cons.1 h with rfl | h
      · exact .inr (.inl he)
      · exact .inr (.inr (by simpa using h))

theorem put_zero {L : List Msg1} {x : Msg1} {X : List Msg1} (he : putL L x = (X, 0)) : subsB L = true ∧ mayW x = true := by
  cases h : (subsB L && mayW x)
  · rw [putL_no h] at he
    injection he with _ e
    cases e
  · rw [Bool.and_eq_true] at h
    exact h
def isF (f : ByteArray) (y : Msg1) : Bool := y.f.toList == f.toList
theorem isF_iff {f : ByteArray} {y : Msg1} : isF f y = true ↔ y.f = f := by
  unfold isF
  rw [beq_iff_eq]
  refine ⟨fun e => ?_, fun e => by rw [e]⟩
  rw [Lib.toList_data, Lib.toList_data] at e
  rw [← bs_of y.f, ← bs_of f, e]
theorem put_last {L X : List Msg1} {x : Msg1} (he : putL L x = (X, 0)) :
    subsB X = true ∧ (∀ y ∈ X, y.f = x.f → y = x ∧ ¬ x.p.toList = []) ∧ X.countP (isF x.f) = (if x.p.toList = [] then 0 else 1) ∧ (∀ y ∈ L, y.f = x.f ∨ y ∈ X) ∧ (∀ y ∈ X, y = x ∨ y ∈ L) := by
  obtain ⟨h, hx⟩ := put_zero he
  have hs := sorted_of h
  have hlen := subsB_len h
  have hm := subsB_mem h
  have hA := posW_ahead (L := L) (f := x.f)
  have hB := posW_behind (L := L) (f := x.f) hs
  have hp := sorted_pw.1 hs
  have hpA : (L.take (posW L x.f)).Pairwise (fun x y => lessB x.f y.f = true) := hp.sublist (List.take_sublist _ _)
  have hpB : (L.drop (dropAt L x.f)).Pairwise (fun x y => lessB x.f y.f = true) := hp.sublist (List.drop_sublist _ _)
  have hAB : ∀ a ∈ L.take (posW L x.f), ∀ b ∈ L.drop (dropAt L x.f), lessB a.f b.f = true := fun a ha b hb => lessB_trans (hA a ha) (hB b hb)
  have cA : (L.take (posW L x.f)).countP (isF x.f) = 0 := List.countP_eq_zero.2 (fun a ha e => lessB_ne (hA a ha) (isF_iff.1 e))
  have cB : (L.drop (dropAt L x.f)).countP (isF x.f) = 0 := List.countP_eq_zero.2 (fun b hb e => lessB_ne (hB b hb) (isF_iff.1 e).symm)
  have hpl := posW_le L x.f
  have hdl : posW L x.f ≤ dropAt L x.f := by unfold dropAt; split <;> omega
  rw [put_eq h hx] at he
  by_cases hp0 : x.p.toList = []
  · rw [rput_empty (d := dropAt L x.f) rfl rfl rfl hp0] at he
    injection he with he _
    subst he
    refine ⟨subsB_mk (by simp; omega) (fun y hy => ?_) (sorted_pw.2 (List.pairwise_append.2 ⟨hpA, hpB, hAB⟩)), fun y hy e => ?_, by rw [List.countP_append, cA, cB, if_pos hp0], fun y hy => ?_, fun y hy => ?_⟩
    · rcases List.mem_append.1 hy with h | h
      · exact hm y (List.mem_of_mem_take h)
      · exact hm y (List.mem_of_mem_drop h)
    · rcases List.mem_append.1 hy with h | h
      · exact absurd e (lessB_ne (hA y h))
      · exact absurd e.symm (lessB_ne (hB y h))
    · rcases mem_parts (f := x.f) hy with h | h | h
      · exact .inr (List.mem_append_left _ h)
      · exact .inl h
      · exact .inr (List.mem_append_right _ h)
    · rcases List.mem_append.1 hy with h | h
      · exact .inr (List.mem_of_mem_take h)
      · exact .inr (List.mem_of_mem_drop h)
  · by_cases h16 : thereW L x.f = false ∧ 16 ≤ L.length
    · rw [rput_full h16.1 hp0 h16.2] at he
      injection he with _ e
      cases e
    · rw [rput_more (d := dropAt L x.f) rfl rfl rfl hp0 h16] at he
      injection he with he _
      have hlX : (L.take (posW L x.f) ++ [x] ++ L.drop (dropAt L x.f)).length ≤ 16 := by
        unfold dropAt
        cases ht : thereW L x.f
        · have : ¬ 16 ≤ L.length := fun h => h16 ⟨ht, h⟩
          simp; omega
        · obtain ⟨y, hy, _⟩ := there_lt ht
          have := (List.getElem?_eq_some_iff.1 hy).1
          simp; omega
      subst he
      refine ⟨subsB_mk hlX (fun y hy => ?_) (sorted_pw.2 ?_), fun y hy e => ?_, ?_, fun y hy => ?_, fun y hy => ?_⟩
      · rcases List.mem_append.1 hy with h | h
        · rcases List.mem_append.1 h with h | h
          · exact hm y (List.mem_of_mem_take h)
          · simp at h; subst h; exact mayK_of hx hp0
        · exact hm y (List.mem_of_mem_drop h)
      · rw [List.append_assoc]
        refine List.pairwise_append.2 ⟨hpA, List.pairwise_cons.2 ⟨hB, hpB⟩, fun a ha b hb => ?_⟩
        rcases List.mem_cons.1 hb with rfl | hb
        · exact hA a ha
        · exact hAB a ha b hb
      · rcases List.mem_append.1 hy with h | h
        · rcases List.mem_append.1 h with h | h
          · exact absurd e (lessB_ne (hA y h))
          · simp at h; exact ⟨h, hp0⟩
        · exact absurd e.symm (lessB_ne (hB y h))
      · rw [List.countP_append, List.countP_append, cA, cB, if_neg hp0, List.countP_cons, List.countP_nil, if_pos (isF_iff.2 rfl)]
      · rcases mem_parts (f := x.f) hy with h | h | h
        · exact .inr (List.mem_append_left _ (List.mem_append_left _ h))
        · exact .inl h
        · exact .inr (List.mem_append_right _ h)
      · rcases List.mem_append.1 hy with h | h
        · rcases List.mem_append.1 h with h | h
          · exact .inr (List.mem_of_mem_take h)
          · simp at h; exact .inl h
        · exact .inr (List.mem_of_mem_drop h)
/-- A topic, as a filter, tells its message alone. -/
theorem hits_one {L : List Msg1} {k : Nat} {y : Msg1} (h : subsB L = true) (hy : L[k]? = some y) : hits y.f L = [y] := by
  have hs := sorted_of h
  have hmy := (mayK_may (subsB_q h k y hy)).1
  obtain ⟨hk, hyk⟩ := List.getElem?_eq_some_iff.1 hy
  have hL : L = L.take k ++ y :: L.drop (k + 1) := by rw [← hyk]; simp
  have hno : ∀ (M : List Msg1), (∀ z ∈ M, z.f ≠ y.f) → hits y.f M = [] := fun M hM => by
    unfold hits
    rw [List.filter_eq_nil_iff]
    intro z hz
    rw [self_a (mayW_nm hmy), decide_eq_false (fun e => hM z hz e.symm)]
    decide
  have h1 : hits y.f (L.take k) = [] := hno _ (fun z hz e => by
    obtain ⟨j, hj⟩ := List.getElem?_of_mem hz
    have hjl := (List.getElem?_eq_some_iff.1 hj).1
    rw [List.length_take] at hjl
    rw [List.getElem?_take, if_pos (by omega)] at hj
    exact lessB_ne (hs j k z y (by omega) hj hy) e)
  have h2 : hits y.f (L.drop (k + 1)) = [] := hno _ (fun z hz e => by
    obtain ⟨j, hj⟩ := List.getElem?_of_mem hz
    rw [List.getElem?_drop] at hj
    exact lessB_ne (hs k _ y z (by omega) hy hj) e.symm)
  have e1 : hits y.f L = hits y.f (L.take k) ++ hits y.f (y :: L.drop (k + 1)) := by
    conv => lhs; rw [hL]
    unfold hits
    rw [List.filter_append]
  have e2 : hits y.f (y :: L.drop (k + 1)) = y :: hits y.f (L.drop (k + 1)) := by
    unfold hits
    rw [List.filter_cons, self_a (mayW_nm hmy), decide_eq_true rfl]; rfl
  rw [e1, e2, h1, h2]; rfl
def dolW (y : Msg1) : Bool := y.f.data.toList.headD 0 == 36
theorem hits_hash (L : List Msg1) : (hits ⟨#[35]⟩ L).length + L.countP dolW = L.length := by
  unfold hits
  rw [← List.countP_eq_length_filter]
  have : ∀ (M : List Msg1), M.countP (fun x => fitB ⟨#[35]⟩ x.f) + M.countP dolW = M.length := by
    intro M
    induction M with
    | nil => rfl
    | cons y r ih =>
      have hb : fitB ⟨#[35]⟩ y.f = !dolW y := self_b _
      rw [List.countP_cons, List.countP_cons, List.length_cons, hb]
      cases dolW y <;> simp <;> omega
  exact this L
theorem countP_snoc (q : Msg1 → Bool) {L : List Msg1} {k : Nat} {y : Msg1} (h : L[k]? = some y) : (L.take (k + 1)).countP q = (L.take k).countP q + (if q y then 1 else 0) := by
  rw [wtake_snoc L k y h, List.countP_append, List.countP_cons, List.countP_nil, Nat.zero_add]
end Go.Proofs.YtimjbojoeacaeaaDoor
