/- Plain words for TopicSelf: texts put together stay valid; a name as a filter; levels put behind. -/
import Derived.Test.YtimjbojoeacaeaaDoorTpRef
import Derived.Lib.ValidLaws
namespace Go.Proofs.YtimjbojoeacaeaaDoor
open Go.Lib

theorem decodeN_same (n n' b0 b1 b2 b3 c1 c2 c3 : Nat) (hv : decodeN n b0 b1 b2 b3 ≠ (65533, 1)) (hn : n ≤ n') (h1 : 1 < n → c1 = b1) (h2 : 2 < n → c2 = b2) (h3 : 3 < n → c3 = b3) :
    decodeN n' b0 c1 c2 c3 = decodeN n b0 b1 b2 b3 := by
  rcases decodeN_shape n b0 b1 b2 b3 with ⟨c, e⟩ | ⟨d1, d2, d3, dv, e⟩ | ⟨d1, d2, d3, d4, dv, ds, e⟩ | ⟨d1, d2, d3, d4, d5, dv, dw, e⟩ | e
  · rw [e, decodeN, if_pos c]
  · rw [e]
    obtain rfl := h1 d2
    rw [decodeN, if_neg (by omega), if_pos ⟨d1, by omega, d3⟩, if_pos dv]
  · rw [e]
    obtain rfl := h1 (by omega)
    obtain rfl := h2 d2
    rw [decodeN, if_neg (by omega), if_neg (by omega), if_pos ⟨d1, ⟨by omega, d3⟩, by omega, d4⟩, if_pos ⟨dv, by omega⟩]
  · rw [e]
    obtain rfl := h1 (by omega)
    obtain rfl := h2 (by omega)
    obtain rfl := h3 d2
    rw [decodeN, if_neg (by omega), if_neg (by omega), if_neg (by omega), if_pos ⟨d1, ⟨by omega, d3⟩, ⟨by omega, d4⟩, by omega, d5⟩, if_pos ⟨dv, by omega⟩]
  · exact absurd e hv

theorem getD_app {l m : List UInt8} {k : Nat} (h : k < l.length) : (l ++ m).getD k 0 = l.getD k 0 := by
  rw [List.getD_eq_getElem?_getD, List.getD_eq_getElem?_getD, List.getElem?_append_left h]

theorem decodeL_app (l m : List UInt8) (hne : l ≠ []) (hv : decodeL l ≠ (65533, 1)) : decodeL (l ++ m) = decodeL l := by
  have hl : 0 < l.length := List.length_pos_iff.2 hne
  rw [decodeL_N] at hv
  rw [decodeL_N, decodeL_N, getD_app hl]
  exact decodeN_same _ _ _ _ _ _ _ _ _ hv (by simp) (fun h => by rw [getD_app h]) (fun h => by rw [getD_app h]) (fun h => by rw [getD_app h])

theorem validD_app (l m : List UInt8) (h : validD l = true) : validD (l ++ m) = validD m := by
  obtain ⟨n, hn⟩ : ∃ n, l.length = n := ⟨_, rfl⟩
  induction n using Nat.strongRecOn generalizing l with
  | _ n ih =>
    cases l with
    | nil => rfl
    | cons b r =>
      have hne : (b :: r) ≠ [] := by simp
      rw [validD_step _ hne] at h
      split at h
      · cases h
      · rename_i hd
        have hd2 : decodeL (b :: r) ≠ (65533, 1) := fun e => hd (by rw [e]; exact ⟨rfl, rfl⟩)
        have hw : 1 ≤ (decodeL (b :: r)).2 := by rw [decodeL_N]; exact decodeN_ge1 _ _ _ _ _
        have hle := decodeL_le (b :: r) hne
        rw [validD_step (b :: r ++ m) (by simp), decodeL_app _ _ hne hd2, if_neg hd, List.drop_append_of_le_length hle]
        exact ih _ (by rw [List.length_drop]; omega) _ h rfl

/-! Levels. -/
theorem lvs_plain {l : List UInt8} : ∀ x ∈ lvs l, hasB l = false → hasB x = false := by
  induction l with
  | nil => intro x hx _; simp [lvs] at hx; subst hx; rfl
  | cons c r ih =>
    intro x hx h
    have hr : hasB r = false := by
      unfold hasB at h ⊢
      rw [List.any_cons, Bool.or_eq_false_iff] at h
      exact h.2
    have hc : (c == 43 || c == 35) = false := by
      unfold hasB at h
      rw [List.any_cons, Bool.or_eq_false_iff] at h
      exact h.1
    rw [lvs] at hx
    split at hx
    · rcases List.mem_cons.1 hx with rfl | h2
      · rfl
      · exact ih x h2 hr
    · rcases List.mem_cons.1 hx with rfl | h2
      · have := ih ((lvs r).headD []) (by rw [lvs_cons r]; exact List.mem_cons_self) hr
        unfold hasB at this ⊢
        rw [List.any_cons, hc, Bool.false_or]
        exact this
      · exact ih x (by rw [lvs_cons r]; exact List.mem_cons_of_mem _ h2) hr

theorem lvs_sep (l m : List UInt8) : lvs (l ++ 47 :: m) = lvs l ++ lvs m := by
  induction l with
  | nil => simp [lvs]
  | cons c r ih =>
    by_cases h : c = 47
    · subst h
      show lvs (47 :: (r ++ 47 :: m)) = _
      have e1 : lvs (47 :: (r ++ 47 :: m)) = [] :: lvs (r ++ 47 :: m) := by simp [lvs]
      have e2 : lvs (47 :: r) = [] :: lvs r := by simp [lvs]
      rw [e1, e2, ih]; rfl
    · show lvs (c :: (r ++ 47 :: m)) = _
      have e1 : lvs (c :: (r ++ 47 :: m)) = (c :: (lvs (r ++ 47 :: m)).headD []) :: (lvs (r ++ 47 :: m)).tail := by rw [lvs, if_neg h]
      have e2 : lvs (c :: r) = (c :: (lvs r).headD []) :: (lvs r).tail := by rw [lvs, if_neg h]
      rw [e1, e2, ih, lvs_cons r]
      rfl

/-- Levels put together make the text again. -/
def unl : List (List UInt8) → List UInt8
  | [] => []
  | [x] => x
  | x :: y :: r => x ++ 47 :: unl (y :: r)
theorem unl_lvs (l : List UInt8) : unl (lvs l) = l := by
  induction l with
  | nil => rfl
  | cons c r ih =>
    by_cases h : c = 47
    · subst h
      have e2 : lvs (47 :: r) = [] :: lvs r := by simp [lvs]
      rw [e2, lvs_cons r]
      rw [lvs_cons r] at ih
      show [] ++ 47 :: unl (_ :: _) = _
      rw [ih]; rfl
    · have e2 : lvs (c :: r) = (c :: (lvs r).headD []) :: (lvs r).tail := by rw [lvs, if_neg h]
      rw [e2]
      rw [lvs_cons r] at ih
      cases ht : (lvs r).tail with
      | nil =>
        rw [ht] at ih
        show c :: _ = _
        exact congrArg (c :: ·) ih
      | cons y ys =>
        rw [ht] at ih
        show c :: (_ ++ 47 :: unl (y :: ys)) = _
        exact congrArg (c :: ·) ih
theorem lvs_inj {a b : List UInt8} (h : lvs a = lvs b) : a = b := by rw [← unl_lvs a, h, unl_lvs]

theorem levelsOk_plain {L : List (List UInt8)} (h : ∀ x ∈ L, hasB x = false) : levelsOk L = true := by
  induction L with
  | nil => rfl
  | cons x xs ih =>
    rw [levelsOk, ih (fun y hy => h y (List.mem_cons_of_mem _ hy))]
    unfold levelOk
    rw [h x List.mem_cons_self]; rfl
theorem levelsOk_app {L : List (List UInt8)} (h : ∀ x ∈ L, hasB x = false) (M : List (List UInt8)) (hM : levelsOk M = true) : levelsOk (L ++ M) = true := by
  induction L with
  | nil => exact hM
  | cons x xs ih =>
    show levelsOk (x :: (xs ++ M)) = true
    rw [levelsOk, ih (fun y hy => h y (List.mem_cons_of_mem _ hy))]
    unfold levelOk
    rw [h x List.mem_cons_self]; rfl
theorem plain_ne {x : List UInt8} (h : hasB x = false) : (x == [43]) = false ∧ (x == [35]) = false :=
  ⟨beq_eq_false_iff_ne.2 (fun e => by subst e; revert h; decide), beq_eq_false_iff_ne.2 (fun e => by subst e; revert h; decide)⟩
theorem match_pre {L : List (List UInt8)} (h : ∀ x ∈ L, hasB x = false) (M K : List (List UInt8)) : matchL (L ++ M) (L ++ K) = matchL M K := by
  induction L with
  | nil => rfl
  | cons x xs ih =>
    show matchL (x :: (xs ++ M)) (x :: (xs ++ K)) = _
    obtain ⟨h1, h2⟩ := plain_ne (h x List.mem_cons_self)
    rw [matchL, h1, h2, ih (fun y hy => h y (List.mem_cons_of_mem _ hy))]
    simp
theorem match_eq {L : List (List UInt8)} (h : ∀ x ∈ L, hasB x = false) (K : List (List UInt8)) : matchL L K = decide (L = K) := by
  induction L generalizing K with
  | nil => cases K <;> rfl
  | cons x xs ih =>
    obtain ⟨h1, h2⟩ := plain_ne (h x List.mem_cons_self)
    cases K with
    | nil => rw [matchL, h2]; rfl
    | cons y ys =>
      rw [matchL, h1, h2, ih (fun y hy => h y (List.mem_cons_of_mem _ hy)), Bool.eq_iff_iff]
      simp

/-! Names. -/
theorem nm_parts {s : ByteArray} (h : nm s = true) : 1 ≤ s.size ∧ s.size ≤ 64 ∧ Lib.validD s.data.toList = true ∧ s.data.toList.contains 0 = false ∧ hasB s.data.toList = false := by
  unfold nm tx txt at h
  rw [size_list] at h
  simp only [Bool.and_eq_true, decide_eq_true_eq, Bool.not_eq_true'] at h
  exact ⟨h.1.1.1.1, h.1.1.1.2, h.1.1.2, h.1.2, h.2⟩
theorem tx_mk {s : ByteArray} (h1 : 1 ≤ s.size) (h2 : s.size ≤ 64) (h3 : Lib.validD s.data.toList = true) (h4 : s.data.toList.contains 0 = false) : tx s = true := by
  unfold tx txt
  rw [size_list, h3, h4]; simp [h1, h2]

/-- A name with '/' and a sign behind it. -/
def withL (t : ByteArray) (c : UInt8) : ByteArray := t ++ ⟨#[47, c]⟩
theorem withL_list (t : ByteArray) (c : UInt8) : (withL t c).data.toList = t.data.toList ++ 47 :: [c] := by
  unfold withL
  rw [ByteArray.data_append, Array.toList_append]
theorem withL_size (t : ByteArray) (c : UInt8) : (withL t c).size = t.size + 2 := by
  rw [← size_list, withL_list, List.length_append, size_list]; rfl
theorem tx_with {t : ByteArray} (h : nm t = true) (hs : t.size ≤ 62) (c : UInt8) (hc : c.toNat < 128) (h0 : c ≠ 0) : tx (withL t c) = true := by
  obtain ⟨h1, _, h3, h4, _⟩ := nm_parts h
  refine tx_mk (by rw [withL_size]; omega) (by rw [withL_size]; omega) ?_ ?_
  · rw [withL_list, validD_app _ _ h3, validD_cons _ _ (by decide), validD_cons _ _ hc]; rfl
  · rw [withL_list, List.contains_eq_any_beq, List.any_append, ← List.contains_eq_any_beq, h4]
    simp
    exact fun e => h0 e.symm
theorem lvs_with (t : ByteArray) (c : UInt8) (hc : c ≠ 47) : lvs (withL t c).data.toList = lvs t.data.toList ++ [[c]] := by
  rw [withL_list, lvs_sep]
  have : lvs [c] = [[c]] := by simp [lvs, hc]
  rw [this]
theorem plain_of {t : ByteArray} (h : nm t = true) : ∀ x ∈ lvs t.data.toList, hasB x = false := fun x hx => lvs_plain x hx (nm_parts h).2.2.2.2
theorem ft_name {t : ByteArray} (h : nm t = true) : ft t = true := by
  obtain ⟨h1, h2, h3, h4, _⟩ := nm_parts h
  unfold ft
  rw [tx_mk h1 h2 h3 h4, levelsOk_plain (plain_of h)]; rfl
theorem ft_with {t : ByteArray} (h : nm t = true) (hs : t.size ≤ 62) {c : UInt8} (hc : c = 43 ∨ c = 35) : ft (withL t c) = true := by
  unfold ft
  rw [tx_with h hs c (by rcases hc with rfl | rfl <;> decide) (by rcases hc with rfl | rfl <;> decide), lvs_with _ _ (by rcases hc with rfl | rfl <;> decide)]
  exact levelsOk_app (plain_of h) _ (by rcases hc with rfl | rfl <;> rfl)
theorem nm_with {t : ByteArray} (h : nm t = true) (hs : t.size ≤ 62) : nm (withL t 120) = true := by
  unfold nm
  rw [tx_with h hs 120 (by decide) (by decide), withL_list]
  have := (nm_parts h).2.2.2.2
  unfold hasB at this ⊢
  rw [List.any_append, this]; rfl

theorem head_plain {t : ByteArray} (h : nm t = true) (M : List (List UInt8)) : ((lvs t.data.toList ++ M).headD [] == [43] || (lvs t.data.toList ++ M).headD [] == [35]) = false := by
  rw [lvs_cons t.data.toList]
  show ((lvs t.data.toList).headD [] == [43] || (lvs t.data.toList).headD [] == [35]) = false
  obtain ⟨h1, h2⟩ := plain_ne (plain_of h ((lvs t.data.toList).headD []) (by rw [lvs_cons t.data.toList]; exact List.mem_cons_self))
  rw [h1, h2]; rfl

theorem fit_pre {f t : ByteArray} {M : List (List UInt8)} {n : ByteArray} (h : nm n = true) (hf : lvs f.data.toList = lvs n.data.toList ++ M) : fitB f t = matchL (lvs n.data.toList ++ M) (lvs t.data.toList) := by
  unfold fitB
  rw [hf, head_plain h M]; simp

theorem self_a {t : ByteArray} (h : nm t = true) (u : ByteArray) : fitB t u = decide (t = u) := by
  rw [fit_pre (M := []) h (by simp), List.append_nil, match_eq (plain_of h), Bool.eq_iff_iff]
  simp only [decide_eq_true_eq]
  exact ⟨fun e => by have := lvs_inj e; rw [← bs_of t, this, bs_of], fun e => by rw [e]⟩
theorem self_b (t : ByteArray) : fitB ⟨#[35]⟩ t = !(t.data.toList.headD 0 == 36) := by
  unfold fitB
  have : lvs (⟨#[35]⟩ : ByteArray).data.toList = [[35]] := rfl
  rw [this]
  cases (t.data.toList.headD 0 == 36) <;> rfl
theorem self_c {t : ByteArray} (h : nm t = true) : fitB (withL t 35) t = true := by
  rw [fit_pre h (lvs_with t 35 (by decide))]
  have := match_pre (plain_of h) [[35]] []
  rw [List.append_nil] at this
  rw [this]; rfl
theorem self_d {t : ByteArray} (h : nm t = true) : fitB (withL t 43) (withL t 120) = true := by
  rw [fit_pre h (lvs_with t 43 (by decide)), lvs_with t 120 (by decide), match_pre (plain_of h)]; rfl
theorem self_x {t : ByteArray} (h : nm t = true) : fitB (withL t 43) t = false := by
  rw [fit_pre h (lvs_with t 43 (by decide))]
  have := match_pre (plain_of h) [[43]] []
  rw [List.append_nil] at this
  rw [this]; rfl
theorem self_y {t : ByteArray} (h : nm t = true) : fitB (withL t 35) (withL t 120) = true := by
  rw [fit_pre h (lvs_with t 35 (by decide)), lvs_with t 120 (by decide), match_pre (plain_of h)]; rfl
theorem mRes_ok {f t : ByteArray} (h1 : ft f = true) (h2 : nm t = true) {b : Bool} (h3 : fitB f t = b) : mRes f t = .tuple #[.bool b, .int .i64 0] := by
  unfold mRes; rw [h1, h2, h3]; rfl
end Go.Proofs.YtimjbojoeacaeaaDoor
