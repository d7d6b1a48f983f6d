/- Where a topic stands in a list of messages. -/

import Derived.Test.YtimjbojoeacaeaaDoorKpCopy
import Derived.Lib.Bytealg
namespace Go.Proofs.YtimjbojoeacaeaaDoor
open Go.RowKit Go.Shelf Go.Proofs

theorem cmp_lt : ∀ a b : List UInt8, (Lib.compareBytes a b < 0) ↔ Op.bytesLess a b = true
  | [], [] => by simp [Lib.compareBytes, Op.bytesLess]
  | [], _ :: _ => by simp [Lib.compareBytes, Op.bytesLess]
  | _ :: _, [] => by simp [Lib.compareBytes, Op.bytesLess]
  | a :: x, b :: y => by
    have ih := cmp_lt x y
    simp only [Lib.compareBytes, Op.bytesLess]
    by_cases h : a < b
    · simp [h]
    · by_cases h2 : b < a
      · have : ¬ a = b := fun e => by subst e; exact absurd h2 (UInt8.lt_irrefl _)
        simp [h, h2, this]
      · have : a = b := UInt8.le_antisymm (UInt8.not_lt.1 h2) (UInt8.not_lt.1 h)
        subst this
        simp [ih]
theorem cmp_zero : ∀ a b : List UInt8, (Lib.compareBytes a b = 0) ↔ a = b
  | [], [] => by simp [Lib.compareBytes]
  | [], _ :: _ => by simp [Lib.compareBytes]
  | _ :: _, [] => by simp [Lib.compareBytes]
  | a :: x, b :: y => by
    have ih := cmp_zero x y
    simp only [Lib.compareBytes]
    by_cases h : a < b
    · have : ¬ a = b := fun e => by subst e; exact absurd h (UInt8.lt_irrefl _)
      simp [h, this]
    · by_cases h2 : b < a
      · have : ¬ a = b := fun e => by subst e; exact absurd h2 (UInt8.lt_irrefl _)
        simp [h, h2, this]
      · have : a = b := UInt8.le_antisymm (UInt8.not_lt.1 h2) (UInt8.not_lt.1 h)
        subst this
        simp [ih]
theorem less_trans : ∀ a b c : List UInt8, Op.bytesLess a b = true → Op.bytesLess b c = true → Op.bytesLess a c = true
  | _, _, [], _, h => by simp [Op.bytesLess] at h
  | _, [], _ :: _, h, _ => by simp [Op.bytesLess] at h
  | [], _ :: _, _ :: _, _, _ => by simp [Op.bytesLess]
  | a :: x, b :: y, c :: z, h1, h2 => by
    simp only [Op.bytesLess, Bool.or_eq_true, Bool.and_eq_true, decide_eq_true_eq, beq_iff_eq] at h1 h2 ⊢
    rcases h1 with h1 | ⟨rfl, h1⟩
    · rcases h2 with h2 | ⟨rfl, h2⟩
      · exact .inl (UInt8.lt_trans h1 h2)
      · exact .inl h1
    · rcases h2 with h2 | ⟨rfl, h2⟩
      · exact .inl h2
      · exact .inr ⟨rfl, less_trans x y z h1 h2⟩
theorem less_irrefl : ∀ a : List UInt8, Op.bytesLess a a = false
  | [] => rfl
  | a :: x => by simp [Op.bytesLess, less_irrefl x]
theorem lessB_trans {a b c : ByteArray} (h1 : lessB a b = true) (h2 : lessB b c = true) : lessB a c = true := less_trans _ _ _ h1 h2

set_option maxRecDepth 100000 in
theorem CmpS_any (a b : ByteArray) (w : World) : Calls Tryd.prog 77 #[.string a, .string b] w fun e w' => e = .returned (.int .i64 (Lib.compareBytes a.data.toList b.data.toList)) ∧ w' = w := by
  go_enter Tryd.func77, Tryd.ntmps77
  go_wp2
  rw [run_callFunc_extern Tryd.func89 (by kernel_rfl) (by kernel_rfl) (by kernel_rfl) (e := Extern.BytealgCompare.compare) (by kernel_rfl), Lib.run_compareString]
  simp only [Result.andThen]
  rw [Oper.upon_value]
  go_wp2
  go_ret
  exact ⟨rfl, rfl⟩
theorem Cmp_any (a b : ByteArray) (w : World) : Calls Tryd.prog 61 #[.string a, .string b] w fun e w' => e = .returned (.int .i64 (Lib.compareBytes a.data.toList b.data.toList)) ∧ w' = w := by
  go_enter Tryd.func61, Tryd.ntmps61
  go_wp2_with (go_at_call 77; refine (CmpS_any _ _ _).mono ?_; rintro e w' ⟨rfl, rfl⟩)
  go_ret
  exact ⟨rfl, rfl⟩

/-- How a filter stands to another. -/
def cmpB (a b : ByteArray) : Int := Lib.compareBytes a.data.toList b.data.toList
theorem cmpB_lt (a b : ByteArray) : cmpB a b < 0 ↔ lessB a b = true := by unfold cmpB lessB; rw [Lib.toList_data, Lib.toList_data]; exact cmp_lt _ _
theorem cmpB_zero (a b : ByteArray) : cmpB a b = 0 ↔ a = b := by
  unfold cmpB
  rw [cmp_zero]
  refine ⟨fun h => ?_, fun h => by rw [h]⟩
  rw [← bs_of a, ← bs_of b, h]

set_option maxHeartbeats 1000000 in
theorem cmpf_any (w : World) (x : Msg1) (f : ByteArray) : Calls Tryd.prog 60 #[.agg #[.string x.f, .string x.p, .int .i64 x.q, .bool x.r], .string f] w fun e w' => e = .returned (.int .i64 (cmpB x.f f)) ∧ Below w.heap.size w w' := by
  have hb0 := (Below.refl w.heap.size w).alloc (Nat.le_refl _) (.cells #[.string x.f, .string x.p, .int .i64 x.q, .bool x.r] 55)
  go_enter Tryd.func60, Tryd.ntmps60
  go_wp2_with (go_at_call 61; refine (Cmp_any _ _ _).mono ?_; rintro e w' ⟨rfl, rfl⟩)
  go_ret
  exact ⟨rfl, hb0⟩

/-- In order. -/
def Sorted (L : List Msg1) : Prop := ∀ (i j : Nat) (x y : Msg1), i < j → L[i]? = some x → L[j]? = some y → lessB x.f y.f = true
/-- How many stand ahead. -/
def posW (L : List Msg1) (f : ByteArray) : Nat := (L.takeWhile fun x => lessB x.f f).length
def thereW (L : List Msg1) (f : ByteArray) : Bool := match L[posW L f]? with | some x => decide (x.f = f) | none => false

theorem takeWhile_boundary {α : Type} (p : α → Bool) : ∀ (l : List α) (i : Nat), i ≤ l.length → (∀ t x, t < i → l[t]? = some x → p x = true) → (∀ t x, i ≤ t → l[t]? = some x → p x = false) → (l.takeWhile p).length = i
  | [], i, hi, _, _ => by simp at hi; simp [hi]
  | a :: r, 0, _, _, h2 => by
    have := h2 0 a (Nat.le_refl _) rfl
    simp [this]
  | a :: r, i + 1, hi, h1, h2 => by
    have ha : p a = true := h1 0 a (by omega) rfl
    rw [List.takeWhile_cons, if_pos ha, List.length_cons, takeWhile_boundary p r i (by simpa using hi) (fun t x ht hx => h1 (t + 1) x (by omega) (by simpa using hx)) (fun t x ht hx => h2 (t + 1) x (by omega) (by simpa using hx))]

theorem posW_is {L : List Msg1} {f : ByteArray} {i : Nat} (hi : i ≤ L.length) (h1 : ∀ t x, t < i → L[t]? = some x → lessB x.f f = true) (h2 : ∀ t x, i ≤ t → L[t]? = some x → lessB x.f f = false) : posW L f = i := takeWhile_boundary _ L i hi h1 h2

/-- What the search knows. -/
def Known (L : List Msg1) (f : ByteArray) (lo hi : Nat) : Prop := (∀ t x, t < lo → L[t]? = some x → lessB x.f f = true) ∧ (∀ t x, hi ≤ t → L[t]? = some x → lessB x.f f = false)
theorem Known.lo {L : List Msg1} {f : ByteArray} {lo hi h : Nat} {x : Msg1} (hk : Known L f lo hi) (hs : Sorted L) (hx : L[h]? = some x) (hl : lessB x.f f = true) : Known L f (h + 1) hi := by
  refine ⟨fun t y ht hy => ?_, hk.2⟩
  by_cases e : t = h
  · subst e
    rw [hx] at hy
    injection hy with hy
    subst hy
    exact hl
  · exact lessB_trans (hs t h y x (by omega) hy hx) hl
theorem Known.hi {L : List Msg1} {f : ByteArray} {lo hi h : Nat} {x : Msg1} (hk : Known L f lo hi) (hs : Sorted L) (hx : L[h]? = some x) (hl : lessB x.f f = false) : Known L f lo h := by
  refine ⟨hk.1, fun t y ht hy => ?_⟩
  by_cases e : t = h
  · subst e
    rw [hx] at hy
    injection hy with hy
    subst hy
    exact hl
  · have := hs h t x y (by omega) hx hy
    cases c : lessB y.f f
    · rfl
    · rw [lessB_trans this c] at hl
      cases hl

set_option maxHeartbeats 4000000 in
theorem Bin_any (w : World) (v : Value) (L : List Msg1) (f : ByteArray) (h : Rd w w.heap.size 4 v L.length (wCells L)) (hs : Sorted L) (hn : L.length ≤ 5000000000000) :
    Calls Tryd.prog 59 #[v, .string f, .func (.func 60) #[] #[]] w fun e w' => e = .returned (.tuple #[.int .i64 (posW L f), .bool (thereW L f)]) ∧ Below w.heap.size w w' := by
  obtain ⟨ao, cap, rfl, hc, hm⟩ := h.form
  have hm' : cap ≤ 9223372036854775807 := by unfold maxLen at hm; omega
  have H := Lib.hid h
  have HS := Lib.hid hs
  clear h hm hs
  go_enter Tryd.func59, Tryd.ntmps59
  go_wp2
  go_loopw [9, 10] (fun s9 s10 wr => ∃ lo hi : Nat, s9 = .int .i64 lo ∧ s10 = .int .i64 hi ∧ lo ≤ hi ∧ hi ≤ L.length ∧ Below w.heap.size w wr ∧ Hid (Known L f lo hi)) (fun s9 s10 _ => (intOf s10).toNat - (intOf s9).toNat)
  case atStart => exact ⟨0, L.length, rfl, rfl, Nat.zero_le _, Nat.le_refl _, Below.refl _ _, Lib.hid ⟨fun t x ht => absurd ht (Nat.not_lt_zero _), fun t x ht hx => absurd (List.getElem?_eq_some_iff.1 hx).1 (by omega)⟩⟩
  case round =>
    obtain ⟨lo, hi, rfl, rfl, hlh, hin, hb, HK⟩ := hrel
    by_cases hlt : lo < hi
    · obtain ⟨x, hx⟩ : ∃ x, L[(lo + hi) / 2]? = some x := ⟨_, List.getElem?_eq_getElem (by omega)⟩
      obtain ⟨b, o, rfl, hbl, c0, c1, c2, c3⟩ := wish_cell (H.out.below hb) rfl hx
      have HX := Lib.hid hx
      clear hx
      go_wp2_with fail
      refine (cmpf_any wr x f).mono ?_
      rintro e w1 ⟨rfl, hb1⟩
      have hbb := bel_to hb hb1 (Nat.le_refl _)
      by_cases hl : cmpB x.f f < 0
      · have HK2 : Hid (Known L f ((lo + hi) / 2 + 1) hi) := Lib.hid (HK.out.lo HS.out HX.out ((cmpB_lt _ _).1 hl))
        go_wp2
        go_roundw
        case rel => exact ⟨(lo + hi) / 2 + 1, hi, by rw [show ((lo : Int) + (hi : Int)) / 2 + 1 = (((lo + hi) / 2 + 1 : Nat) : Int) by omega], rfl, by omega, hin, hbb, HK2⟩
        case measure => simp [intOf]; omega
      · have HK2 : Hid (Known L f lo ((lo + hi) / 2)) := Lib.hid (HK.out.hi HS.out HX.out (by rw [Bool.eq_false_iff]; exact fun e => hl ((cmpB_lt _ _).2 e)))
        go_wp2
        go_roundw
        case rel => exact ⟨lo, (lo + hi) / 2, rfl, by rw [show ((lo : Int) + (hi : Int)) / 2 = (((lo + hi) / 2 : Nat) : Int) by omega], by omega, by omega, hbb, HK2⟩
        case measure => simp [intOf]; omega
    · have e : hi = lo := by omega
      subst e
      have HP : Hid (posW L f = hi) := Lib.hid (posW_is hin HK.out.1 HK.out.2)
      by_cases hl2 : hi < L.length
      · obtain ⟨x, hx⟩ : ∃ x, L[hi]? = some x := ⟨_, List.getElem?_eq_getElem hl2⟩
        have HT : Hid (thereW L f = decide (cmpB x.f f = 0)) := Lib.hid (by
          unfold thereW
          rw [HP.out, hx]
          exact decide_eq_decide.2 (cmpB_zero _ _).symm)
        obtain ⟨b, o, rfl, hbl, c0, c1, c2, c3⟩ := wish_cell (H.out.below hb) rfl hx
        clear hx
        go_wp2_with fail
        refine (cmpf_any wr x f).mono ?_
        rintro e w1 ⟨rfl, hb1⟩
        have hbb := bel_to hb hb1 (Nat.le_refl _)
        by_cases hl : cmpB x.f f = 0
        · go_wp2
          go_ret2
          exact ⟨by rw [HP.out, HT.out]; simp [hl], hbb⟩
        · go_wp2
          go_ret2
          exact ⟨by rw [HP.out, HT.out]; simp [hl], hbb⟩
      · have HT : Hid (thereW L f = false) := Lib.hid (by
          unfold thereW
          rw [HP.out, List.getElem?_eq_none (by omega)])
        go_wp2
        go_ret2
        exact ⟨by rw [HP.out, HT.out]; rfl, hb⟩

end Go.Proofs.YtimjbojoeacaeaaDoor
