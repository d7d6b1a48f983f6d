/- Filters: contracts of strings.Split, topic.IsFilter, and of the page's own Filter. -/

import Derived.Test.YtknnaeejkmlnbaaGreatDoorTpTxt
import Derived.Test.YtknnaeejkmlnbaaGreatDoorGb
import Derived.Outline
namespace Go.Proofs.YtknnaeejkmlnbaaGreatDoor
open Go.RowKit Go.Shelf Go.Proofs

theorem idx_head (r : List UInt8) : Lib.indexByte (47 :: r) 47 = 0 := rfl
theorem idx_tail (c : UInt8) (r : List UInt8) (h : c ≠ 47) : Lib.indexByte (c :: r) 47 = if Lib.indexByte r 47 == -1 then -1 else Lib.indexByte r 47 + 1 := by
  rw [Lib.indexByte, if_neg (by simpa using h)]
theorem count_idx (r : List UInt8) : Lib.indexByte r 47 = -1 → r.count 47 = 0 := by
  intro h
  rw [List.count_eq_zero]
  intro hm
  obtain ⟨k, hk, e⟩ := List.getElem_of_mem hm
  exact Lib.indexByte_none h k (by rw [List.getElem?_eq_getElem hk, e])

theorem splitK_lvs (s : List UInt8) : Lib.splitK [47] 0 (s.count 47) s = lvs s := by
  induction s with
  | nil => rfl
  | cons c r ih =>
    by_cases h : c = 47
    · subst h
      rw [List.count_cons_self]
      unfold Lib.splitK
      rw [Lib.index_one, idx_head]
      simp only [show ((0 : Int) == -1) = false by decide, Bool.false_eq_true, if_false]
      have : ((0 : Int).toNat + [(47 : UInt8)].length) = 1 := rfl
      rw [this, List.drop_one, List.tail_cons, ih]
      simp [lvs]
    · have hc : (c :: r).count 47 = r.count 47 := by rw [List.count_cons]; simp [h]
      have hl : lvs (c :: r) = (c :: (lvs r).headD []) :: (lvs r).tail := by rw [lvs, if_neg h]
      rw [hc, hl, ← ih]
      cases hk : r.count 47 with
      | zero => rfl
      | succ k =>
        unfold Lib.splitK
        rw [Lib.index_one, Lib.index_one, idx_tail c r h]
        by_cases hi : Lib.indexByte r 47 = -1
        · rw [count_idx r hi] at hk; cases hk
        · have hge := Lib.indexByte_ge r 47
          obtain ⟨i, hi2⟩ := Int.eq_ofNat_of_zero_le (show 0 ≤ Lib.indexByte r 47 by omega)
          rw [hi2]
          have e1 : ((i : Int) == -1) = false := beq_eq_false_iff_ne.2 (by omega)
          have e2 : ((i : Int) + 1 == -1) = false := beq_eq_false_iff_ne.2 (by omega)
          simp only [e1, e2, Bool.false_eq_true, if_false]
          have n1 : ((i : Int) + 1).toNat = i + 1 := by omega
          have n2 : (i : Int).toNat = i := by omega
          rw [n1, n2]
          simp

theorem split_cells (s : ByteArray) : (Lib.splitB ⟨#[47]⟩ 0 (Lib.countB s ⟨#[47]⟩) s).map Value.string = (lvs s.data.toList).map strV := by
  have h1 := Lib.splitB_data ⟨#[47]⟩ 0 (Lib.countB s ⟨#[47]⟩) s
  have h2 : Lib.countB s ⟨#[47]⟩ = s.data.toList.count 47 := Lib.count_one 47 _
  rw [h2] at h1 ⊢
  have h3 : (⟨#[47]⟩ : ByteArray).data.toList = [47] := rfl
  rw [h3, splitK_lvs] at h1
  rw [← h1, List.map_map]
  refine List.map_congr_left fun x _ => ?_
  simp only [Function.comp, strV, bs_of]

theorem Split_any (w : World) (s : ByteArray) (hs : s.size < 4294967281) (hE : Env w) :
    Calls Tryz.prog 184 #[.string s, .string ⟨#[47]⟩] w fun e w' => ∃ v, e = .returned v ∧ Rd w' (w.heap.size + 1) 1 v (lvs s.data.toList).length ((lvs s.data.toList).map strV) ∧ Below w.heap.size w w' ∧ w'.heap.size = w.heap.size + 1 := by
  obtain ⟨m, hm⟩ := hE.maxlen
  refine (Any.strings_Split Tryz.lays146 inf_str s ⟨#[47]⟩ m w hs hm (by decide)).mono ?_
  rintro e w' ⟨rfl, rfl⟩
  have hlen : Lib.countB s ⟨#[47]⟩ + 1 = (lvs s.data.toList).length := by
    rw [← List.length_map (f := strV), ← split_cells, List.length_map]
    exact (Lib.splitB_all ⟨#[47]⟩ (by decide) 0 _ s rfl).symm
  have hle := lvs_length s.data.toList
  rw [size_list] at hle
  refine ⟨_, rfl, ?_, (Below.refl _ _).alloc (Nat.le_refl _) _, by simp⟩
  have h := Rd.of_whole (Whole.new w 9 ((lvs s.data.toList).map strV)) (by simp [maxLen]; omega)
  rw [split_cells, hlen]
  simp at h
  exact h

/-- May be a filter. -/
def ft (s : ByteArray) : Bool := tx s && levelsOk (lvs s.data.toList)

/-- What holds at the label 'next'. -/
def FNext (s : ByteArray) (w : World) (a' : Act) (w' : World) : Prop :=
  ∃ (k : Nat) (v : Value), k ≤ (lvs s.data.toList).length ∧ ft s = levelsOk ((lvs s.data.toList).drop k) ∧ Below w.heap.size w w' ∧ Rd w' (w.heap.size + 1) 1 v (lvs s.data.toList).length ((lvs s.data.toList).map strV) ∧ ∃ u1 u2 u5 u6 u7 u8 u9 u10 u11 u12 u13 u14 u15 u16 u17 u18 u19 u20 u21 u22 u23 u24 u25 u26 u27 u28 u29 u30 u31 u32 u33 u34 u35 u36 u37 u38 u39 u40 u41 u42 u43 u44 u45 u46 u47 u48 : Value, a' = { tmps := #[.string s, u1, u2, v, .int .i64 k, u5, u6, u7, u8, u9, u10, u11, u12, u13, u14, u15, u16, u17, u18, u19, u20, u21, u22, u23, u24, u25, u26, u27, u28, u29, u30, u31, u32, u33, u34, u35, u36, u37, u38, u39, u40, u41, u42, u43, u44, u45, u46, u47, u48], defers := [] }
def FBad (s : ByteArray) (w : World) (a' : Act) (w' : World) : Prop := ft s = false ∧ Below w.heap.size w w' ∧ ∃ u0 u1 u2 u3 u4 u5 u6 u7 u8 u9 u10 u11 u12 u13 u14 u15 u16 u17 u18 u19 u20 u21 u22 u23 u24 u25 u26 u27 u28 u29 u30 u31 u32 u33 u34 u35 u36 u37 u38 u39 u40 u41 u42 u43 u44 u45 u46 u47 u48 : Value, a' = { tmps := #[u0, u1, u2, u3, u4, u5, u6, u7, u8, u9, u10, u11, u12, u13, u14, u15, u16, u17, u18, u19, u20, u21, u22, u23, u24, u25, u26, u27, u28, u29, u30, u31, u32, u33, u34, u35, u36, u37, u38, u39, u40, u41, u42, u43, u44, u45, u46, u47, u48], defers := [] }

theorem drop_at {α : Type} {L : List α} {k : Nat} (h : k < L.length) : L.drop k = L[k] :: L.drop (k + 1) := List.drop_eq_getElem_cons h
theorem rd_str {w : World} {Bd n k : Nat} {ao : Option Addr} {cap : Nat} {L : List (List UInt8)} (h : Rd w Bd 1 (.slice ao n cap) n (L.map strV)) (hn : n = L.length) (hk : k < L.length) :
    ∃ b o, ao = some ⟨b, o, none⟩ ∧ w.cell? ⟨b, o + k, none⟩ = some (.string (bs L[k])) := by
  obtain ⟨b, o, u, he, _, hu, hcell⟩ := h.at_ (k := k) (by omega)
  rw [List.getElem?_map, List.getElem?_eq_getElem hk] at hu
  injection hu with hu
  subst hu
  exact ⟨b, o, he, hcell⟩

theorem hasB_in (x : List UInt8) : hasB x = (inB 43 x || inB 35 x) := by
  unfold hasB inB
  induction x with
  | nil => rfl
  | cons c r ih =>
    rw [List.any_cons, ih, Bool.eq_iff_iff]
    simp only [List.contains_cons, Bool.or_eq_true, beq_iff_eq]
    constructor
    · rintro ((h | h) | (h | h))
      · exact .inl (.inl h.symm)
      · exact .inr (.inl h.symm)
      · exact .inl (.inr h)
      · exact .inr (.inr h)
    · rintro ((h | h) | (h | h))
      · exact .inl (.inl h.symm)
      · exact .inr (.inl h)
      · exact .inl (.inr h.symm)
      · exact .inr (.inr h)
theorem lev (x : List UInt8) (l : Bool) : levelOk x l = (!(inB 43 x || inB 35 x) || x == [43] || (x == [35] && l)) := by unfold levelOk; rw [hasB_in]
theorem lev_b1 {x : List UInt8} {l : Bool} (h1 : inB 43 x = true) (h2 : ¬ x = [43]) : levelOk x l = false := by
  have h3 : x ≠ [35] := fun e => by subst e; revert h1; decide
  rw [lev, h1, beq_eq_false_iff_ne.2 h2, beq_eq_false_iff_ne.2 h3]; rfl
theorem lev_g1 {x : List UInt8} {l : Bool} (h2 : x = [43]) : levelOk x l = true := by subst h2; rw [lev]; simp
theorem lev_b2 {x : List UInt8} {l : Bool} (h1 : ¬ inB 43 x = true) (h2 : inB 35 x = true) (h3 : ¬ x = [35]) : levelOk x l = false := by
  have h4 : x ≠ [43] := fun e => by subst e; exact h1 (by decide)
  rw [lev, h2, beq_eq_false_iff_ne.2 h4, beq_eq_false_iff_ne.2 h3]; simp
theorem lev_g2 {x : List UInt8} (h3 : x = [35]) : levelOk x true = true := by subst h3; rfl
theorem lev_b3 {x : List UInt8} (h3 : x = [35]) : levelOk x false = false := by subst h3; rfl
theorem lev_g3 {x : List UInt8} {l : Bool} (h1 : ¬ inB 43 x = true) (h2 : ¬ inB 35 x = true) : levelOk x l = true := by
  rw [lev, Bool.eq_false_iff.2 h1, Bool.eq_false_iff.2 h2]; rfl
theorem lev_no {x : List UInt8} {l : Bool} (h1 : x = [43]) (h2 : inB 35 x = true) : levelOk x l = false := by subst h1; exact absurd h2 (by decide)
theorem fb {b c d : Bool} (h1 : d = (b && c)) (h2 : b = false) : d = false := by rw [h1, h2]; rfl
theorem fg {b c d : Bool} (h1 : d = (b && c)) (h2 : b = true) : d = c := by rw [h1, h2]; rfl

set_option maxHeartbeats 2000000 in
theorem IsFilter_any (w : World) (s : ByteArray) (hs : s.size ≤ 100000) (hE : Env w) :
    Calls Tryz.prog 155 #[.string s] w fun e w' => e = .returned (.bool (ft s)) ∧ Below w.heap.size w w' := by
  have hLs := lvs_length s.data.toList
  rw [size_list] at hLs
  go_enter Tryz.func155, Tryz.ntmps155
  go_wp2
  refine wp_scope_falls 1 (fun l a' w' => (l = 1 ∧ FNext s w a' w') ∨ (l = 0 ∧ FBad s w a' w')) (fun l a' _ => if l = 1 then (lvs s.data.toList).length + 1 - (intOf (a'.tmps.getD 4 undef)).toNat else 0) rfl ?_ ?_
  · rintro l a' w' (⟨rfl, k, v, hk, hq, hb, hr, u1, u2, u5, u6, u7, u8, u9, u10, u11, u12, u13, u14, u15, u16, u17, u18, u19, u20, u21, u22, u23, u24, u25, u26, u27, u28, u29, u30, u31, u32, u33, u34, u35, u36, u37, u38, u39, u40, u41, u42, u43, u44, u45, u46, u47, u48, rfl⟩ | ⟨rfl, hq, hb, u0, u1, u2, u3, u4, u5, u6, u7, u8, u9, u10, u11, u12, u13, u14, u15, u16, u17, u18, u19, u20, u21, u22, u23, u24, u25, u26, u27, u28, u29, u30, u31, u32, u33, u34, u35, u36, u37, u38, u39, u40, u41, u42, u43, u44, u45, u46, u47, u48, rfl⟩)
    · refine ⟨_, rfl, ?_⟩
      obtain ⟨ao, cap, rfl, hc1, hc2⟩ := hr.form
      have hc3 : cap ≤ 9223372036854775807 := by unfold maxLen at hc2; omega
      obtain ⟨L, hL⟩ : ∃ L, lvs s.data.toList = L := ⟨_, rfl⟩
      rw [hL] at hk hq hr hc1 hLs ⊢
      have HQ := Lib.hid hq
      have HR := Lib.hid hr
      have HL := Lib.hid hL
      clear hq hr hc2 hL
      by_cases hlt : k < L.length
      · obtain ⟨b, o, rfl, hcell⟩ := rd_str HR.out rfl hlt
        have hne : ((k : Int) == (L.length : Int)) = false := beq_eq_false_iff_ne.2 (by omega)
        obtain ⟨x, hx⟩ : ∃ x, x = L[k] := ⟨_, rfl⟩
        rw [← hx] at hcell
        have e1 : (bs x).data.toList = x := bs_list x
        have e2 : (bs x).toList = x := by rw [Lib.toList_data, e1]
        have HX := Lib.hid hx
        clear hx
        by_cases hle : k + 1 < L.length
        · have HD : Hid (ft s = (levelOk x false && levelsOk (L.drop (k + 1)))) := Lib.hid (by
            rw [HQ.out, drop_at hlt, ← HX.out, levelsOk, drop_at hle]; rfl)
          go_wp2_with (go_at_call 157; refine (Contains_any _ _ _).mono ?_; rintro e w' ⟨rfl, rfl⟩)
          all_goals go_step3
          all_goals first
            | exact ⟨Or.inr ⟨rfl, fb HD.out (by first | exact lev_no (by assumption) (by assumption) | exact lev_b1 (by assumption) (by assumption) | exact lev_b2 (by assumption) (by assumption) (by assumption) | exact lev_b3 (by assumption)), hb, _, _, _, _, _, _, _, _, _, _, _, _, _, _, _, _, _, _, _, _, _, _, _, _, _, _, _, _, _, _, _, _, _, _, _, _, _, _, _, _, _, _, _, _, _, _, _, _, _, rfl⟩, by simp [intOf]; omega⟩
            | exact ⟨Or.inl ⟨rfl, k + 1, _, by rw [HL.out]; omega, by rw [HL.out]; exact fg HD.out (by first | exact lev_g1 (by assumption) | exact lev_g3 (by assumption) (by assumption)), hb, by rw [HL.out]; exact HR.out, _, _, _, _, _, _, _, _, _, _, _, _, _, _, _, _, _, _, _, _, _, _, _, _, _, _, _, _, _, _, _, _, _, _, _, _, _, _, _, _, _, _, _, _, _, _, rfl⟩, by simp [intOf]; omega⟩
        · have HD : Hid (ft s = (levelOk x true && levelsOk (L.drop (k + 1)))) := Lib.hid (by
            rw [HQ.out, drop_at hlt, ← HX.out, levelsOk, List.drop_eq_nil_of_le (by omega)]; rfl)
          have hle2 : L.length ≤ k + 1 := by omega
          go_wp2_with (go_at_call 157; refine (Contains_any _ _ _).mono ?_; rintro e w' ⟨rfl, rfl⟩)
          all_goals go_step3
          all_goals first
            | exact ⟨Or.inr ⟨rfl, fb HD.out (by first | exact lev_no (by assumption) (by assumption) | exact lev_b1 (by assumption) (by assumption) | exact lev_b2 (by assumption) (by assumption) (by assumption)), hb, _, _, _, _, _, _, _, _, _, _, _, _, _, _, _, _, _, _, _, _, _, _, _, _, _, _, _, _, _, _, _, _, _, _, _, _, _, _, _, _, _, _, _, _, _, _, _, _, _, rfl⟩, by simp [intOf]; omega⟩
            | exact ⟨Or.inl ⟨rfl, k + 1, _, by rw [HL.out]; omega, by rw [HL.out]; exact fg HD.out (by first | exact lev_g1 (by assumption) | exact lev_g2 (by assumption) | exact lev_g3 (by assumption) (by assumption)), hb, by rw [HL.out]; exact HR.out, _, _, _, _, _, _, _, _, _, _, _, _, _, _, _, _, _, _, _, _, _, _, _, _, _, _, _, _, _, _, _, _, _, _, _, _, _, _, _, _, _, _, _, _, _, _, rfl⟩, by simp [intOf]; omega⟩
      · have : k = L.length := by omega
        subst this
        have HT : Hid (ft s = true) := Lib.hid (by rw [HQ.out, List.drop_length]; rfl)
        go_wp2
        simp only [exitJumps]
        go_ret
        exact ⟨by rw [HT.out]; rfl, hb⟩
    · refine ⟨_, rfl, ?_⟩
      have HQ := Lib.hid hq
      clear hq
      go_wp2
      simp only [exitJumps]
      go_ret
      exact ⟨by rw [HQ.out]; rfl, hb⟩
  · intro hgo
    have HGO := Lib.hid hgo
    clear hgo
    have HLs := Lib.hid hLs
    clear hLs
    go_wp2_with fail
    refine (Split_any w s (by omega) hE).mono ?_
    rintro e w1 ⟨v, rfl, hr, hb, hsz⟩
    obtain ⟨ao, cap, rfl, hc1, hc2⟩ := hr.form
    have HR := Lib.hid hr
    have hE1 := hE.below hb
    have hzs := hb.size
    have HZ := Lib.hid hsz
    clear hr hsz hc2
    cases ht : tx s
    · have HT := Lib.hid ht
      have HF : Hid (ft s = false) := Lib.hid (by unfold ft; rw [ht]; rfl)
      clear ht
      go_wp2_with (go_at_call 107; refine (pText_any _ s (by omega) hE1).mono ?_; rintro e w' ⟨rfl, hb1⟩; rw [HT.out])
      go_step3
      exact Or.inr ⟨rfl, HF.out, hb.trans (hb1.mono hzs), _, _, _, _, _, _, _, _, _, _, _, _, _, _, _, _, _, _, _, _, _, _, _, _, _, _, _, _, _, _, _, _, _, _, _, _, _, _, _, _, _, _, _, _, _, _, _, _, _, rfl⟩
    · have HT := Lib.hid ht
      have HF : Hid (ft s = levelsOk ((lvs s.data.toList).drop 0)) := Lib.hid (by unfold ft; rw [ht]; simp)
      clear ht
      go_wp2_with (go_at_call 107; refine (pText_any _ s (by omega) hE1).mono ?_; rintro e w2 ⟨rfl, hb1⟩; rw [HT.out])
      go_step3
      refine (by assumption : ∀ (a : Act) (w : World), Code.wp _ _ _ a w → _) _ _ ?_
      refine HGO.out _ _ (Or.inl ⟨by trivial, 0, _, by omega, HF.out, hb.trans (hb1.mono hzs), HR.out.below (hb1.mono (Nat.le_of_eq HZ.out.symm)), _, _, _, _, _, _, _, _, _, _, _, _, _, _, _, _, _, _, _, _, _, _, _, _, _, _, _, _, _, _, _, _, _, _, _, _, _, _, _, _, _, _, _, _, _, _, rfl⟩)
end Go.Proofs.YtknnaeejkmlnbaaGreatDoor
