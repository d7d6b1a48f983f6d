/- Texts, names: contracts of utf8.ValidString, strings.Contains, pack.Text, topic.IsName, and of the page's own Text, Name. -/

import Derived.Test.YtknnaeejkmlnbaaGreatDoorTpAny
import Derived.Test.YtknnaeejkmlnbaaGreatDoorTpLaidV
import Derived.Lib.LaidU8T
namespace Go.Proofs.YtknnaeejkmlnbaaGreatDoor
open Go.RowKit Go.Shelf Go.Proofs

/-- What is known of the library's own variables. -/
structure Env (w : World) : Prop where
  tabs : Lib.Utf8Tabs (Tryz.lays196_ren.g 3) (Tryz.lays196_ren.g 4) w
  maxlen : ∃ m, w.cell? ⟨Tryz.lays146_ren.g 1, 0, none⟩ = some (.int .i64 m)
theorem Env.below {w w' : World} (h : Env w) (hb : Below w.heap.size w w') : Env w' :=
  ⟨Utf8Tabs_below h.tabs hb, h.maxlen.elim fun m hm => ⟨m, (hb.cell (World.block_lt_of_cell? w _ hm)).trans hm⟩⟩

theorem Valid_any (w : World) (s : ByteArray) (hs : s.size ≤ 9223372036854775807) (hE : Env w) :
    Calls Tryz.prog 112 #[.string s] w fun e w' => e = .returned (.bool (Lib.validD s.data.toList)) ∧ Below w.heap.size w w' :=
  Any.utf8_ValidString Tryz.lays196 s w hs hE.tabs

/-- The byte is in the list. -/
def inB (c : UInt8) (l : List UInt8) : Bool := l.contains c
theorem Contains_any (w : World) (s : ByteArray) (c : UInt8) :
    Calls Tryz.prog 157 #[.string s, .string ⟨#[c]⟩] w fun e w' => e = .returned (.bool (inB c s.data.toList)) ∧ w = w' :=
  (Any.strings_Contains_one { Tryz.lays144 with } s c w).mono fun e w' ⟨he, hw⟩ => ⟨by rw [he, inB, Lib.contains_iff_indexByte], hw.symm⟩

theorem within_any (w : World) (n a b : Int) :
    Calls Tryz.prog 108 #[.int .i64 n, .int .i64 a, .int .i64 b] w fun e w' => e = .returned (.bool (decide (a ≤ n) && decide (n ≤ b))) ∧ w = w' := by
  by_cases h : a ≤ n
  · go_enter Tryz.func108, Tryz.ntmps108
    go_wp2
    go_ret
    exact ⟨by simp [h], rfl⟩
  · have h' : n < a := by omega
    have hf : Hid ((decide (a ≤ n) && decide (n ≤ b)) = false) := Lib.hid (by rw [decide_eq_false h]; rfl)
    clear h
    go_enter Tryz.func108, Tryz.ntmps108
    go_wp2
    go_ret
    exact ⟨by rw [hf.out]; rfl, rfl⟩

/-- May be a text of 1 to 64 bytes. -/
def tx (s : ByteArray) : Bool := txt (Lib.validD s.data.toList) s.data.toList
theorem tx_len {s : ByteArray} (h : ¬ (1 ≤ s.size ∧ s.size ≤ 64)) : tx s = false := by
  unfold tx txt
  rw [size_list]
  by_cases h1 : 1 ≤ s.size
  · rw [decide_eq_false (show ¬ s.size ≤ 64 by omega)]; simp
  · rw [decide_eq_false h1]; simp
theorem tx_valid {s : ByteArray} (h : Lib.validD s.data.toList = false) : tx s = false := by
  unfold tx txt
  rw [h]; simp
theorem tx_in {s : ByteArray} (h1 : 1 ≤ s.size) (h2 : s.size ≤ 64) (h : Lib.validD s.data.toList = true) : tx s = !inB 0 s.data.toList := by
  unfold tx txt inB
  rw [h, size_list]; simp [h1, h2]
theorem tx_le {s : ByteArray} (h : tx s = true) : 1 ≤ s.size ∧ s.size ≤ 64 := by
  by_cases h1 : 1 ≤ s.size ∧ s.size ≤ 64
  · exact h1
  · rw [tx_len h1] at h; cases h

set_option maxHeartbeats 1000000 in
theorem pText_any (w : World) (s : ByteArray) (hs : s.size ≤ 9223372036854775807) (hE : Env w) :
    Calls Tryz.prog 107 #[.string s, .int .i64 1, .int .i64 64] w fun e w' => e = .returned (.bool (tx s)) ∧ Below w.heap.size w w' := by
  by_cases hl : 1 ≤ s.size ∧ s.size ≤ 64
  · have hb : (decide ((1 : Int) ≤ (s.size : Int)) && decide ((s.size : Int) ≤ 64)) = true := by simp; omega
    cases hv : Lib.validD s.data.toList
    · have hT := Lib.hid (tx_valid hv)
      have HV := Lib.hid hv
      clear hv
      go_enter Tryz.func107, Tryz.ntmps107
      go_wp2_with (first | (go_at_call 108; refine (within_any _ _ _ _).mono ?_; rintro e w' ⟨rfl, rfl⟩; rw [hb]) | (go_at_call 112; refine (Valid_any _ s hs hE).mono ?_; rintro e w' ⟨rfl, hb1⟩; rw [HV.out]))
      go_ret
      exact ⟨by rw [hT.out]; rfl, hb1⟩
    · have hT := Lib.hid (tx_in hl.1 hl.2 hv)
      have HV := Lib.hid hv
      clear hv
      go_enter Tryz.func107, Tryz.ntmps107
      go_wp2_with (first | (go_at_call 108; refine (within_any _ _ _ _).mono ?_; rintro e w' ⟨rfl, rfl⟩; rw [hb]) | (go_at_call 112; refine (Valid_any _ s hs hE).mono ?_; rintro e w' ⟨rfl, hb1⟩; rw [HV.out]) | (go_at_call 157; refine (Contains_any _ _ _).mono ?_; rintro e w' ⟨rfl, rfl⟩))
      go_ret
      exact ⟨by rw [hT.out]; rfl, hb1⟩
  · have hT := Lib.hid (tx_len hl)
    have hb : (decide ((1 : Int) ≤ (s.size : Int)) && decide ((s.size : Int) ≤ 64)) = false := by
      rw [Bool.eq_false_iff]
      intro h
      simp at h
      omega
    clear hl
    go_enter Tryz.func107, Tryz.ntmps107
    go_wp2_with (go_at_call 108; refine (within_any _ _ _ _).mono ?_; rintro e w' ⟨rfl, rfl⟩; rw [hb])
    go_ret
    exact ⟨by rw [hT.out]; rfl, Below.refl _ _⟩

theorem contains_take {l : List UInt8} {k : Nat} {c : UInt8} (h : k < l.length) (hh : (l.take k).contains c = false) : (l.take (k + 1)).contains c = (l[k] == c) := by
  rw [List.take_succ_eq_append_getElem h, List.contains_eq_any_beq, List.any_append, ← List.contains_eq_any_beq, hh]
  simp [Bool.beq_comm]
theorem contains_of_take {l : List UInt8} {k : Nat} {c : UInt8} (hh : (l.take k).contains c = true) : l.contains c = true := by
  rw [List.contains_iff_mem] at hh ⊢
  exact List.mem_of_mem_take hh

set_option maxHeartbeats 1000000 in
theorem rText_any (w : World) (s : ByteArray) (hs : s.size ≤ 9223372036854775807) (hE : Env w) :
    Calls Tryz.prog 76 #[.string s, .int .i64 1, .int .i64 64] w fun e w' => e = .returned (.bool (tx s)) ∧ Below w.heap.size w w' := by
  have HL := Lib.hid (size_list s)
  by_cases hl : 1 ≤ s.size
  · by_cases hl2 : s.size ≤ 64
    · cases hv : Lib.validD s.data.toList
      · have hT := Lib.hid (tx_valid hv)
        have HV := Lib.hid hv
        clear hv
        go_enter Tryz.func76, Tryz.ntmps76
        go_wp2_with (go_at_call 112; refine (Valid_any _ s hs hE).mono ?_; rintro e w' ⟨rfl, hb1⟩; rw [HV.out])
        go_ret
        exact ⟨by rw [hT.out]; rfl, hb1⟩
      · have hT := Lib.hid (tx_in hl hl2 hv)
        have HV := Lib.hid hv
        clear hv
        go_enter Tryz.func76, Tryz.ntmps76
        go_wp2_with (go_at_call 112; refine (Valid_any _ s hs hE).mono ?_; rintro e w1 ⟨rfl, hb1⟩; rw [HV.out])
        go_loop [7] (fun i => ∃ k : Nat, k ≤ s.size ∧ i = .int .i64 k ∧ Hid ((s.data.toList.take k).contains 0 = false)) (fun i => s.size - (intOf i).toNat)
        case atStart => exact ⟨0, by omega, rfl, Lib.hid (by simp)⟩
        case round =>
          obtain ⟨k, hk, rfl, hno⟩ := hrel
          by_cases hlt : k < s.size
          · obtain ⟨z, hz⟩ : ∃ z, z = s[k] := ⟨_, rfl⟩
            have hzl : Hid (∃ h, s.data.toList[k]'h = z) := Lib.hid ⟨by rw [HL.out]; exact hlt, by rw [hz]; exact list_at s k hlt _⟩
            by_cases h1 : z = 0
            · have HT : Hid ((!inB 0 s.data.toList) = false) := Lib.hid (by
                obtain ⟨h, e⟩ := hzl.out
                have : s.data.toList.contains 0 = true := contains_of_take (k := k + 1) (by rw [contains_take h hno.out, e, h1]; rfl)
                rw [inB, this]; rfl)
              have hb : ((s[k].toNat : Int) == 0) = true := by rw [← hz, h1]; rfl
              clear hz h1
              go_wp2
              go_ret
              exact ⟨by rw [hT.out, HT.out]; rfl, hb1⟩
            · have hb : ((s[k].toNat : Int) == 0) = false := by
                rw [← hz]
                exact beq_eq_false_iff_ne.2 (fun e => h1 (UInt8.toNat_inj.1 (by have : (0 : UInt8).toNat = 0 := rfl; omega)))
              have HN : Hid ((s.data.toList.take (k + 1)).contains 0 = false) := Lib.hid (by
                obtain ⟨h, e⟩ := hzl.out
                rw [contains_take h hno.out, e]
                simp [h1])
              clear hz h1
              go_wp2
              go_round
              case rel => exact ⟨k + 1, by omega, by go_num, HN⟩
              case measure => simp [intOf]; omega
          · have : k = s.size := by omega
            subst this
            go_wp2
            go_ret
            exact ⟨by rw [hT.out]; rw [← HL.out, List.take_length] at hno; rw [inB, hno.out]; rfl, hb1⟩
    · have hT := Lib.hid (tx_len (s := s) (by omega))
      go_enter Tryz.func76, Tryz.ntmps76
      go_wp2
      go_ret
      exact ⟨by rw [hT.out]; rfl, Below.refl _ _⟩
  · have hT := Lib.hid (tx_len (s := s) (by omega))
    have hl2 : s.size < 1 := by omega
    clear hl
    go_enter Tryz.func76, Tryz.ntmps76
    go_wp2
    go_ret
    exact ⟨by rw [hT.out]; rfl, Below.refl _ _⟩

/-- May be a name. -/
def nm (s : ByteArray) : Bool := tx s && !hasB s.data.toList

set_option maxHeartbeats 400000 in
theorem IsName_any (w : World) (s : ByteArray) (hs : s.size < 4294967281) (hE : Env w) :
    Calls Tryz.prog 67 #[.string s] w fun e w' => e = .returned (.bool (nm s)) ∧ Below w.heap.size w w' := by
  have hs2 : s.size ≤ 9223372036854775807 := by omega
  cases ht : tx s
  · have HT := Lib.hid ht
    have HN : Hid (nm s = false) := Lib.hid (by unfold nm; rw [ht]; rfl)
    clear ht
    go_enter Tryz.func67, Tryz.ntmps67
    go_wp2_with (go_at_call 107; refine (pText_any _ s hs2 hE).mono ?_; rintro e w' ⟨rfl, hb1⟩; rw [HT.out])
    go_ret
    exact ⟨by rw [HN.out]; rfl, hb1⟩
  · have HT := Lib.hid ht
    have HN : Hid (nm s = !hasB s.data.toList) := Lib.hid (by unfold nm; rw [ht]; rfl)
    clear ht
    go_enter Tryz.func67, Tryz.ntmps67
    go_wp2_with (first | (go_at_call 107; refine (pText_any _ s hs2 hE).mono ?_; rintro e w1 ⟨rfl, hb1⟩; rw [HT.out]) | (go_at_call 109; refine (ContainsAny_any _ s hs).mono ?_; rintro e w2 ⟨rfl, hb2⟩))
    go_ret
    exact ⟨by rw [HN.out]; rfl, hb1.trans (hb2.mono hb1.size)⟩

set_option maxHeartbeats 400000 in
theorem rName_any (w : World) (s : ByteArray) (hs : s.size ≤ 9223372036854775807) (hE : Env w) :
    Calls Tryz.prog 51 #[.string s] w fun e w' => e = .returned (.bool (nm s)) ∧ Below w.heap.size w w' := by
  cases ht : tx s
  · have HT := Lib.hid ht
    have HN : Hid (nm s = false) := Lib.hid (by unfold nm; rw [ht]; rfl)
    clear ht
    go_enter Tryz.func51, Tryz.ntmps51
    go_wp2_with (go_at_call 76; refine (rText_any _ s hs hE).mono ?_; rintro e w' ⟨rfl, hb1⟩; rw [HT.out])
    go_ret
    exact ⟨by rw [HN.out]; rfl, hb1⟩
  · have HT := Lib.hid ht
    have HN : Hid (nm s = !hasB s.data.toList) := Lib.hid (by unfold nm; rw [ht]; rfl)
    clear ht
    go_enter Tryz.func51, Tryz.ntmps51
    go_wp2_with (first | (go_at_call 76; refine (rText_any _ s hs hE).mono ?_; rintro e w1 ⟨rfl, hb1⟩; rw [HT.out]) | (go_at_call 77; refine (has_any _ s hs).mono ?_; rintro e w2 ⟨rfl, rfl⟩))
    go_ret
    exact ⟨by rw [HN.out]; rfl, hb1⟩
end Go.Proofs.YtknnaeejkmlnbaaGreatDoor
