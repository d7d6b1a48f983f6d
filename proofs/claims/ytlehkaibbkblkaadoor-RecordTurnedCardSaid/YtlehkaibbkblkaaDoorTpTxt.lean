/- Texts, names: contracts of utf8.ValidString, strings.Contains, pack.Text, topic.IsName, and of the page's own Text, Name. -/

import Derived.Test.YtlehkaibbkblkaaDoorTpAny
import Derived.Test.YtlehkaibbkblkaaDoorTpLaidV
import Derived.Lib.LaidU8T
namespace Go.Proofs.YtlehkaibbkblkaaDoor
open Go.RowKit Go.Shelf Go.Proofs

/-- What is known of the library's own variables. -/
structure Env (w : World) : Prop where
  tabs : Lib.Utf8Tabs (Tryd.lays196_ren.g 3) (Tryd.lays196_ren.g 4) w
  maxlen : ∃ m, w.cell? ⟨Tryd.lays146_ren.g 1, 0, none⟩ = some (.int .i64 m)
theorem Env.below {w w' : World} (h : Env w) (hb : Below w.heap.size w w') : Env w' :=
  ⟨Utf8Tabs_below h.tabs hb, h.maxlen.elim fun m hm => ⟨m, (hb.cell (World.block_lt_of_cell? w _ hm)).trans hm⟩⟩

theorem Valid_any (w : World) (s : ByteArray) (hs : s.size ≤ 9223372036854775807) (hE : Env w) :
    Calls Tryd.prog 65 #[.string s] w fun e w' => e = .returned (.bool (Lib.validD s.data.toList)) ∧ Below w.heap.size w w' :=
  Any.utf8_ValidString Tryd.lays196 s w hs hE.tabs

/-- The byte is in the list. -/
def inB (c : UInt8) (l : List UInt8) : Bool := l.contains c
theorem Contains_any (w : World) (s : ByteArray) (c : UInt8) :
    Calls Tryd.prog 66 #[.string s, .string ⟨#[c]⟩] w fun e w' => e = .returned (.bool (inB c s.data.toList)) ∧ w = w' :=
  (Any.strings_Contains_one { Tryd.lays144 with } s c w).mono fun e w' ⟨he, hw⟩ => ⟨by rw [he, inB, Lib.contains_iff_indexByte], hw.symm⟩

theorem within_any (w : World) (n a b : Int) :
    Calls Tryd.prog 61 #[.int .i64 n, .int .i64 a, .int .i64 b] w fun e w' => e = .returned (.bool (decide (a ≤ n) && decide (n ≤ b))) ∧ w = w' := by
  by_cases h : a ≤ n
  · go_enter Tryd.func61, Tryd.ntmps61
    go_wp2
    go_ret
    exact ⟨by simp [h], rfl⟩
  · have h' : n < a := by omega
    have hf : Hid ((decide (a ≤ n) && decide (n ≤ b)) = false) := Lib.hid (by rw [decide_eq_false h]; rfl)
    clear h
    go_enter Tryd.func61, Tryd.ntmps61
    go_wp2
    go_ret
    exact ⟨by rw [hf.out]; rfl, rfl⟩

/-- May be a text of 1 to 64 bytes. -/
def tx (s : ByteArray) : Bool := txt (Lib.validD s.data.toList) s.data.toList
theorem tx_len {s : ByteArray} (h : ¬ (1 ≤ s.size ∧ s.size ≤ 64)) : tx s = false := by
  unfold tx txt
  rw [size_list]
  by_cases h1 : 1 ≤ s.size
  · rw [decide_eq_false (show ¬ s.size ≤ 64 by omega)]; simp
  · rw [decide_eq_false h1]; simp
theorem tx_valid {s : ByteArray} (h : Lib.validD s.data.toList = false) : tx s = false := by
  unfold tx txt
  rw [h]; simp
theorem tx_in {s : ByteArray} (h1 : 1 ≤ s.size) (h2 : s.size ≤ 64) (h : Lib.validD s.data.toList = true) : tx s = !inB 0 s.data.toList := by
  unfold tx txt inB
  rw [h, size_list]; simp [h1, h2]
theorem tx_le {s : ByteArray} (h : tx s = true) : 1 ≤ s.size ∧ s.size ≤ 64 := by
  by_cases h1 : 1 ≤ s.size ∧ s.size ≤ 64
  · exact h1
  · rw [tx_len h1] at h; cases h

set_option maxHeartbeats 1000000 in
theorem pText_any (w : World) (s : ByteArray) (hs : s.size ≤ 9223372036854775807) (hE : Env w) :
    Calls Tryd.prog 60 #[.string s, .int .i64 1, .int .i64 64] w fun e w' => e = .returned (.bool (tx s)) ∧ Below w.heap.size w w' := by
  by_cases hl : 1 ≤ s.size ∧ s.size ≤ 64
  · have hb : (decide ((1 : Int) ≤ (s.size : Int)) && decide ((s.size : Int) ≤ 64)) = true := by simp; omega
    cases hv : Lib.validD s.data.toList
    · have hT := Lib.hid (tx_valid hv)
      have HV := Lib.hid hv
      clear hv
      go_enter Tryd.func60, Tryd.ntmps60
      go_wp2_with (first | (go_at_call 61; refine (within_any _ _ _ _).mono ?_; rintro e w' ⟨rfl, rfl⟩; rw [hb]) | (go_at_call 65; refine (Valid_any _ s hs hE).mono ?_; rintro e w' ⟨rfl, hb1⟩; rw [HV.out]))
      go_ret
      exact ⟨by rw [hT.out]; rfl, hb1⟩
    · have hT := Lib.hid (tx_in hl.1 hl.2 hv)
      have HV := Lib.hid hv
      clear hv
      go_enter Tryd.func60, Tryd.ntmps60
      go_wp2_with (first | (go_at_call 61; refine (within_any _ _ _ _).mono ?_; rintro e w' ⟨rfl, rfl⟩; rw [hb]) | (go_at_call 65; refine (Valid_any _ s hs hE).mono ?_; rintro e w' ⟨rfl, hb1⟩; rw [HV.out]) | (go_at_call 66; refine (Contains_any _ _ _).mono ?_; rintro e w' ⟨rfl, rfl⟩))
      go_ret
      exact ⟨by rw [hT.out]; rfl, hb1⟩
  · have hT := Lib.hid (tx_len hl)
    have hb : (decide ((1 : Int) ≤ (s.size : Int)) && decide ((s.size : Int) ≤ 64)) = false := by
      rw [Bool.eq_false_iff]
      intro h
      simp at h
      omega
    clear hl
    go_enter Tryd.func60, Tryd.ntmps60
    go_wp2_with (go_at_call 61; refine (within_any _ _ _ _).mono ?_; rintro e w' ⟨rfl, rfl⟩; rw [hb])
    go_ret
    exact ⟨by rw [hT.out]; rfl, Below.refl _ _⟩

/-- May be a name. -/
def nm (s : ByteArray) : Bool := tx s && !hasB s.data.toList

set_option maxHeartbeats 400000 in
theorem IsName_any (w : World) (s : ByteArray) (hs : s.size < 4294967281) (hE : Env w) :
    Calls Tryd.prog 54 #[.string s] w fun e w' => e = .returned (.bool (nm s)) ∧ Below w.heap.size w w' := by
  have hs2 : s.size ≤ 9223372036854775807 := by omega
  cases ht : tx s
  · have HT := Lib.hid ht
    have HN : Hid (nm s = false) := Lib.hid (by unfold nm; rw [ht]; rfl)
    clear ht
    go_enter Tryd.func54, Tryd.ntmps54
    go_wp2_with (go_at_call 60; refine (pText_any _ s hs2 hE).mono ?_; rintro e w' ⟨rfl, hb1⟩; rw [HT.out])
    go_ret
    exact ⟨by rw [HN.out]; rfl, hb1⟩
  · have HT := Lib.hid ht
    have HN : Hid (nm s = !hasB s.data.toList) := Lib.hid (by unfold nm; rw [ht]; rfl)
    clear ht
    go_enter Tryd.func54, Tryd.ntmps54
    go_wp2_with (first | (go_at_call 60; refine (pText_any _ s hs2 hE).mono ?_; rintro e w1 ⟨rfl, hb1⟩; rw [HT.out]) | (go_at_call 62; refine (ContainsAny_any _ s hs).mono ?_; rintro e w2 ⟨rfl, hb2⟩))
    go_ret
    exact ⟨by rw [HN.out]; rfl, hb1.trans (hb2.mono hb1.size)⟩

end Go.Proofs.YtlehkaibbkblkaaDoor
