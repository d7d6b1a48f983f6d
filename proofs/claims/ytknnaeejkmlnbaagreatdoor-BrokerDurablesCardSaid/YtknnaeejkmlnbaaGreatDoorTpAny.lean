/- strings.ContainsAny(s, "+#") at every text: whether one of the two bytes is in it. -/

import Derived.Test.YtknnaeejkmlnbaaGreatDoorTpStr
import Derived.Test.YtknnaeejkmlnbaaGreatDoorTpLaid
import Derived.Laws.RangeString
import Derived.Laws.Runes
import Derived.Lib.MapLaws
import Derived.Scope
import Derived.Outline
import Derived.Deep.DeepCutAuto
namespace Go.Proofs.YtknnaeejkmlnbaaGreatDoor
open Go.RowKit Go.Shelf Go.Proofs

theorem IndexByte_any (s : ByteArray) (c : Int) (w : World) : Calls Tryz.prog 210 #[.string s, .int .u8 c] w fun e w' => e = .returned (.int .i64 (Lib.indexByte s.data.toList c.toNat.toUInt8)) ∧ w' = w :=
  Any.strings_IndexByte { Tryz.lays152 with } s c w
/-- '+', '#'. -/
def plusHash : ByteArray := ⟨#[43, 35]⟩

theorem run_next_any {P : Program} (w : World) (s : ByteArray) (pos : Nat) (ty : TypeId) (h : pos < s.size) :
    (Instr.next (.pointer (some ⟨w.heap.size, 0, none⟩)) true ty).run P (w.iter s pos) =
      .ok (.tuple #[.bool true, .int .i64 pos, .int .i32 (Utf8.decode s pos).1]) (w.iter s (pos + (Utf8.decode s pos).2)) := by
  simp only [Instr.next, getObj, setObj, Sem.run_bind, Sem.run, World.iter_heap, Result.andThen, h, if_true, World.iter_set]
  simp [goInt]

def iterTo (w : World) (b : Nat) (s : ByteArray) (pos : Nat) : World := { w with heap := w.heap.setIfInBounds b (.stringIter s pos) }
theorem iterTo_heap (w : World) (b : Nat) (s : ByteArray) (pos : Nat) (h : b < w.heap.size) : (iterTo w b s pos).heap[b]? = some (.stringIter s pos) := by
  simp [iterTo, h]
theorem iterTo_size (w : World) (b : Nat) (s : ByteArray) (pos : Nat) : (iterTo w b s pos).heap.size = w.heap.size := by simp [iterTo]
theorem iterTo_below (w : World) (b : Nat) (s : ByteArray) (pos B : Nat) (h : B ≤ b) : Below B w (iterTo w b s pos) :=
  ⟨rfl, rfl, rfl, by simp [iterTo], fun i hi => by simp only [iterTo]; rw [Array.getElem?_setIfInBounds, if_neg (by omega)]⟩
theorem run_next_in {P : Program} (w : World) (b : Nat) (s : ByteArray) (pos : Nat) (ty : TypeId) (h : pos < s.size) (hb : w.heap[b]? = some (.stringIter s pos)) :
    (Instr.next (.pointer (some ⟨b, 0, none⟩)) true ty).run P w =
      .ok (.tuple #[.bool true, .int .i64 pos, .int .i32 (Utf8.decode s pos).1]) (iterTo w b s (pos + (Utf8.decode s pos).2)) := by
  simp only [Instr.next, getObj, setObj, Sem.run_bind, Sem.run, hb, Result.andThen, h, if_true]
  simp [goInt, iterTo]
theorem run_next_in_end {P : Program} (w : World) (b : Nat) (s : ByteArray) (pos : Nat) (ty : TypeId) (h : ¬ pos < s.size) (hb : w.heap[b]? = some (.stringIter s pos)) :
    (Instr.next (.pointer (some ⟨b, 0, none⟩)) true ty).run P w = .ok (.tuple #[.bool false]) w := by
  simp [Instr.next, getObj, Sem.run, hb, h]

theorem decode_high (s : ByteArray) (pos : Nat) (h : pos < s.size) (h128 : 128 ≤ (s.data.toList.getD pos 0).toNat) :
    128 ≤ (Utf8.decode s pos).1 ∧ Utf8.valid ((Utf8.decode s pos).1 : Int) = true ∧ 1 ≤ (Utf8.decode s pos).2 ∧ pos + (Utf8.decode s pos).2 ≤ s.size ∧
      ∀ j, pos ≤ j → j < pos + (Utf8.decode s pos).2 → 128 ≤ (s.data.toList.getD j 0).toNat := by
  rw [Lib.decode_N, size_list]
  generalize hx0 : s.data.toList.getD pos 0 = x0 at *
  generalize hx1 : s.data.toList.getD (pos + 1) 0 = x1 at *
  generalize hx2 : s.data.toList.getD (pos + 2) 0 = x2 at *
  generalize hx3 : s.data.toList.getD (pos + 3) 0 = x3 at *
  have k0 := x0.toNat_lt
  rcases Lib.decodeN_shape (s.size - pos) x0.toNat x1.toNat x2.toNat x3.toNat with ⟨c, e⟩ | ⟨c1, c2, c3, cv, e⟩ | ⟨c1, c2, c3, c4, cv, cs, e⟩ | ⟨c1, c2, c3, c4, c5, cv, cw, e⟩ | e
  · omega
  · rw [e]
    refine ⟨cv, ?_, by simp, by simp; omega, fun j h1 h2 => ?_⟩
    · simp only [Utf8.valid]; simp; omega
    · have : j = pos ∨ j = pos + 1 := by simp at h2; omega
      rcases this with rfl | rfl
      · rw [hx0]; omega
      · rw [hx1]; omega
  · rw [e]
    refine ⟨by simp; omega, ?_, by simp, by simp; omega, fun j h1 h2 => ?_⟩
    · simp only [Utf8.valid]; simp; omega
    · have : j = pos ∨ j = pos + 1 ∨ j = pos + 2 := by simp at h2; omega
      rcases this with rfl | rfl | rfl
      · rw [hx0]; omega
      · rw [hx1]; omega
      · rw [hx2]; omega
  · rw [e]
    refine ⟨by simp; omega, ?_, by simp, by simp; omega, fun j h1 h2 => ?_⟩
    · simp only [Utf8.valid]; simp; omega
    · have : j = pos ∨ j = pos + 1 ∨ j = pos + 2 ∨ j = pos + 3 := by simp at h2; omega
      rcases this with rfl | rfl | rfl | rfl
      · rw [hx0]; omega
      · rw [hx1]; omega
      · rw [hx2]; omega
      · rw [hx3]; omega
  · rw [e]
    refine ⟨by simp, by decide, by simp, by simp; omega, fun j h1 h2 => ?_⟩
    have : j = pos := by simp at h2; omega
    subst this
    rw [hx0]; omega

set_option maxHeartbeats 2000000 in
set_option maxRecDepth 100000 in
/-- The sign U+FFFD is not in "+#". -/
theorem IndexRune_bad (w : World) :
    Calls Tryz.prog 186 #[.string plusHash, .int .i32 65533] w fun e w' => e = .returned (.int .i64 (-1)) ∧ Below w.heap.size w w' := by
  go_enter Tryz.func186, Tryz.ntmps186
  go_wp2
  go_loopg [5, 6] 3 (fun g _ _ wx => ∃ i : Nat, i + g = 3 ∧ i ≤ 2 ∧ wx = w.iter plusHash i)
  case atStart => exact ⟨0, by omega, by omega, rfl⟩
  case round =>
    obtain ⟨i, hig, hi2, rfl⟩ := hrel
    rcases (show i = 0 ∨ i = 1 ∨ i = 2 by omega) with rfl | rfl | rfl
    · have hnx := fun ty => run_next_any (P := Tryz.prog) w plusHash 0 ty (by decide)
      rw [show Utf8.decode plusHash 0 = (43, 1) by decide] at hnx
      go_wp2
      go_roundg 2
      case measure => omega
      case rel => exact ⟨1, by omega, by omega, rfl⟩
    · have hnx := fun ty => run_next_any (P := Tryz.prog) w plusHash 1 ty (by decide)
      rw [show Utf8.decode plusHash 1 = (35, 1) by decide] at hnx
      go_wp2
      go_roundg 1
      case measure => omega
      case rel => exact ⟨2, by omega, by omega, rfl⟩
    · have hnx := run_next_end (P := Tryz.prog) w plusHash 2
      have hsz : ¬ 2 < plusHash.size := by decide
      go_wp2
      go_ret
      exact ⟨rfl, (Below.refl _ _).alloc (Nat.le_refl _) _⟩

set_option maxHeartbeats 2000000 in
set_option maxRecDepth 20000 in
/-- No sign from 128 on is in "+#". -/
theorem IndexRune_high (w : World) (r : Nat) (h128 : 128 ≤ r) (hv : Utf8.valid (r : Int) = true) :
    Calls Tryz.prog 186 #[.string plusHash, .int .i32 r] w fun e w' => e = .returned (.int .i64 (-1)) ∧ Below w.heap.size w w' := by
  by_cases hb : r = 65533
  · subst hb
    exact IndexRune_bad w
  · obtain ⟨h2, h4, hlast⟩ := encode_facts r hv (by omega)
    have hvr : Lib.validRune (r : Int) = true := by
      have := validRune_eq (r : Int)
      rw [hv] at this
      unfold Lib.validRune
      unfold validRune at this
      exact this.symm
    have c1 : ¬ (r : Int) < 128 := by omega
    have c2 : ((r : Int) == 65533) = false := beq_eq_false_iff_ne.2 (by omega)
    have HV := Lib.hid hv
    clear hv
    go_enter Tryz.func186, Tryz.ntmps186
    go_wp2_with (go_at_call 211; refine (Any.utf8_ValidRune Tryz.lays119 _ _).mono ?_; rintro e w' ⟨rfl, hw⟩; rw [hw, hvr])
    go_step3
    go_upto_region 2 with fail
    generalize Utf8.encode (r : Int) = E at h2 h4 hlast ⊢
    clear hvr c1 c2 HV hb h128
    by_cases h3 : E.size = 2
    · have hl : 128 ≤ (E[1]'(by omega)).toNat := by
        have := hlast (by omega)
        simpa only [h3] using this
      obtain ⟨z, hz⟩ : ∃ z, z = E[1]'(by omega) := ⟨_, rfl⟩
      have hne : (((plusHash[1]'(by decide)).toNat : Int) != ((E[1]'(by omega)).toNat : Int)) = true := bne_iff_ne.2 (by
        have : (plusHash[1]'(by decide)).toNat = 35 := rfl
        omega)
      clear hlast
      go_wp2
      go_loop [9] (fun i => i = .int .i64 1) (fun _ => 0)
      case atStart => rfl
      case round =>
        obtain rfl := hrel
        go_wp2
        go_step3
        go_wp2
        go_quiet (fail)
        go_wp2
        have hw2 : IntKind.i64.wrap 2 = 2 := by decide
        have hp2 : plusHash.size = 2 := rfl
        have hib : ∀ c, Lib.indexByte ByteArray.empty.data.toList c = -1 := fun c => rfl
        have hib2 : ∀ c, Lib.indexByte [] c = -1 := fun c => rfl
        go_quiet ((go_at_call 210; exact quiet_add_same (IndexByte_any _ _ _)))
        go_wp2
        simp +zetaDelta only [Exit.noGoto_ret, Exit.inBlock, Exit.then]
        go_ret
        exact ⟨rfl, below_drewN (Below.refl _ _) _⟩
    · have h5 : 2 < E.size := by omega
      have c3 : decide ((E.size : Int) - 1 < 2) = false := decide_eq_false (by omega)
      have hp2 : plusHash.size = 2 := rfl
      clear hlast h3
      go_wp2
      go_loop [9] (fun i => i = .int .i64 ((E.size : Int) - 1)) (fun _ => 0)
      case atStart => rfl
      case round =>
        obtain rfl := hrel
        go_wp2
        go_ret
        exact ⟨rfl, Below.refl _ _⟩

/-- The signs of a text that were seen hold neither byte, up to a place. -/
def clean (s : ByteArray) (i : Nat) : Prop := ∀ j, j < i → (s.data.toList.getD j 0) ≠ 43 ∧ (s.data.toList.getD j 0) ≠ 35

theorem hasB_clean {s : ByteArray} (h : clean s s.size) : hasB s.data.toList = false := by
  unfold hasB
  rw [List.any_eq_false]
  intro x hx
  obtain ⟨j, hj, rfl⟩ := List.getElem_of_mem hx
  have := h j (by rw [size_list] at hj; exact hj)
  rw [List.getD_eq_getElem?_getD, List.getElem?_eq_getElem hj, Option.getD_some] at this
  simp only [beq_iff_eq, Bool.or_eq_true, not_or]
  exact this
theorem hasB_hit {s : ByteArray} {j : Nat} (hj : j < s.size) (h : s.data.toList.getD j 0 = 43 ∨ s.data.toList.getD j 0 = 35) : hasB s.data.toList = true := by
  unfold hasB
  rw [List.any_eq_true]
  have hj' : j < s.data.toList.length := by rw [size_list]; exact hj
  rw [List.getD_eq_getElem?_getD, List.getElem?_eq_getElem hj', Option.getD_some] at h
  exact ⟨_, List.getElem_mem hj', by simpa using h⟩

theorem IndexRune_low (w : World) (r : Nat) (h128 : r < 128) :
    Calls Tryz.prog 186 #[.string plusHash, .int .i32 r] w fun e w' => e = .returned (.int .i64 (Lib.indexByte [43, 35] r.toUInt8)) ∧ w' = w :=
  (Any.strings_IndexRune_ascii { Tryz.lays152 with } plusHash r w (by omega) (by omega))

theorem low_hit (z : UInt8) : decide ((0 : Int) ≤ Lib.indexByte [43, 35] z) = (z == 43 || z == 35) := by
  by_cases h1 : z = 43
  · subst h1; rfl
  · by_cases h2 : z = 35
    · subst h2; rfl
    · have e1 : ((43 : UInt8) == z) = false := beq_eq_false_iff_ne.2 (fun e => h1 e.symm)
      have e2 : ((35 : UInt8) == z) = false := beq_eq_false_iff_ne.2 (fun e => h2 e.symm)
      simp [Lib.indexByte, e1, e2, h1, h2]
theorem clean_to {s : ByteArray} {i n : Nat} (h : clean s i) (hn : ∀ j, i ≤ j → j < i + n → 128 ≤ (s.data.toList.getD j 0).toNat) : clean s (i + n) := fun j hj => by
  by_cases hji : j < i
  · exact h j hji
  · have := hn j (by omega) hj
    constructor <;> (intro e; rw [e] at this; revert this; decide)
theorem clean_step {s : ByteArray} {i : Nat} {z : UInt8} (h : clean s i) (hz : z = s.data.toList.getD i 0) (hn : (z == 43 || z == 35) = false) : clean s (i + 1) := fun j hj => by
  by_cases hji : j < i
  · exact h j hji
  · have : j = i := by omega
    subst this
    rw [← hz]
    simpa using hn

set_option maxHeartbeats 2000000 in
set_option maxRecDepth 100000 in
theorem IndexAny_short (w : World) (s : ByteArray) (h8 : s.size ≤ 8) :
    Calls Tryz.prog 158 #[.string s, .string plusHash] w fun e w' => (∃ k : Int, e = .returned (.int .i64 k) ∧ decide (0 ≤ k) = hasB s.data.toList) ∧ Below w.heap.size w w' := by
  have hemp : plusHash.toList.isEmpty = false := by rw [Lib.toList_data]; rfl
  have hp2 : plusHash.size = 2 := rfl
  have h8z : decide ((8 : Int) < (s.size : Int)) = false := decide_eq_false (by omega)
  go_enter Tryz.func158, Tryz.ntmps158
  go_wp2_with (go_at_call 187; refine (Any.strings_shouldUseASCIISet { Tryz.lays153 with } _ _).mono ?_; rintro e w' ⟨rfl, hw⟩; rw [hw, h8z])
  go_loopg [9, 10] s.size (fun g _ _ wx => ∃ i : Nat, i ≤ s.size ∧ s.size ≤ i + g ∧ Hid (clean s i) ∧ Below w.heap.size w wx ∧ wx.heap[w.heap.size]? = some (.stringIter s i))
  case atStart => exact ⟨0, by omega, by omega, Lib.hid (fun j h => by omega), (Below.refl _ _).alloc (Nat.le_refl _) _, by simp [World.iter_heap]⟩
  case round =>
    obtain ⟨i, hi, hig, HC, hb, hit⟩ := hrel
    have HI := Lib.hid hit
    have hlt := (Array.getElem?_eq_some_iff.1 hit).1
    clear hit
    by_cases hlt2 : i < s.size
    · obtain ⟨d, hd⟩ : ∃ d, Utf8.decode s i = d := ⟨_, rfl⟩
      have hnx := fun ty => run_next_in (P := Tryz.prog) wr w.heap.size s i ty hlt2 HI.out
      rw [hd] at hnx
      obtain ⟨z, hz⟩ : ∃ z, z = s.data.toList.getD i 0 := ⟨_, rfl⟩
      by_cases h128 : z.toNat < 128
      · have hdz : d = (z.toNat, 1) := by
          rw [← hd, Lib.decode_N, Lib.decodeN_ascii _ _ _ _ _ (by rw [← hz]; exact h128), hz]
        subst hdz
        have HZ := Lib.hid hz
        clear hz hd
        have hge := low_hit z
        obtain ⟨ib, hib⟩ : ∃ ib, ib = Lib.indexByte [43, 35] z := ⟨_, rfl⟩
        have hzz : (z.toNat).toUInt8 = z := by simp
        rw [← hib] at hge
        have HIB : Hid (Lib.indexByte [43, 35] (z.toNat).toUInt8 = ib) := Lib.hid (by rw [hzz, hib])
        clear hib hzz
        cases hin : (z == 43 || z == 35)
        · rw [hin] at hge
          have HN := Lib.hid (clean_step HC.out HZ.out hin)
          have hge2 : ¬ (0 : Int) ≤ ib := of_decide_eq_false hge
          clear hin hge
          go_wp2_with (go_at_call 186; refine (IndexRune_low _ _ h128).mono ?_; rintro e w' ⟨rfl, hw⟩; rw [hw, HIB.out])
          go_roundg (s.size - (i + 1))
          case measure => omega
          case rel => exact ⟨i + 1, by omega, by omega, HN, hb.trans (iterTo_below _ _ _ _ _ (Nat.le_refl _)), iterTo_heap _ _ _ _ hlt⟩
        · rw [hin] at hge
          have HT : Hid (hasB s.data.toList = true) := Lib.hid (hasB_hit hlt2 (by rw [← HZ.out]; simpa using hin))
          have hge2 : (0 : Int) ≤ ib := of_decide_eq_true hge
          clear hin hge
          go_wp2_with (go_at_call 186; refine (IndexRune_low _ _ h128).mono ?_; rintro e w' ⟨rfl, hw⟩; rw [hw, HIB.out])
          go_ret
          exact ⟨⟨i, rfl, by rw [HT.out]; simp⟩, hb.trans (iterTo_below _ _ _ _ _ (Nat.le_refl _))⟩
      · obtain ⟨r, n⟩ := d
        have hh := decode_high s i hlt2 (by rw [← hz]; omega)
        rw [hd] at hh
        obtain ⟨hr1, hr2, hn1, hn2, hall⟩ := hh
        simp only at hr1 hr2 hn1 hn2 hall
        have HN := Lib.hid (clean_to HC.out hall)
        have HV := Lib.hid hr2
        clear hz hd hall hr2
        go_wp2_with (go_at_call 186; refine (IndexRune_high _ _ hr1 HV.out).mono ?_; rintro e w' ⟨rfl, hbr⟩)
        go_roundg (s.size - (i + n))
        case measure => omega
        case rel =>
          have hsz := iterTo_size wr w.heap.size s (i + n)
          exact ⟨i + n, by omega, by omega, HN, (hb.trans (iterTo_below _ _ _ _ _ (Nat.le_refl _))).trans (hbr.mono (by rw [hsz]; omega)), (hbr.block _ (by rw [hsz]; omega)).trans (iterTo_heap _ _ _ _ hlt)⟩
    · have : i = s.size := by omega
      subst this
      have hnx := fun ty => run_next_in_end (P := Tryz.prog) wr w.heap.size s s.size ty hlt2 HI.out
      have HT := Lib.hid (hasB_clean HC.out)
      go_wp2
      go_ret
      exact ⟨⟨-1, rfl, by rw [HT.out]; rfl⟩, hb⟩

theorem info_set : (Tryz.prog.info? 195).map (fun i => (i.zero, i.size)) = some (some (.agg (Array.replicate 256 (.bool false))), 256) := by kernel_rfl

theorem containsAny_hasB (l : List UInt8) : decide ((0 : Int) ≤ Lib.indexAny l [43, 35]) = hasB l := by
  induction l with
  | nil => rfl
  | cons b l ih =>
    have hc : ([43, 35] : List UInt8).contains b = (b == 43 || b == 35) := by rw [Bool.eq_iff_iff]; simp
    have hb : hasB (b :: l) = ((b == 43 || b == 35) || hasB l) := rfl
    have e : Lib.indexAny (b :: l) [43, 35] = if ([43, 35] : List UInt8).contains b then 0 else if Lib.indexAny l [43, 35] == -1 then -1 else Lib.indexAny l [43, 35] + 1 := rfl
    rw [hb, ← ih, e, hc]
    have hg := Lib.indexAny_ge [43, 35] l
    cases h : (b == 43 || b == 35)
    · simp only [Bool.false_eq_true, if_false, Bool.false_or]
      split
      · rename_i h1
        have := beq_iff_eq.1 h1
        rw [this]
      · rename_i h1
        have : Lib.indexAny l [43, 35] ≠ -1 := fun e => h1 (beq_iff_eq.2 e)
        rw [Bool.eq_iff_iff]
        simp only [decide_eq_true_eq]
        omega
    · simp

set_option maxRecDepth 100000 in
theorem IndexAny_any (w : World) (s : ByteArray) (hs : s.size < 4294967281) :
    Calls Tryz.prog 158 #[.string s, .string plusHash] w fun e w' => (∃ k : Int, e = .returned (.int .i64 k) ∧ decide (0 ≤ k) = hasB s.data.toList) ∧ Below w.heap.size w w' := by
  by_cases h8 : s.size ≤ 8
  · exact IndexAny_short w s h8
  · refine (Any.strings_IndexAny_long (ρ := Tryz.lays153_ren) { Tryz.lays153 with } (Go.zero_of_info info_set).1 (Go.zero_of_info info_set).2 s plusHash w (by decide) (by omega) hs (by decide) ?_).mono ?_
    · intro j b hj
      have hj2 : ([43, 35] : List UInt8)[j]? = some b := hj
      rcases j with _ | _ | j
      · simp at hj2; subst hj2; decide
      · simp at hj2; subst hj2; decide
      · simp at hj2
    · rintro e w' ⟨rfl, rfl⟩
      exact ⟨⟨_, rfl, containsAny_hasB _⟩, ((Below.refl _ _).alloc (Nat.le_refl _) _).alloc (by simp) _⟩

set_option maxHeartbeats 400000 in
theorem ContainsAny_any (w : World) (s : ByteArray) (hs : s.size < 4294967281) :
    Calls Tryz.prog 109 #[.string s, .string plusHash] w fun e w' => e = .returned (.bool (hasB s.data.toList)) ∧ Below w.heap.size w w' := by
  go_enter Tryz.func109, Tryz.ntmps109
  go_wp2_with (go_at_call 158; refine (IndexAny_any _ _ hs).mono ?_; rintro e w' ⟨⟨k, rfl, hk⟩, hb⟩)
  go_ret
  exact ⟨by rw [← hk]; rfl, hb⟩
end Go.Proofs.YtknnaeejkmlnbaaGreatDoor
