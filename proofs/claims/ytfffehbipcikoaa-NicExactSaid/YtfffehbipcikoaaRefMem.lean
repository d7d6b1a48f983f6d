/- The contracts of the page's own memory (kioskref1.Mem). -/

import Derived.Test.YtfffehbipcikoaaMem2
import Derived.Test.YtfffehbipcikoaaBase
namespace Go.Proofs.Ytfffehbipcikoaa
open Go.RowKit

set_option maxHeartbeats 400000 in
theorem in_any (w : World) (m d : Nat) (B : List UInt8) (at_ n : Int) (h : MemAt 52 w m d B) (hB : B.length ≤ 65536) (hn : 0 ≤ n) :
    Calls Try.prog 66 #[.pointer (some ⟨m, 0, none⟩), .int .i64 at_, .int .i64 n] w fun e w' => e = .returned (.bool (hasB B.length at_ n)) ∧ w = w' := by
  have hc := h.head.cell 0
  simp only [List.getElem?_cons_zero] at hc
  clear h
  by_cases h1 : 0 ≤ at_
  · by_cases h2 : at_ ≤ B.length
    · by_cases h3 : n ≤ B.length - at_
      · go_enter Try.func66, Try.ntmps66
        go_wp2
        go_ret
        exact ⟨by simp [hasB]; omega, rfl⟩
      · have h3 : (B.length : Int) - at_ < n := by omega
        go_enter Try.func66, Try.ntmps66
        go_wp2
        go_ret
        exact ⟨by simp [hasB]; omega, rfl⟩
    · have h2 : (B.length : Int) < at_ := by omega
      go_enter Try.func66, Try.ntmps66
      go_wp2
      go_ret
      exact ⟨by simp [hasB]; omega, rfl⟩
  · have h1 : at_ < 0 := by omega
    go_enter Try.func66, Try.ntmps66
    go_wp2
    go_ret
    exact ⟨by simp [hasB]; omega, rfl⟩

set_option maxHeartbeats 1000000 in
theorem rGet_no (w : World) (m d : Nat) (B : List UInt8) (p n : Int) (h : MemAt 52 w m d B) (hB : B.length ≤ 65536) (hn : askE B.length p n ≠ 0) :
    Calls Try.prog 34 #[.pointer (some ⟨m, 0, none⟩), .int .i64 p, .int .i64 n] w fun e w' => e = .returned (.tuple #[.int .u64 0, .int .i64 (askE B.length p n)]) ∧ w = w' := by
  cases hw : isW n
  · obtain ⟨a1, a2, a3, a4⟩ := isW_not hw
    have c1 : (n != 1) = true := by simpa using a1
    have c2 : (n != 2) = true := by simpa using a2
    have c3 : (n != 4) = true := by simpa using a3
    have c4 : (n != 8) = true := by simpa using a4
    have HE : Hid (askE B.length p n = 1) := by unfold askE; rw [hw]; exact Lib.hid rfl
    clear a1 a2 a3 a4 hw h hn
    go_enter Try.func34, Try.ntmps34
    go_wp2
    go_ret2
    exact ⟨by rw [HE.out]; rfl, rfl⟩
  · have hh : hasB B.length p n = false := by
      cases hh : hasB B.length p n
      · rfl
      · exact absurd (by unfold askE; rw [hw, hh]; rfl) hn
    have HE : Hid (askE B.length p n = 2) := by unfold askE; rw [hw, hh]; exact Lib.hid rfl
    have HH := Lib.hid hh
    have HM := Lib.hid h
    have hnc := isW_cases hw
    clear hw h hn hh
    rcases hnc with rfl | rfl | rfl | rfl
    all_goals
      go_enter Try.func34, Try.ntmps34
      go_wp2_with fail
      refine (in_any _ _ _ _ _ _ HM.out hB (by omega)).mono ?_
      rintro e w' ⟨rfl, rfl⟩
      rw [HH.out]
      go_wp2
      go_ret2
      exact ⟨by rw [HE.out]; rfl, rfl⟩

set_option maxHeartbeats 1000000 in
theorem rPut_no (w : World) (m d : Nat) (B : List UInt8) (p n : Int) (v : Nat) (h : MemAt 52 w m d B) (hB : B.length ≤ 65536) (hn : askE B.length p n ≠ 0) :
    Calls Try.prog 27 #[.pointer (some ⟨m, 0, none⟩), .int .i64 p, .int .i64 n, .int .u64 v] w fun e w' => e = .returned (.int .i64 (askE B.length p n)) ∧ w = w' := by
  cases hw : isW n
  · obtain ⟨a1, a2, a3, a4⟩ := isW_not hw
    have c1 : (n != 1) = true := by simpa using a1
    have c2 : (n != 2) = true := by simpa using a2
    have c3 : (n != 4) = true := by simpa using a3
    have c4 : (n != 8) = true := by simpa using a4
    have HE : Hid (askE B.length p n = 1) := by unfold askE; rw [hw]; exact Lib.hid rfl
    clear a1 a2 a3 a4 hw h hn
    go_enter Try.func27, Try.ntmps27
    go_wp2
    go_ret
    exact ⟨by rw [HE.out]; rfl, rfl⟩
  · have hh : hasB B.length p n = false := by
      cases hh : hasB B.length p n
      · rfl
      · exact absurd (by unfold askE; rw [hw, hh]; rfl) hn
    have HE : Hid (askE B.length p n = 2) := by unfold askE; rw [hw, hh]; exact Lib.hid rfl
    have HH := Lib.hid hh
    have HM := Lib.hid h
    have hnc := isW_cases hw
    clear hw h hn hh
    rcases hnc with rfl | rfl | rfl | rfl
    all_goals
      go_enter Try.func27, Try.ntmps27
      go_wp2_with fail
      refine (in_any _ _ _ _ _ _ HM.out hB (by omega)).mono ?_
      rintro e w' ⟨rfl, rfl⟩
      rw [HH.out]
      go_wp2
      go_ret
      exact ⟨by rw [HE.out]; rfl, rfl⟩

theorem le_down (L : List UInt8) (k : Nat) (h : k < L.length) : le (L.drop k) = (L.getD k 0).toNat + 256 * le (L.drop (k + 1)) := by
  rw [List.drop_eq_getElem_cons h, le, List.getD_eq_getElem?_getD, List.getElem?_eq_getElem h]
  rfl

set_option maxHeartbeats 2000000 in
theorem rGet_ok (w : World) (m d : Nat) (B : List UInt8) (p : Nat) (n : Int) (h : MemAt 52 w m d B) (hB : B.length ≤ 65536) (hw : isW n = true) (hp : p + n ≤ B.length) :
    Calls Try.prog 34 #[.pointer (some ⟨m, 0, none⟩), .int .i64 p, .int .i64 n] w fun e w' => e = .returned (.tuple #[.int .u64 (le ((B.drop p).take n.toNat) : Nat), .int .i64 0]) ∧ w = w' := by
  have hc := h.head.cell 0
  simp only [List.getElem?_cons_zero] at hc
  have HE := Lib.hid h
  have hnc := isW_cases hw
  obtain ⟨L, hL⟩ : ∃ L, L = (B.drop p).take n.toNat := ⟨_, rfl⟩
  have hLl : L.length = n.toNat := by rw [hL]; simp; omega
  have HLl := Lib.hid hLl
  have HL := Lib.hid hL
  have hH := Lib.hid (hasB_ok (len := B.length) (p := p) (n := n) (by omega) (by omega))
  rw [← hL]
  clear h hw hL hLl
  rcases hnc with rfl | rfl | rfl | rfl
  · go_enter Try.func34, Try.ntmps34
    go_wp2_with fail
    refine (in_any _ _ _ _ _ 1 HE.out hB (by omega)).mono ?_
    rintro e w' ⟨rfl, rfl⟩
    rw [hH.out]
    go_wp2
    go_loop [8, 9] (fun v i => ∃ k : Nat, k ≤ 1 ∧ i = .int .i64 ((k : Int) - 1) ∧ v = .int .u64 (le (L.drop k) : Nat)) (fun _ i => (intOf i + 1).toNat)
    case atStart => exact ⟨1, by omega, rfl, by rw [List.drop_eq_nil_of_le (by have := HLl.out; omega)]; rfl⟩
    case round =>
      obtain ⟨k, hk, hi, hv⟩ := hrel
      rcases k with _ | j
      · subst hi hv
        go_wp2
        go_ret2
        exact ⟨rfl, rfl⟩
      · have hi' : ((j + 1 : Nat) : Int) - 1 = j := by omega
        rw [hi'] at hi
        subst hi hv
        clear hi'
        have hx := HE.out.bytes.cell (p + j)
        rw [u8s_getD B (p + j) (by omega)] at hx
        have hLj : (L.getD j 0) = B.getD (p + j) 0 := by
          rw [HL.out]
          simp only [List.getD_eq_getElem?_getD, List.getElem?_take, List.getElem?_drop]
          rw [if_pos (by omega)]
        obtain ⟨b, hb⟩ : ∃ b, b = B.getD (p + j) 0 := ⟨_, rfl⟩
        rw [← hb] at hx hLj
        have hdl := le_lt (L.drop (j + 1))
        have hs0 : b.toNat + 256 * le (L.drop (j + 1)) = le (L.drop j) := by
          rw [le_down L j (by have := HLl.out; omega), hLj]
        have hlt7 : le (L.drop (j + 1)) < 256 ^ 7 := Nat.lt_of_lt_of_le hdl (Nat.pow_le_pow_right (by omega) (by have := HLl.out; simp; omega))
        have H8 := Lib.hid (or_step_up' (le (L.drop (j + 1))) b hlt7)
        have HS := Lib.hid hs0
        clear hb hLj hdl hs0 hlt7
        go_wp2
        go_round
        case rel => exact ⟨j, by omega, rfl, by rw [H8.out, HS.out]⟩
        case measure => simp [intOf]
  · go_enter Try.func34, Try.ntmps34
    go_wp2_with fail
    refine (in_any _ _ _ _ _ 2 HE.out hB (by omega)).mono ?_
    rintro e w' ⟨rfl, rfl⟩
    rw [hH.out]
    go_wp2
    go_loop [8, 9] (fun v i => ∃ k : Nat, k ≤ 2 ∧ i = .int .i64 ((k : Int) - 1) ∧ v = .int .u64 (le (L.drop k) : Nat)) (fun _ i => (intOf i + 1).toNat)
    case atStart => exact ⟨2, by omega, rfl, by rw [List.drop_eq_nil_of_le (by have := HLl.out; omega)]; rfl⟩
    case round =>
      obtain ⟨k, hk, hi, hv⟩ := hrel
      rcases k with _ | j
      · subst hi hv
        go_wp2
        go_ret2
        exact ⟨rfl, rfl⟩
      · have hi' : ((j + 1 : Nat) : Int) - 1 = j := by omega
        rw [hi'] at hi
        subst hi hv
        clear hi'
        have hx := HE.out.bytes.cell (p + j)
        rw [u8s_getD B (p + j) (by omega)] at hx
        have hLj : (L.getD j 0) = B.getD (p + j) 0 := by
          rw [HL.out]
          simp only [List.getD_eq_getElem?_getD, List.getElem?_take, List.getElem?_drop]
          rw [if_pos (by omega)]
        obtain ⟨b, hb⟩ : ∃ b, b = B.getD (p + j) 0 := ⟨_, rfl⟩
        rw [← hb] at hx hLj
        have hdl := le_lt (L.drop (j + 1))
        have hs0 : b.toNat + 256 * le (L.drop (j + 1)) = le (L.drop j) := by
          rw [le_down L j (by have := HLl.out; omega), hLj]
        have hlt7 : le (L.drop (j + 1)) < 256 ^ 7 := Nat.lt_of_lt_of_le hdl (Nat.pow_le_pow_right (by omega) (by have := HLl.out; simp; omega))
        have H8 := Lib.hid (or_step_up' (le (L.drop (j + 1))) b hlt7)
        have HS := Lib.hid hs0
        clear hb hLj hdl hs0 hlt7
        go_wp2
        go_round
        case rel => exact ⟨j, by omega, rfl, by rw [H8.out, HS.out]⟩
        case measure => simp [intOf]
  · go_enter Try.func34, Try.ntmps34
    go_wp2_with fail
    refine (in_any _ _ _ _ _ 4 HE.out hB (by omega)).mono ?_
    rintro e w' ⟨rfl, rfl⟩
    rw [hH.out]
    go_wp2
    go_loop [8, 9] (fun v i => ∃ k : Nat, k ≤ 4 ∧ i = .int .i64 ((k : Int) - 1) ∧ v = .int .u64 (le (L.drop k) : Nat)) (fun _ i => (intOf i + 1).toNat)
    case atStart => exact ⟨4, by omega, rfl, by rw [List.drop_eq_nil_of_le (by have := HLl.out; omega)]; rfl⟩
    case round =>
      obtain ⟨k, hk, hi, hv⟩ := hrel
      rcases k with _ | j
      · subst hi hv
        go_wp2
        go_ret2
        exact ⟨rfl, rfl⟩
      · have hi' : ((j + 1 : Nat) : Int) - 1 = j := by omega
        rw [hi'] at hi
        subst hi hv
        clear hi'
        have hx := HE.out.bytes.cell (p + j)
        rw [u8s_getD B (p + j) (by omega)] at hx
        have hLj : (L.getD j 0) = B.getD (p + j) 0 := by
          rw [HL.out]
          simp only [List.getD_eq_getElem?_getD, List.getElem?_take, List.getElem?_drop]
          rw [if_pos (by omega)]
        obtain ⟨b, hb⟩ : ∃ b, b = B.getD (p + j) 0 := ⟨_, rfl⟩
        rw [← hb] at hx hLj
        have hdl := le_lt (L.drop (j + 1))
        have hs0 : b.toNat + 256 * le (L.drop (j + 1)) = le (L.drop j) := by
          rw [le_down L j (by have := HLl.out; omega), hLj]
        have hlt7 : le (L.drop (j + 1)) < 256 ^ 7 := Nat.lt_of_lt_of_le hdl (Nat.pow_le_pow_right (by omega) (by have := HLl.out; simp; omega))
        have H8 := Lib.hid (or_step_up' (le (L.drop (j + 1))) b hlt7)
        have HS := Lib.hid hs0
        clear hb hLj hdl hs0 hlt7
        go_wp2
        go_round
        case rel => exact ⟨j, by omega, rfl, by rw [H8.out, HS.out]⟩
        case measure => simp [intOf]
  · go_enter Try.func34, Try.ntmps34
    go_wp2_with fail
    refine (in_any _ _ _ _ _ 8 HE.out hB (by omega)).mono ?_
    rintro e w' ⟨rfl, rfl⟩
    rw [hH.out]
    go_wp2
    go_loop [8, 9] (fun v i => ∃ k : Nat, k ≤ 8 ∧ i = .int .i64 ((k : Int) - 1) ∧ v = .int .u64 (le (L.drop k) : Nat)) (fun _ i => (intOf i + 1).toNat)
    case atStart => exact ⟨8, by omega, rfl, by rw [List.drop_eq_nil_of_le (by have := HLl.out; omega)]; rfl⟩
    case round =>
      obtain ⟨k, hk, hi, hv⟩ := hrel
      rcases k with _ | j
      · subst hi hv
        go_wp2
        go_ret2
        exact ⟨rfl, rfl⟩
      · have hi' : ((j + 1 : Nat) : Int) - 1 = j := by omega
        rw [hi'] at hi
        subst hi hv
        clear hi'
        have hx := HE.out.bytes.cell (p + j)
        rw [u8s_getD B (p + j) (by omega)] at hx
        have hLj : (L.getD j 0) = B.getD (p + j) 0 := by
          rw [HL.out]
          simp only [List.getD_eq_getElem?_getD, List.getElem?_take, List.getElem?_drop]
          rw [if_pos (by omega)]
        obtain ⟨b, hb⟩ : ∃ b, b = B.getD (p + j) 0 := ⟨_, rfl⟩
        rw [← hb] at hx hLj
        have hdl := le_lt (L.drop (j + 1))
        have hs0 : b.toNat + 256 * le (L.drop (j + 1)) = le (L.drop j) := by
          rw [le_down L j (by have := HLl.out; omega), hLj]
        have hlt7 : le (L.drop (j + 1)) < 256 ^ 7 := Nat.lt_of_lt_of_le hdl (Nat.pow_le_pow_right (by omega) (by have := HLl.out; simp; omega))
        have H8 := Lib.hid (or_step_up' (le (L.drop (j + 1))) b hlt7)
        have HS := Lib.hid hs0
        clear hb hLj hdl hs0 hlt7
        go_wp2
        go_round
        case rel => exact ⟨j, by omega, rfl, by rw [H8.out, HS.out]⟩
        case measure => simp [intOf]

theorem rGet_any (w : World) (m d : Nat) (B : List UInt8) (p n : Int) (h : MemAt 52 w m d B) (hB : B.length ≤ 65536) :
    Calls Try.prog 34 #[.pointer (some ⟨m, 0, none⟩), .int .i64 p, .int .i64 n] w fun e w' => e = .returned (.tuple #[.int .u64 (getV B p n), .int .i64 (askE B.length p n)]) ∧ w = w' := by
  by_cases hz : askE B.length p n = 0
  · obtain ⟨hw, h0, h1⟩ := askE_zero hz
    obtain ⟨P, rfl⟩ := Int.eq_ofNat_of_zero_le h0
    refine (rGet_ok w m d B P n h hB hw (by omega)).mono fun e w' ⟨he, hw'⟩ => ⟨?_, hw'⟩
    rw [he, getV, if_pos hz, hz]
    rfl
  · refine (rGet_no w m d B p n h hB hz).mono fun e w' ⟨he, hw'⟩ => ⟨?_, hw'⟩
    rw [he, getV, if_neg hz]

set_option maxHeartbeats 2000000 in
theorem rPut_ok (w : World) (m d : Nat) (B : List UInt8) (p : Nat) (n : Int) (v : Nat) (h : MemAt 52 w m d B) (hB : B.length ≤ 65536) (hw : isW n = true) (hp : p + n ≤ B.length) :
    Calls Try.prog 27 #[.pointer (some ⟨m, 0, none⟩), .int .i64 p, .int .i64 n, .int .u64 v] w fun e w' => e = .returned (.int .i64 0) ∧ MemAt 52 w' m d (putB B p v n.toNat) ∧ Left [d] w w' := by
  have hmd := h.ne (by decide)
  have hnc := isW_cases hw
  have HE := Lib.hid h
  have hH := Lib.hid (hasB_ok (len := B.length) (p := p) (n := n) (by omega) (by omega))
  clear h hw
  rcases hnc with rfl | rfl | rfl | rfl
  · go_enter Try.func27, Try.ntmps27
    go_wp2_with fail
    refine (in_any _ _ _ _ _ 1 HE.out hB (by omega)).mono ?_
    rintro e w' ⟨rfl, rfl⟩
    rw [hH.out]
    go_wp2
    go_loopw [9] (fun i wr => ∃ k : Nat, k ≤ 1 ∧ i = .int .i64 k ∧ MemAt 52 wr m d (putB B p v k) ∧ Left [d] w wr) (fun i _ => 1 - (intOf i).toNat)
    case atStart => exact ⟨0, by omega, rfl, HE.out, Left.refl _ _⟩
    case round =>
      obtain ⟨k, hk, rfl, hM, hL⟩ := hrel
      have hc := hM.head.cell 0
      simp only [List.getElem?_cons_zero, putB_length] at hc
      have HM := Lib.hid hM
      clear hM
      by_cases hlt : k < 1
      · have hf := HM.out.bytes.free (p + k)
        have hl := HM.out.bytes.cell (p + k)
        rw [u8s_getD _ (p + k) (by rw [putB_length]; omega)] at hl
        go_wp2
        go_region
        go_wp2
        go_roundw
        case rel => exact ⟨k + 1, by omega, by go_num, by (first | rw [byte_of'] | rw [byte_of2]); exact (HM.out.set_ hmd (p + k) (UInt8.ofNat (v / 256 ^ k))).drew, (hL.setCell (Or.inl (by simp)) _).drew⟩
        case measure => simp [intOf]; omega
      · have hke : k = 1 := by omega
        subst hke
        go_wp2
        go_ret
        exact ⟨rfl, HM.out, hL⟩
  · go_enter Try.func27, Try.ntmps27
    go_wp2_with fail
    refine (in_any _ _ _ _ _ 2 HE.out hB (by omega)).mono ?_
    rintro e w' ⟨rfl, rfl⟩
    rw [hH.out]
    go_wp2
    go_loopw [9] (fun i wr => ∃ k : Nat, k ≤ 2 ∧ i = .int .i64 k ∧ MemAt 52 wr m d (putB B p v k) ∧ Left [d] w wr) (fun i _ => 2 - (intOf i).toNat)
    case atStart => exact ⟨0, by omega, rfl, HE.out, Left.refl _ _⟩
    case round =>
      obtain ⟨k, hk, rfl, hM, hL⟩ := hrel
      have hc := hM.head.cell 0
      simp only [List.getElem?_cons_zero, putB_length] at hc
      have HM := Lib.hid hM
      clear hM
      by_cases hlt : k < 2
      · have hf := HM.out.bytes.free (p + k)
        have hl := HM.out.bytes.cell (p + k)
        rw [u8s_getD _ (p + k) (by rw [putB_length]; omega)] at hl
        go_wp2
        go_region
        go_wp2
        go_roundw
        case rel => exact ⟨k + 1, by omega, by go_num, by (first | rw [byte_of'] | rw [byte_of2]); exact (HM.out.set_ hmd (p + k) (UInt8.ofNat (v / 256 ^ k))).drew, (hL.setCell (Or.inl (by simp)) _).drew⟩
        case measure => simp [intOf]; omega
      · have hke : k = 2 := by omega
        subst hke
        go_wp2
        go_ret
        exact ⟨rfl, HM.out, hL⟩
  · go_enter Try.func27, Try.ntmps27
    go_wp2_with fail
    refine (in_any _ _ _ _ _ 4 HE.out hB (by omega)).mono ?_
    rintro e w' ⟨rfl, rfl⟩
    rw [hH.out]
    go_wp2
    go_loopw [9] (fun i wr => ∃ k : Nat, k ≤ 4 ∧ i = .int .i64 k ∧ MemAt 52 wr m d (putB B p v k) ∧ Left [d] w wr) (fun i _ => 4 - (intOf i).toNat)
    case atStart => exact ⟨0, by omega, rfl, HE.out, Left.refl _ _⟩
    case round =>
      obtain ⟨k, hk, rfl, hM, hL⟩ := hrel
      have hc := hM.head.cell 0
      simp only [List.getElem?_cons_zero, putB_length] at hc
      have HM := Lib.hid hM
      clear hM
      by_cases hlt : k < 4
      · have hf := HM.out.bytes.free (p + k)
        have hl := HM.out.bytes.cell (p + k)
        rw [u8s_getD _ (p + k) (by rw [putB_length]; omega)] at hl
        go_wp2
        go_region
        go_wp2
        go_roundw
        case rel => exact ⟨k + 1, by omega, by go_num, by (first | rw [byte_of'] | rw [byte_of2]); exact (HM.out.set_ hmd (p + k) (UInt8.ofNat (v / 256 ^ k))).drew, (hL.setCell (Or.inl (by simp)) _).drew⟩
        case measure => simp [intOf]; omega
      · have hke : k = 4 := by omega
        subst hke
        go_wp2
        go_ret
        exact ⟨rfl, HM.out, hL⟩
  · go_enter Try.func27, Try.ntmps27
    go_wp2_with fail
    refine (in_any _ _ _ _ _ 8 HE.out hB (by omega)).mono ?_
    rintro e w' ⟨rfl, rfl⟩
    rw [hH.out]
    go_wp2
    go_loopw [9] (fun i wr => ∃ k : Nat, k ≤ 8 ∧ i = .int .i64 k ∧ MemAt 52 wr m d (putB B p v k) ∧ Left [d] w wr) (fun i _ => 8 - (intOf i).toNat)
    case atStart => exact ⟨0, by omega, rfl, HE.out, Left.refl _ _⟩
    case round =>
      obtain ⟨k, hk, rfl, hM, hL⟩ := hrel
      have hc := hM.head.cell 0
      simp only [List.getElem?_cons_zero, putB_length] at hc
      have HM := Lib.hid hM
      clear hM
      by_cases hlt : k < 8
      · have hf := HM.out.bytes.free (p + k)
        have hl := HM.out.bytes.cell (p + k)
        rw [u8s_getD _ (p + k) (by rw [putB_length]; omega)] at hl
        go_wp2
        go_region
        go_wp2
        go_roundw
        case rel => exact ⟨k + 1, by omega, by go_num, by (first | rw [byte_of'] | rw [byte_of2]); exact (HM.out.set_ hmd (p + k) (UInt8.ofNat (v / 256 ^ k))).drew, (hL.setCell (Or.inl (by simp)) _).drew⟩
        case measure => simp [intOf]; omega
      · have hke : k = 8 := by omega
        subst hke
        go_wp2
        go_ret
        exact ⟨rfl, HM.out, hL⟩

theorem rPut_any (w : World) (m d : Nat) (B : List UInt8) (p n : Int) (v : Nat) (h : MemAt 52 w m d B) (hB : B.length ≤ 65536) :
    Calls Try.prog 27 #[.pointer (some ⟨m, 0, none⟩), .int .i64 p, .int .i64 n, .int .u64 v] w fun e w' => e = .returned (.int .i64 (askE B.length p n)) ∧ MemAt 52 w' m d (putV B p n v) ∧ Left [d] w w' := by
  by_cases hz : askE B.length p n = 0
  · obtain ⟨hw, h0, h1⟩ := askE_zero hz
    obtain ⟨P, rfl⟩ := Int.eq_ofNat_of_zero_le h0
    refine (rPut_ok w m d B P n v h hB hw (by omega)).mono fun e w' ⟨he, hm, hl⟩ => ⟨?_, ?_, hl⟩
    · rw [he, hz]
    · rw [putV, if_pos hz]
      exact hm
  · refine (rPut_no w m d B p n v h hB hz).mono fun e w' ⟨he, hw'⟩ => ⟨he, ?_, ?_⟩
    · rw [putV, if_neg hz, ← hw']
      exact h
    · rw [← hw']
      exact Left.refl _ _

/-- The program's Put, all in one. -/
theorem Put_any (w : World) (m d : Nat) (B : List UInt8) (p n : Int) (v : Nat) (h : MemAt 114 w m d B) (hB : B.length ≤ 65536) :
    Calls Try.prog 23 #[.pointer (some ⟨m, 0, none⟩), .int .i64 p, .int .i64 n, .int .u64 v] w fun e w' => e = .returned (.int .i64 (askE B.length p n)) ∧ MemAt 114 w' m d (putV B p n v) ∧ Left [d] w w' := by
  by_cases hz : askE B.length p n = 0
  · obtain ⟨hw, h0, h1⟩ := askE_zero hz
    obtain ⟨P, rfl⟩ := Int.eq_ofNat_of_zero_le h0
    obtain ⟨K, rfl⟩ := Int.eq_ofNat_of_zero_le (show 0 ≤ n by rcases isW_cases hw with h | h | h | h <;> omega)
    refine (Put_ok w m d B P K v h hB hw (by omega)).mono fun e w' ⟨he, hm, hl⟩ => ⟨?_, ?_, hl⟩
    · rw [he, hz]
    · rw [putV, if_pos hz]
      exact hm
  · refine (Put_no w m d B p n v h hB hz).mono fun e w' ⟨he, hw'⟩ => ⟨he, ?_, ?_⟩
    · rw [putV, if_neg hz, ← hw']
      exact h
    · rw [← hw']
      exact Left.refl _ _

set_option maxHeartbeats 400000 in
theorem rRead_ok (w : World) (m d : Nat) (B : List UInt8) (p n : Nat) (h : MemAt 52 w m d B) (hB : B.length ≤ 65536) (hp : p + n ≤ B.length) :
    Calls Try.prog 28 #[.pointer (some ⟨m, 0, none⟩), .int .i64 p, .int .i64 n] w fun e w' => ∃ v', e = .returned (.tuple #[v', .int .i64 0]) ∧ w'.ownsRow w.heap.size 5 1 v' n (u8s ((B.drop p).take n)) ∧ Below w.heap.size w w' := by
  have hh := Lib.hid (hasB_ok (len := B.length) (p := p) (n := n) (by omega) (by omega))
  have hc := h.head.cell 0
  simp only [List.getElem?_cons_zero] at hc
  have HE := Lib.hid h
  have hlen : ((B.drop p).take n).length = n := by simp; omega
  clear h
  go_enter Try.func28, Try.ntmps28
  go_wp2_with fail
  refine (in_any _ _ _ _ _ _ HE.out hB (by omega)).mono ?_
  rintro e w' ⟨rfl, rfl⟩
  rw [hh.out]
  by_cases hpe : B.length = p
  · have hn0 : n = 0 := by omega
    subst hn0
    have hpe' : p = B.length := hpe.symm
    subst hpe'
    clear hpe hlen
    go_wp2_with fail
    refine (CopyBytes_any _ _ [] _ (Rd.of_end rfl (by unfold maxLen; omega)) (Nat.le_refl _) (by simp)).mono ?_
    rintro e w1 ⟨v', rfl, hown, hb⟩
    go_wp2
    go_ret2
    exact ⟨v', rfl, by simpa [u8s] using hown, hb⟩
  · have HLen := Lib.hid hlen
    clear hlen
    go_wp2_with fail
    have HW := Rd.of_cut (n := n) (p := p) HE.out.bytes (by rw [u8s_length]; unfold maxLen; omega) (by rw [u8s_length]; omega) rfl
    rw [u8s_length] at HW
    have hL2 : ((u8s B).drop p).take n = u8s ((B.drop p).take n) := by simp [u8s, List.map_drop, List.map_take]
    rw [hL2] at HW
    refine (CopyBytes_n _ _ n ((B.drop p).take n) _ HLen.out HW (Nat.le_refl _) (by omega)).mono ?_
    rintro e w1 ⟨v', rfl, hown, hb⟩
    clear HW hL2
    go_wp2
    go_ret2
    exact ⟨v', rfl, hown, hb⟩

set_option maxHeartbeats 400000 in
theorem rRead_no (w : World) (m d : Nat) (B : List UInt8) (p n : Int) (h : MemAt 52 w m d B) (hB : B.length ≤ 65536) (hz : readE B.length p n ≠ 0) :
    Calls Try.prog 28 #[.pointer (some ⟨m, 0, none⟩), .int .i64 p, .int .i64 n] w fun e w' => e = .returned (.tuple #[.slice none 0 0, .int .i64 (readE B.length p n)]) ∧ w = w' := by
  by_cases h0 : n < 0
  · have HR : Hid (readE B.length p n = 1) := by unfold readE; rw [if_pos h0]; exact Lib.hid rfl
    clear h hz
    go_enter Try.func28, Try.ntmps28
    go_wp2
    go_ret2
    exact ⟨by rw [HR.out]; rfl, rfl⟩
  · have h0 : 0 ≤ n := by omega
    have hf0 : hasB B.length p n = false := by
      cases hh : hasB B.length p n
      · rfl
      · exact absurd (by unfold readE; rw [if_neg (by omega), if_pos hh]) hz
    have HR : Hid (readE B.length p n = 2) := by unfold readE; rw [if_neg (by omega), hf0]; exact Lib.hid rfl
    have hf := Lib.hid hf0
    have HE := Lib.hid h
    clear h hz hf0
    go_enter Try.func28, Try.ntmps28
    go_wp2_with fail
    refine (in_any _ _ _ _ _ _ HE.out hB (by omega)).mono ?_
    rintro e w' ⟨rfl, rfl⟩
    rw [hf.out]
    go_wp2
    go_ret2
    exact ⟨by rw [HR.out]; rfl, rfl⟩

theorem rRead_any (w : World) (m d : Nat) (B : List UInt8) (p n : Int) (h : MemAt 52 w m d B) (hB : B.length ≤ 65536) :
    Calls Try.prog 28 #[.pointer (some ⟨m, 0, none⟩), .int .i64 p, .int .i64 n] w fun e w' => ∃ v', e = .returned (.tuple #[v', .int .i64 (readE B.length p n)]) ∧ w'.ownsRow w.heap.size 5 1 v' (readB B p n).length (u8s (readB B p n)) ∧ Below w.heap.size w w' := by
  by_cases hz : readE B.length p n = 0
  · obtain ⟨h0, h1, h2⟩ := readE_zero hz
    obtain ⟨K, rfl⟩ := Int.eq_ofNat_of_zero_le h0
    obtain ⟨Q, rfl⟩ := Int.eq_ofNat_of_zero_le h1
    have hr : readB B Q K = (B.drop Q).take K := by unfold readB; rw [if_pos hz]; rfl
    have hl : ((B.drop Q).take K).length = K := by simp; omega
    refine (rRead_ok w m d B Q K h hB (by omega)).mono fun e w' ⟨v', he, ho, hb⟩ => ⟨v', ?_, ?_, hb⟩
    · rw [he, hz]
    · rw [hr, hl]
      exact ho
  · have hr : readB B p n = [] := by unfold readB; rw [if_neg hz]
    refine (rRead_no w m d B p n h hB hz).mono fun e w' ⟨he, hw⟩ => ⟨_, he, ?_, ?_⟩
    · rw [hr]
      exact World.ownsRow_nil _ _ _ _
    · subst hw
      exact Below.refl _ _

set_option maxHeartbeats 400000 in
theorem rWrite_no (w : World) (m d : Nat) (B : List UInt8) (p : Int) (ao : Option Addr) (cap : Nat) (n : Nat) (h : MemAt 52 w m d B) (hB : B.length ≤ 65536) (hh : hasB B.length p n = false) :
    Calls Try.prog 33 #[.pointer (some ⟨m, 0, none⟩), .int .i64 p, .slice ao n cap] w fun e w' => e = .returned (.int .i64 2) ∧ w = w' := by
  have hf := Lib.hid hh
  have HE := Lib.hid h
  clear h hh
  go_enter Try.func33, Try.ntmps33
  go_wp2_with fail
  refine (in_any _ _ _ _ _ _ HE.out hB (by omega)).mono ?_
  rintro e w' ⟨rfl, rfl⟩
  rw [hf.out]
  go_wp2
  go_ret
  exact ⟨rfl, rfl⟩

set_option maxRecDepth 100000 in
set_option maxHeartbeats 400000 in
theorem rWrite_ok (w : World) (m d : Nat) (B : List UInt8) (p : Nat) (v : Value) (L : List UInt8) (h : MemAt 52 w m d B) (hB : B.length ≤ 65536) (hp : p + L.length ≤ B.length) (hr : Rd w w.heap.size 1 v L.length (u8s L)) :
    Calls Try.prog 33 #[.pointer (some ⟨m, 0, none⟩), .int .i64 p, v] w fun e w' => e = .returned (.int .i64 0) ∧ MemAt 52 w' m d (B.take p ++ L ++ B.drop (p + L.length)) ∧ Left [d] w w' := by
  obtain ⟨ao, cap, rfl, hcap, hm⟩ := hr.form
  have hm' : cap ≤ 9223372036854775807 := by unfold maxLen at hm; omega
  clear hm
  have hh := Lib.hid (hasB_ok (len := B.length) (p := p) (n := L.length) (by omega) (by omega))
  have hmd := h.ne (by decide)
  have hc := h.head.cell 0
  simp only [List.getElem?_cons_zero] at hc
  have HE := Lib.hid h
  have HR := Lib.hid hr
  clear h hr
  go_enter Try.func33, Try.ntmps33
  go_wp2_with fail
  refine (in_any _ _ _ _ _ _ HE.out hB (by omega)).mono ?_
  rintro e w' ⟨rfl, rfl⟩
  rw [hh.out]
  have HW : ∀ w', Whole w' d 5 ((u8s B).take p ++ (u8s L ++ (u8s B).drop (p + L.length))) → Left [d] w w' → MemAt 52 w' m d (B.take p ++ L ++ B.drop (p + L.length)) := by
    intro w' h1 h2
    refine ⟨?_, by simpa [u8s, List.map_take, List.map_drop] using h1⟩
    have := HE.out.head.left h2 (by simpa using hmd)
    rw [show (B.take p ++ L ++ B.drop (p + L.length)).length = B.length by simp; omega]
    exact this
  have HW' := Lib.hid HW
  clear HW
  by_cases hpe : B.length = p
  · have hn0 : L.length = 0 := by omega
    have hpe' : p = B.length := hpe.symm
    subst hpe'
    have HN := Lib.hid hn0
    clear hpe hn0
    go_wp2_with (with_reducible refine wpList_copy (o := ⟨some 20, _, _, _, _, _⟩) rfl (.tmp 18) (.tmp 19) 39 39 rfl 5 Try.underlying39 sz_u8 _ _ _ L.length (.slice ao L.length cap) rfl rfl d B.length (u8s B) 5 HE.out.bytes w.heap.size (u8s L) HR.out ?_ ?_ ?_ (u8s_one L) ?_)
    · have := HN.out; omega
    · have := HN.out; intro h; omega
    · simp; omega
    intro w1 h1 h2
    go_wp2
    go_ret
    exact ⟨rfl, HW'.out w1 h1 h2, h2⟩
  · have hpl : p < B.length := by omega
    go_wp2_with (with_reducible refine wpList_copy (o := ⟨some 20, _, _, _, _, _⟩) rfl (.tmp 18) (.tmp 19) 39 39 rfl 5 Try.underlying39 sz_u8 _ _ _ L.length (.slice ao L.length cap) rfl rfl d p (u8s B) 5 HE.out.bytes w.heap.size (u8s L) HR.out ?_ ?_ ?_ (u8s_one L) ?_)
    · omega
    · simp; omega
    intro w1 h1 h2
    go_wp2
    go_ret
    exact ⟨rfl, HW'.out w1 h1 h2, h2⟩

theorem rWrite_any (w : World) (m d : Nat) (B : List UInt8) (p : Int) (v : Value) (L : List UInt8) (h : MemAt 52 w m d B) (hB : B.length ≤ 65536) (hr : Rd w w.heap.size 1 v L.length (u8s L)) :
    Calls Try.prog 33 #[.pointer (some ⟨m, 0, none⟩), .int .i64 p, v] w fun e w' => e = .returned (.int .i64 (writeE B.length p L.length)) ∧ MemAt 52 w' m d (writeB B p L) ∧ Left [d] w w' := by
  cases hh : hasB B.length p L.length
  · obtain ⟨ao, cap, rfl, _⟩ := hr.form
    refine (rWrite_no w m d B p ao cap _ h hB hh).mono fun e w' ⟨he, hw⟩ => ⟨?_, ?_, ?_⟩
    · rw [he, writeE, hh]; rfl
    · rw [writeB, hh, ← hw]; exact h
    · rw [← hw]; exact Left.refl _ _
  · have h2 := hasB_iff.1 hh
    obtain ⟨Q, rfl⟩ := Int.eq_ofNat_of_zero_le h2.1
    refine (rWrite_ok w m d B Q v L h hB (by omega) hr).mono fun e w' ⟨he, hm, hl⟩ => ⟨?_, ?_, hl⟩
    · rw [he, writeE, hh]; rfl
    · rw [writeB, hh]; exact hm
end Go.Proofs.Ytfffehbipcikoaa
