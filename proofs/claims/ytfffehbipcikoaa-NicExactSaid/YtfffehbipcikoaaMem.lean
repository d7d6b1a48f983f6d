/- The contracts of package mem. -/

import Derived.Test.YtfffehbipcikoaaKit
import Derived.Test.YtfffehbipcikoaaBytes
namespace Go.Proofs.Ytfffehbipcikoaa
open Go.RowKit

/-- A struct of one slice of bytes (a Mem, the program's or the page's): it lies in block m, its bytes in block d. -/
structure MemAt (T : TypeId) (w : World) (m d : Nat) (B : List UInt8) : Prop where
  head : Whole w m T [.slice (some ⟨d, 0, none⟩) B.length B.length]
  bytes : Whole w d 5 (u8s B)

theorem MemAt.set_ {T : TypeId} {w : World} {m d : Nat} {B : List UInt8} (h : MemAt T w m d B) (hmd : m ≠ d) (i : Nat) (b : UInt8) : MemAt T (w.setCell ⟨d, i, none⟩ (.int .u8 b.toNat)) m d (B.set i b) :=
  ⟨by rw [List.length_set]; exact h.head.other hmd _, by rw [← u8s_set]; exact h.bytes.put i _⟩
theorem MemAt.drew {T : TypeId} {w : World} {m d : Nat} {B : List UInt8} (h : MemAt T w m d B) : MemAt T w.drew m d B := ⟨h.head, h.bytes⟩
theorem MemAt.drewN {T : TypeId} {w : World} {m d : Nat} {B : List UInt8} (h : MemAt T w m d B) (n : Nat) : MemAt T (w.drewN n) m d B := ⟨h.head, h.bytes⟩
theorem MemAt.left {T : TypeId} {w w' : World} {m d : Nat} {B : List UInt8} {S : List Nat} (h : MemAt T w m d B) (hl : Left S w w') (hm : m ∉ S) (hd : d ∉ S) : MemAt T w' m d B := ⟨h.head.left hl hm, h.bytes.left hl hd⟩
theorem MemAt.belowH {T : TypeId} {w w' : World} {m d : Nat} {B : List UInt8} (h : MemAt T w m d B) (hb : Below w.heap.size w w') : MemAt T w' m d B := ⟨h.head.belowH hb, h.bytes.belowH hb⟩
theorem MemAt.ne {T : TypeId} {w : World} {m d : Nat} {B : List UInt8} (h : MemAt T w m d B) (hT : T ≠ 5) : m ≠ d := h.head.ne h.bytes hT

def hasB (len : Nat) (at_ n : Int) : Bool := decide (0 ≤ at_) && decide (at_ + n ≤ len)
def isW (n : Int) : Bool := n == 1 || n == 2 || n == 4 || n == 8
def askE (len : Nat) (at_ n : Int) : Int := if isW n then (if hasB len at_ n then 0 else 2) else 1

set_option maxHeartbeats 400000 in
theorem has_any (w : World) (m d : Nat) (B : List UInt8) (at_ n : Int) (h : MemAt 114 w m d B) (hB : B.length ≤ 65536) (hn : 0 ≤ n) (hn2 : n ≤ 9223372036854775807) :
    Calls Try.prog 63 #[.pointer (some ⟨m, 0, none⟩), .int .i64 at_, .int .i64 n] w fun e w' => e = .returned (.bool (hasB B.length at_ n)) ∧ w = w' := by
  have hc := h.head.cell 0
  simp only [List.getElem?_cons_zero] at hc
  clear h
  by_cases h1 : 0 ≤ at_
  · by_cases h2 : n ≤ B.length
    · by_cases h3 : at_ ≤ B.length - n
      · go_enter Try.func63, Try.ntmps63
        go_wp2
        go_ret
        exact ⟨by simp [hasB]; omega, rfl⟩
      · have h3 : (B.length : Int) - n < at_ := by omega
        go_enter Try.func63, Try.ntmps63
        go_wp2
        go_ret
        exact ⟨by simp [hasB]; omega, rfl⟩
    · have h2 : (B.length : Int) < n := by omega
      go_enter Try.func63, Try.ntmps63
      go_wp2
      go_ret
      exact ⟨by simp [hasB]; omega, rfl⟩
  · have h1 : at_ < 0 := by omega
    go_enter Try.func63, Try.ntmps63
    go_wp2
    go_ret
    exact ⟨by simp [hasB]; omega, rfl⟩

theorem isW_cases {n : Int} (h : isW n = true) : n = 1 ∨ n = 2 ∨ n = 4 ∨ n = 8 := by simp [isW] at h; omega
theorem isW_not {n : Int} (h : isW n = false) : n ≠ 1 ∧ n ≠ 2 ∧ n ≠ 4 ∧ n ≠ 8 := by simp [isW] at h; omega

set_option maxHeartbeats 400000 in
theorem ask_any (w : World) (m d : Nat) (B : List UInt8) (at_ n : Int) (h : MemAt 114 w m d B) (hB : B.length ≤ 65536) :
    Calls Try.prog 65 #[.pointer (some ⟨m, 0, none⟩), .int .i64 at_, .int .i64 n] w fun e w' => e = .returned (.int .i64 (askE B.length at_ n)) ∧ w = w' := by
  by_cases hw : isW n = true
  · rcases isW_cases hw with rfl | rfl | rfl | rfl
    · have HE := Lib.hid h
      clear h
      go_enter Try.func65, Try.ntmps65
      go_wp2
      go_step3
      go_wp2_with fail
      refine (has_any _ _ _ _ _ 1 HE.out hB (by omega) (by omega)).mono ?_
      rintro e w' ⟨rfl, rfl⟩
      cases hh : hasB B.length at_ 1
      · go_wp2
        rw [Exit.noGoto_ret]
        go_ret
        exact ⟨by simp [askE, isW, hh], rfl⟩
      · go_wp2
        rw [Exit.noGoto_ret]
        go_ret
        exact ⟨by simp [askE, isW, hh], rfl⟩
    · have HE := Lib.hid h
      clear h
      go_enter Try.func65, Try.ntmps65
      go_wp2
      go_step3
      go_wp2_with fail
      refine (has_any _ _ _ _ _ 2 HE.out hB (by omega) (by omega)).mono ?_
      rintro e w' ⟨rfl, rfl⟩
      cases hh : hasB B.length at_ 2
      · go_wp2
        rw [Exit.noGoto_ret]
        go_ret
        exact ⟨by simp [askE, isW, hh], rfl⟩
      · go_wp2
        rw [Exit.noGoto_ret]
        go_ret
        exact ⟨by simp [askE, isW, hh], rfl⟩
    · have HE := Lib.hid h
      clear h
      go_enter Try.func65, Try.ntmps65
      go_wp2
      go_step3
      go_wp2_with fail
      refine (has_any _ _ _ _ _ 4 HE.out hB (by omega) (by omega)).mono ?_
      rintro e w' ⟨rfl, rfl⟩
      cases hh : hasB B.length at_ 4
      · go_wp2
        rw [Exit.noGoto_ret]
        go_ret
        exact ⟨by simp [askE, isW, hh], rfl⟩
      · go_wp2
        rw [Exit.noGoto_ret]
        go_ret
        exact ⟨by simp [askE, isW, hh], rfl⟩
    · have HE := Lib.hid h
      clear h
      go_enter Try.func65, Try.ntmps65
      go_wp2
      go_step3
      go_wp2_with fail
      refine (has_any _ _ _ _ _ 8 HE.out hB (by omega) (by omega)).mono ?_
      rintro e w' ⟨rfl, rfl⟩
      cases hh : hasB B.length at_ 8
      · go_wp2
        rw [Exit.noGoto_ret]
        go_ret
        exact ⟨by simp [askE, isW, hh], rfl⟩
      · go_wp2
        rw [Exit.noGoto_ret]
        go_ret
        exact ⟨by simp [askE, isW, hh], rfl⟩
  · obtain ⟨a1, a2, a3, a4⟩ := isW_not (eq_false_of_ne_true hw)
    have c1 : (n != 1) = true := by simpa using a1
    have c2 : (n != 2) = true := by simpa using a2
    have c3 : (n != 4) = true := by simpa using a3
    have c4 : (n != 8) = true := by simpa using a4
    clear a1 a2 a3 a4
    have HE := Lib.hid h
    have HW := Lib.hid hw
    clear h hw
    go_enter Try.func65, Try.ntmps65
    go_wp2
    refine wp_scope_jumps 0 (fun a' w' => w = w' ∧ ∃ u0 u1 u2 u3 u4 u5 u6 u7 u8 u9 u10 u11 u12 u13 u14 u15 u16 u17 u18 u19 u20 u21 u22 u23 u24 u25 : Value, a' = { tmps := #[u0, u1, u2, u3, u4, u5, u6, u7, u8, u9, u10, u11, u12, u13, u14, u15, u16, u17, u18, u19, u20, u21, u22, u23, u24, u25], defers := [] }) (fun _ _ => 0) rfl ?_ ?_
    · go_wp2
      go_step3
      exact ⟨rfl, rfl, _, _, _, _, _, _, _, _, _, _, _, _, _, _, _, _, _, _, _, _, _, _, _, _, _, _, rfl⟩
    · rintro a' w' ⟨rfl, u0, u1, u2, u3, u4, u5, u6, u7, u8, u9, u10, u11, u12, u13, u14, u15, u16, u17, u18, u19, u20, u21, u22, u23, u24, u25, rfl⟩
      go_wp2
      simp only [Exit.jump]
      go_ret
      have hw := HW.out
      exact ⟨by simp [askE, hw], rfl⟩

theorem hasB_ok {len : Nat} {p n : Int} (h0 : 0 ≤ p) (h1 : p + n ≤ len) : hasB len p n = true := by simp [hasB, h0, h1]
theorem hasB_neg1 {len : Nat} {p n : Int} (h0 : p < 0) : hasB len p n = false := by simp [hasB]; omega
theorem hasB_neg2 {len : Nat} {p n : Int} (h0 : (len : Int) < p + n) : hasB len p n = false := by simp [hasB]; omega
theorem hasB_iff {len : Nat} {p n : Int} : hasB len p n = true ↔ 0 ≤ p ∧ p + n ≤ len := by simp [hasB]
theorem askE_ok {len : Nat} {p n : Int} (hw : isW n = true) (h0 : 0 ≤ p) (h1 : p + n ≤ len) : askE len p n = 0 := by simp [askE, hw, hasB_ok h0 h1]
theorem askE_zero {len : Nat} {p n : Int} (h : askE len p n = 0) : isW n = true ∧ 0 ≤ p ∧ p + n ≤ len := by
  unfold askE at h
  cases hw : isW n
  · simp [hw] at h
  · cases hh : hasB len p n
    · simp [hw, hh] at h
    · exact ⟨rfl, hasB_iff.1 hh⟩

def getV (B : List UInt8) (at_ n : Int) : Int := if askE B.length at_ n = 0 then (le ((B.drop at_.toNat).take n.toNat) : Int) else 0

set_option maxHeartbeats 400000 in
theorem Get_ok (w : World) (m d : Nat) (B : List UInt8) (p n : Nat) (h : MemAt 114 w m d B) (hB : B.length ≤ 65536) (hw : isW n = true) (hp : p + n ≤ B.length) :
    Calls Try.prog 24 #[.pointer (some ⟨m, 0, none⟩), .int .i64 p, .int .i64 n] w fun e w' => e = .returned (.tuple #[.int .u64 (le ((B.drop p).take n) : Nat), .int .i64 0]) ∧ w = w' := by
  have HA : Hid (askE B.length p n = 0) := Lib.hid (askE_ok hw (by omega) (by omega))
  have hn8 : n ≤ 8 := by rcases isW_cases hw with h | h | h | h <;> omega
  have hc := h.head.cell 0
  simp only [List.getElem?_cons_zero] at hc
  have HE := Lib.hid h
  clear h hw
  go_enter Try.func24, Try.ntmps24
  go_wp2_with fail
  refine (ask_any _ _ _ _ _ _ HE.out hB).mono ?_
  rintro e w' ⟨rfl, rfl⟩
  rw [HA.out]
  go_wp2
  go_loop [6, 18] (fun v i => ∃ k : Nat, k ≤ n ∧ i = .int .i64 k ∧ v = .int .u64 (le ((B.drop p).take k) : Nat)) (fun _ i => n - (intOf i).toNat)
  case atStart => exact ⟨0, by omega, rfl, by simp [le]⟩
  case round =>
    obtain ⟨k, hk, rfl, rfl⟩ := hrel
    by_cases hlt : k < n
    · have hx := HE.out.bytes.cell (p + k)
      rw [u8s_getD B (p + k) (by omega)] at hx
      obtain ⟨b, hb⟩ : ∃ b, b = B.getD (p + k) 0 := ⟨_, rfl⟩
      rw [← hb] at hx
      have HB := Lib.hid hb
      clear hb
      have h8 := or_step (le ((B.drop p).take k)) b k (by omega) (le_take_lt _ _)
      have hs0 : le ((B.drop p).take k) + 256 ^ k * b.toNat = le ((B.drop p).take (k + 1)) := by
        rw [le_take_succ _ _ (by simp; omega), HB.out]
        simp [List.getD_eq_getElem?_getD, List.getElem?_drop]
      have hs := Lib.hid hs0
      clear hs0
      have H8 := Lib.hid h8
      clear h8
      go_wp2
      go_round
      case rel => exact ⟨k + 1, by omega, by go_num, by rw [H8.out, hs.out]⟩
      case measure => simp [intOf]; omega
    · have : k = n := by omega
      subst this
      go_wp2
      go_ret2
      exact ⟨rfl, rfl⟩

set_option maxHeartbeats 400000 in
theorem Get_no (w : World) (m d : Nat) (B : List UInt8) (p n : Int) (h : MemAt 114 w m d B) (hB : B.length ≤ 65536) (hn : askE B.length p n ≠ 0) :
    Calls Try.prog 24 #[.pointer (some ⟨m, 0, none⟩), .int .i64 p, .int .i64 n] w fun e w' => e = .returned (.tuple #[.int .u64 0, .int .i64 (askE B.length p n)]) ∧ w = w' := by
  obtain ⟨E, hE⟩ : ∃ E, E = askE B.length p n := ⟨_, rfl⟩
  rw [← hE] at hn ⊢
  have HE := Lib.hid hE
  have HM := Lib.hid h
  clear hE h
  have hz : (E != 0) = true := by simpa using hn
  clear hn
  go_enter Try.func24, Try.ntmps24
  go_wp2_with fail
  refine (ask_any _ _ _ _ _ _ HM.out hB).mono ?_
  rintro e w' ⟨rfl, rfl⟩
  rw [← HE.out]
  go_wp2
  go_ret2
  exact ⟨rfl, rfl⟩

theorem Get_any (w : World) (m d : Nat) (B : List UInt8) (p n : Int) (h : MemAt 114 w m d B) (hB : B.length ≤ 65536) :
    Calls Try.prog 24 #[.pointer (some ⟨m, 0, none⟩), .int .i64 p, .int .i64 n] w fun e w' => e = .returned (.tuple #[.int .u64 (getV B p n), .int .i64 (askE B.length p n)]) ∧ w = w' := by
  by_cases hz : askE B.length p n = 0
  · obtain ⟨hw, h0, h1⟩ := askE_zero hz
    obtain ⟨P, rfl⟩ := Int.eq_ofNat_of_zero_le h0
    obtain ⟨K, rfl⟩ := Int.eq_ofNat_of_zero_le (show 0 ≤ n by rcases isW_cases hw with h | h | h | h <;> omega)
    refine (Get_ok w m d B P K h hB hw (by omega)).mono fun e w' ⟨he, hw'⟩ => ⟨?_, hw'⟩
    rw [he, getV, if_pos hz, hz]
    rfl
  · refine (Get_no w m d B p n h hB hz).mono fun e w' ⟨he, hw'⟩ => ⟨?_, hw'⟩
    rw [he, getV, if_neg hz]

/-- What memory holds behind a Put. -/
def putV (B : List UInt8) (p n : Int) (v : Nat) : List UInt8 := if askE B.length p n = 0 then putB B p.toNat v n.toNat else B
theorem putV_length (B : List UInt8) (p n : Int) (v : Nat) : (putV B p n v).length = B.length := by
  unfold putV
  split
  · exact putB_length _ _ _ _
  · rfl

set_option maxHeartbeats 400000 in
theorem Put_no (w : World) (m d : Nat) (B : List UInt8) (p n : Int) (v : Nat) (h : MemAt 114 w m d B) (hB : B.length ≤ 65536) (hn : askE B.length p n ≠ 0) :
    Calls Try.prog 23 #[.pointer (some ⟨m, 0, none⟩), .int .i64 p, .int .i64 n, .int .u64 v] w fun e w' => e = .returned (.int .i64 (askE B.length p n)) ∧ w = w' := by
  obtain ⟨E, hE⟩ : ∃ E, E = askE B.length p n := ⟨_, rfl⟩
  rw [← hE] at hn ⊢
  have HE := Lib.hid hE
  have HM := Lib.hid h
  clear hE h
  have hz : (E != 0) = true := by simpa using hn
  clear hn
  go_enter Try.func23, Try.ntmps23
  go_wp2_with fail
  refine (ask_any _ _ _ _ _ _ HM.out hB).mono ?_
  rintro e w' ⟨rfl, rfl⟩
  rw [← HE.out]
  go_wp2
  go_ret
  exact ⟨rfl, rfl⟩

set_option maxHeartbeats 400000 in
theorem Put_ok (w : World) (m d : Nat) (B : List UInt8) (p n : Nat) (v : Nat) (h : MemAt 114 w m d B) (hB : B.length ≤ 65536) (hw : isW n = true) (hp : p + n ≤ B.length) :
    Calls Try.prog 23 #[.pointer (some ⟨m, 0, none⟩), .int .i64 p, .int .i64 n, .int .u64 v] w fun e w' => e = .returned (.int .i64 0) ∧ MemAt 114 w' m d (putB B p v n) ∧ Left [d] w w' := by
  have HA : Hid (askE B.length p n = 0) := Lib.hid (askE_ok hw (by omega) (by omega))
  have hn8 : n ≤ 8 := by rcases isW_cases hw with h | h | h | h <;> omega
  have hmd := h.ne (by decide)
  have HE := Lib.hid h
  clear h hw
  go_enter Try.func23, Try.ntmps23
  go_wp2_with fail
  refine (ask_any _ _ _ _ _ _ HE.out hB).mono ?_
  rintro e w' ⟨rfl, rfl⟩
  rw [HA.out]
  go_wp2
  go_loopw [19] (fun i wr => ∃ k : Nat, k ≤ n ∧ i = .int .i64 k ∧ MemAt 114 wr m d (putB B p v k) ∧ Left [d] w wr) (fun i _ => n - (intOf i).toNat)
  case atStart => exact ⟨0, by omega, rfl, HE.out, Left.refl _ _⟩
  case round =>
    obtain ⟨k, hk, rfl, hM, hL⟩ := hrel
    have hc := hM.head.cell 0
    simp only [List.getElem?_cons_zero, putB_length] at hc
    have HM := Lib.hid hM
    clear hM
    by_cases hlt : k < n
    · have hf := HM.out.bytes.free (p + k)
      have hl := HM.out.bytes.cell (p + k)
      rw [u8s_getD _ (p + k) (by rw [putB_length]; omega)] at hl
      go_wp2
      go_region
      go_wp2
      go_roundw
      case rel => exact ⟨k + 1, by omega, by go_num, by (first | rw [byte_of'] | rw [byte_of2]); exact (HM.out.set_ hmd (p + k) (UInt8.ofNat (v / 256 ^ k))).drew, (hL.setCell (Or.inl (by simp)) _).drew⟩
      case measure => simp [intOf]; omega
    · have : k = n := by omega
      subst this
      go_wp2
      go_ret
      exact ⟨rfl, HM.out, hL⟩

theorem get_put (B : List UInt8) (p n v : Nat) (hW : isW n = true) (hp : p + n ≤ B.length) : getV (putV B p n v) p n = ((v % 256 ^ n : Nat) : Int) := by
  have ha : askE B.length p n = 0 := askE_ok hW (by omega) (by omega)
  have ha2 : askE (putV B p n v).length p n = 0 := by rw [putV_length]; exact ha
  rw [getV, if_pos ha2, putV, if_pos ha]
  have h1 : ((p : Int)).toNat = p := rfl
  have h2 : ((n : Int)).toNat = n := rfl
  rw [h1, h2, putB_cut B p v n hp, le_digits]
/-- The tests of MemBack. -/
theorem back1 (B : List UInt8) (p v : Nat) (hp : p + 1 ≤ B.length) (hv : v < 18446744073709551616) : (getV (putV B p 1 v) p 1 != bits BinOp.and IntKind.u64 (v : Int) 255) = false := by
  rw [show getV (putV B p 1 v) p 1 = _ from get_put B p 1 v rfl hp, show bits BinOp.and IntKind.u64 (v : Int) 255 = _ from and_mask v 8 hv (by omega)]
  simp
theorem back2 (B : List UInt8) (p v : Nat) (hp : p + 2 ≤ B.length) (hv : v < 18446744073709551616) : (getV (putV B p 2 v) p 2 != bits BinOp.and IntKind.u64 (v : Int) 65535) = false := by
  rw [show getV (putV B p 2 v) p 2 = _ from get_put B p 2 v rfl hp, show bits BinOp.and IntKind.u64 (v : Int) 65535 = _ from and_mask v 16 hv (by omega)]
  simp
theorem back4 (B : List UInt8) (p v : Nat) (hp : p + 4 ≤ B.length) (hv : v < 18446744073709551616) : (getV (putV B p 4 v) p 4 != bits BinOp.and IntKind.u64 (v : Int) 4294967295) = false := by
  rw [show getV (putV B p 4 v) p 4 = _ from get_put B p 4 v rfl hp, show bits BinOp.and IntKind.u64 (v : Int) 4294967295 = _ from and_mask v 32 hv (by omega)]
  simp
theorem wrap_all : IntKind.u64.wrap (IntKind.u64.wrap 18446744073709551616 - 1) = ((2 ^ 64 - 1 : Nat) : Int) := by decide
theorem back8 (B : List UInt8) (p v : Nat) (hp : p + 8 ≤ B.length) (hv : v < 18446744073709551616) : (getV (putV B p 8 v) p 8 != bits BinOp.and IntKind.u64 (v : Int) (IntKind.u64.wrap (IntKind.u64.wrap 18446744073709551616 - 1))) = false := by
  rw [wrap_all, show getV (putV B p 8 v) p 8 = _ from get_put B p 8 v rfl hp, and_mask v 64 hv (by omega)]
  simp
/-- A byte of it. -/
theorem put_in (B : List UInt8) (p n v i : Nat) (hW : isW n = true) (hp : p + n ≤ B.length) (h1 : p ≤ i) (h2 : i < p + n) : (putV B p n v).getD i 0 = UInt8.ofNat (v / 256 ^ (i - p)) := by
  have ha : askE B.length p n = 0 := askE_ok hW (by omega) (by omega)
  rw [putV, if_pos ha, List.getD_eq_getElem?_getD]
  rw [show ((p : Int)).toNat = p from rfl, show ((n : Int)).toNat = n from rfl, putB_at B p v n i hp, if_pos ⟨h1, h2⟩]
  rfl
theorem put_out (B : List UInt8) (p n v i : Nat) (hW : isW n = true) (hp : p + n ≤ B.length) (h : ¬ (p ≤ i ∧ i < p + n)) : (putV B p n v).getD i 0 = B.getD i 0 := by
  have ha : askE B.length p n = 0 := askE_ok hW (by omega) (by omega)
  rw [putV, if_pos ha, List.getD_eq_getElem?_getD, List.getD_eq_getElem?_getD]
  rw [show ((p : Int)).toNat = p from rfl, show ((n : Int)).toNat = n from rfl, putB_at B p v n i hp, if_neg h]
end Go.Proofs.Ytfffehbipcikoaa
