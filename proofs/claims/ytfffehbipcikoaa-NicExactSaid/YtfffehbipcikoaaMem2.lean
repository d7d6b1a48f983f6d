/- The contracts of mem.New, slices.Clone at bytes, Read, Write, Len. -/

import Derived.Test.YtfffehbipcikoaaMem
import Derived.Test.YtfffehbipcikoaaSli
namespace Go.Proofs.Ytfffehbipcikoaa
open Go.RowKit

theorem info_u8 : (Try.prog.info? 5).map (fun i => (i.zero, i.size, i.bytes)) = some (some (.int .u8 0), 1, 1) := by kernel_rfl

theorem made_u8 (n : Nat) : (madeCells #[.int .u8 0] n) = (u8s (List.replicate n 0)).toArray := by
  apply Array.toList_inj.1
  rw [toList_madeCells_one]
  simp [u8s]

set_option maxHeartbeats 400000 in
theorem New_no (n : Int) (w : World) (h : n < 0 ∨ 65536 < n) :
    Calls Try.prog 19 #[.int .i64 n] w fun e w' => e = .returned (.tuple #[.pointer none, .int .i64 1]) ∧ w = w' := by
  rcases h with h | h
  · go_enter Try.func19, Try.ntmps19
    go_wp2
    go_ret2
    exact ⟨rfl, rfl⟩
  · have h1 : 0 ≤ n := by omega
    go_enter Try.func19, Try.ntmps19
    go_wp2
    go_ret2
    exact ⟨rfl, rfl⟩

set_option maxHeartbeats 400000 in
theorem New_ok (n : Nat) (w : World) (h : n ≤ 65536) :
    Calls Try.prog 19 #[.int .i64 n] w fun e w' => e = .returned (.tuple #[.pointer (some ⟨w.heap.size + 1, 0, none⟩), .int .i64 0]) ∧ MemAt 114 w' (w.heap.size + 1) w.heap.size (List.replicate n 0) ∧ Below w.heap.size w w' := by
  have hmk := run_make_row' (P := Try.prog) 39 5 (.int .u8 0) 1 Try.underlying39 info_u8 rfl .i64 .i64 n (by omega) (by omega)
  rw [made_u8] at hmk
  obtain ⟨L, hL⟩ : ∃ L, L = u8s (List.replicate n 0) := ⟨_, rfl⟩
  rw [← hL] at hmk
  have HL := Lib.hid hL
  clear hL
  go_enter Try.func19, Try.ntmps19
  go_wp2
  go_ret2
  refine ⟨rfl, ⟨?_, ?_⟩, ((Below.refl _ _).alloc (Nat.le_refl _) _).alloc (by simp) _⟩
  · have := Whole.new (w.alloc (.cells L.toArray 5)) 114 [.slice (some ⟨w.heap.size, 0, none⟩) n n]
    simpa using this
  · rw [← HL.out]
    exact (Whole.new w 5 L).alloc _

set_option maxHeartbeats 400000 in
theorem Clone_any (w : World) (v : Value) (n : Nat) (xs : List Value) (h : Rd w w.heap.size 1 v n xs) (h1 : ∀ u ∈ xs, u.oneCell' = true) (hn : n ≤ 1048576) :
    Calls Try.prog 64 #[v] w fun e w' => ∃ v', e = .returned v' ∧ w'.ownsRow w.heap.size 5 1 v' n xs ∧ Below w.heap.size w w' := by
  obtain ⟨ao, cap, rfl, hc, hm⟩ := h.form
  clear hm
  rcases ao with _ | ad
  · obtain ⟨hl, ao', cap', e', h3, _, h5, _⟩ := h
    injection e' with e1 _ e3
    subst e1 e3
    have hc0 := h5 rfl
    subst hc0
    have hn0 : n = 0 := by omega
    subst hn0
    have hx : xs = [] := List.eq_nil_of_length_eq_zero (by omega)
    subst hx
    clear h5 hl hc h1 h3 hn
    have hnil := fun w => Lib.run_eql_slice_nil (P := Try.prog) w 39 5 none 0 0 0 0 Try.underlying39
    go_enter Try.func64, Try.ntmps64
    go_wp2
    go_ret
    exact ⟨_, rfl, World.ownsRow_nil _ _ _ _, Below.refl _ _⟩
  · have hnil := fun w => Lib.run_eql_slice_nil (P := Try.prog) w 39 5 (some ad) n cap 0 0 Try.underlying39
    have H := Lib.hid h
    have H1 := Lib.hid h1
    clear h h1
    go_enter Try.func64, Try.ntmps64
    go_wp2_with (at_builtin; refine wpList_app _ rfl (.tmp 5) (.tmp 6) _ rfl w.heap.size 5 (.int .u8 0) 1 1 Try.underlying39 info_u8 rfl (by omega) (.slice (some ⟨w.heap.size, 0, none⟩) 0 0) 0 [] rfl (World.ownsRow_made w #[] 0 (Nat.le_refl _) (by unfold maxLen; omega) rfl) w.heap.size _ n xs rfl (H.out.below ((Below.refl _ _).alloc (Nat.le_refl _) _)) H1.out ?_ ?_ (by simp) ?_; unfold maxLen; omega; omega; intro v1 w1 hown hg hat; have hb1 := ((Below.refl w.heap.size w).alloc (Nat.le_refl _) (.cells #[] 5)).grown hg (by simp) (by simp [Value.ownBlock]))
    go_ret
    exact ⟨v1, rfl, by simpa using hown, hb1⟩

def readE (len : Nat) (p n : Int) : Int := if n < 0 then 1 else if hasB len p n then 0 else 2
def readB (B : List UInt8) (p n : Int) : List UInt8 := if readE B.length p n = 0 then (B.drop p.toNat).take n.toNat else []

theorem readB_all (B : List UInt8) (n : Nat) (h : B.length = n) : readE B.length 0 n = 0 ∧ readB B 0 n = B := by
  subst h
  have hz : readE B.length 0 B.length = 0 := by unfold readE; rw [if_neg (by omega), hasB_ok (by omega) (by omega)]; rfl
  refine ⟨hz, ?_⟩
  unfold readB
  rw [if_pos hz]
  simp

set_option maxHeartbeats 400000 in
theorem Read_ok (w : World) (m d : Nat) (B : List UInt8) (p n : Nat) (h : MemAt 114 w m d B) (hB : B.length ≤ 65536) (hp : p + n ≤ B.length) :
    Calls Try.prog 22 #[.pointer (some ⟨m, 0, none⟩), .int .i64 p, .int .i64 n] w fun e w' => ∃ v', e = .returned (.tuple #[v', .int .i64 0]) ∧ w'.ownsRow w.heap.size 5 1 v' n (u8s ((B.drop p).take n)) ∧ Below w.heap.size w w' := by
  have hh := Lib.hid (hasB_ok (len := B.length) (p := p) (n := n) (by omega) (by omega))
  have hc := h.head.cell 0
  simp only [List.getElem?_cons_zero] at hc
  have HE := Lib.hid h
  clear h
  go_enter Try.func22, Try.ntmps22
  go_wp2_with fail
  refine (has_any _ _ _ _ _ _ HE.out hB (by omega) (by omega)).mono ?_
  rintro e w' ⟨rfl, rfl⟩
  rw [hh.out]
  by_cases hpe : B.length = p
  · have hn0 : n = 0 := by omega
    subst hn0
    have HP := Lib.hid hpe
    have hpe' : p = B.length := hpe.symm
    subst hpe'
    clear hpe
    go_wp2_with fail
    refine (Clone_any _ _ 0 [] (Rd.of_end rfl (by unfold maxLen; omega)) (by simp) (by omega)).mono ?_
    rintro e w1 ⟨v', rfl, hown, hb⟩
    go_wp2
    go_ret2
    exact ⟨v', rfl, by simpa [u8s] using hown, hb⟩
  · go_wp2_with fail
    have HW := Rd.of_cut (n := n) (p := p) HE.out.bytes (by rw [u8s_length]; unfold maxLen; omega) (by rw [u8s_length]; omega) rfl
    rw [u8s_length] at HW
    refine (Clone_any _ _ n _ HW ?_ (by omega)).mono ?_
    · intro u hu
      exact u8s_one B u (List.mem_of_mem_drop (List.mem_of_mem_take hu))
    rintro e w1 ⟨v', rfl, hown, hb⟩
    go_wp2
    go_ret2
    exact ⟨v', rfl, by simpa [u8s, List.map_drop, List.map_take] using hown, hb⟩

set_option maxHeartbeats 400000 in
theorem Read_no (w : World) (m d : Nat) (B : List UInt8) (p n : Int) (h : MemAt 114 w m d B) (hB : B.length ≤ 65536) (hz : readE B.length p n ≠ 0) (hn2 : n ≤ 9223372036854775807) :
    Calls Try.prog 22 #[.pointer (some ⟨m, 0, none⟩), .int .i64 p, .int .i64 n] w fun e w' => e = .returned (.tuple #[.slice none 0 0, .int .i64 (readE B.length p n)]) ∧ w = w' := by
  by_cases h0 : n < 0
  · have HR : Hid (readE B.length p n = 1) := by unfold readE; rw [if_pos h0]; exact Lib.hid rfl
    clear h hz
    go_enter Try.func22, Try.ntmps22
    go_wp2
    go_ret2
    exact ⟨by rw [HR.out]; rfl, rfl⟩
  · have h0 : 0 ≤ n := by omega
    have hf0 : hasB B.length p n = false := by
      cases hh : hasB B.length p n
      · rfl
      · exact absurd (by unfold readE; rw [if_neg (by omega), if_pos hh]) hz
    have HR : Hid (readE B.length p n = 2) := by unfold readE; rw [if_neg (by omega), hf0]; exact Lib.hid rfl
    have hf := Lib.hid hf0
    have HE := Lib.hid h
    clear h hz hf0
    go_enter Try.func22, Try.ntmps22
    go_wp2_with fail
    refine (has_any _ _ _ _ _ _ HE.out hB (by omega) (by omega)).mono ?_
    rintro e w' ⟨rfl, rfl⟩
    rw [hf.out]
    go_wp2
    go_ret2
    exact ⟨by rw [HR.out]; rfl, rfl⟩

theorem readE_zero {len : Nat} {p n : Int} (h : readE len p n = 0) : 0 ≤ n ∧ 0 ≤ p ∧ p + n ≤ len := by
  unfold readE at h
  split at h
  · cases h
  · split at h
    · rename_i h1 h2
      have := hasB_iff.1 h2
      omega
    · cases h

theorem Read_any (w : World) (m d : Nat) (B : List UInt8) (p n : Int) (h : MemAt 114 w m d B) (hB : B.length ≤ 65536) (hn2 : n ≤ 9223372036854775807) :
    Calls Try.prog 22 #[.pointer (some ⟨m, 0, none⟩), .int .i64 p, .int .i64 n] w fun e w' => ∃ v', e = .returned (.tuple #[v', .int .i64 (readE B.length p n)]) ∧ w'.ownsRow w.heap.size 5 1 v' (readB B p n).length (u8s (readB B p n)) ∧ Below w.heap.size w w' := by
  by_cases hz : readE B.length p n = 0
  · obtain ⟨h0, h1, h2⟩ := readE_zero hz
    obtain ⟨K, rfl⟩ := Int.eq_ofNat_of_zero_le h0
    obtain ⟨Q, rfl⟩ := Int.eq_ofNat_of_zero_le h1
    have hr : readB B Q K = (B.drop Q).take K := by unfold readB; rw [if_pos hz]; rfl
    have hl : ((B.drop Q).take K).length = K := by simp; omega
    refine (Read_ok w m d B Q K h hB (by omega)).mono fun e w' ⟨v', he, ho, hb⟩ => ⟨v', ?_, ?_, hb⟩
    · rw [he, hz]
    · rw [hr, hl]
      exact ho
  · have hr : readB B p n = [] := by unfold readB; rw [if_neg hz]
    refine (Read_no w m d B p n h hB hz hn2).mono fun e w' ⟨he, hw⟩ => ⟨_, he, ?_, ?_⟩
    · rw [hr]
      exact World.ownsRow_nil _ _ _ _
    · subst hw
      exact Below.refl _ _

theorem Len_any (w : World) (m d : Nat) (B : List UInt8) (h : MemAt 114 w m d B) :
    Calls Try.prog 35 #[.pointer (some ⟨m, 0, none⟩)] w fun e w' => e = .returned (.int .i64 B.length) ∧ w = w' := by
  have hc := h.head.cell 0
  simp only [List.getElem?_cons_zero] at hc
  clear h
  go_enter Try.func35, Try.ntmps35
  go_wp2
  go_ret
  exact ⟨rfl, rfl⟩

def writeE (len : Nat) (p : Int) (n : Nat) : Int := if hasB len p n then 0 else 2
/-- What memory holds behind a Write. -/
def writeB (B : List UInt8) (p : Int) (L : List UInt8) : List UInt8 := if hasB B.length p L.length then B.take p.toNat ++ L ++ B.drop (p.toNat + L.length) else B
theorem writeB_length (B : List UInt8) (p : Int) (L : List UInt8) : (writeB B p L).length = B.length := by
  unfold writeB
  split
  · rename_i h
    have := hasB_iff.1 h
    simp
    omega
  · rfl

set_option maxHeartbeats 400000 in
theorem Write_no (w : World) (m d : Nat) (B : List UInt8) (p : Int) (ao : Option Addr) (cap : Nat) (n : Nat) (h : MemAt 114 w m d B) (hB : B.length ≤ 65536) (hh : hasB B.length p n = false) (hn : n ≤ 9223372036854775807) :
    Calls Try.prog 32 #[.pointer (some ⟨m, 0, none⟩), .int .i64 p, .slice ao n cap] w fun e w' => e = .returned (.int .i64 2) ∧ w = w' := by
  have hf := Lib.hid hh
  have HE := Lib.hid h
  clear h hh
  go_enter Try.func32, Try.ntmps32
  go_wp2_with fail
  refine (has_any _ _ _ _ _ _ HE.out hB (by omega) (by omega)).mono ?_
  rintro e w' ⟨rfl, rfl⟩
  rw [hf.out]
  go_wp2
  go_ret
  exact ⟨rfl, rfl⟩

theorem sz_u8 : (Try.prog.info? 5).map (·.size) = some 1 := by kernel_rfl

set_option maxRecDepth 100000 in
set_option maxHeartbeats 400000 in
theorem Write_ok (w : World) (m d : Nat) (B : List UInt8) (p : Nat) (v : Value) (L : List UInt8) (h : MemAt 114 w m d B) (hB : B.length ≤ 65536) (hp : p + L.length ≤ B.length) (hr : Rd w w.heap.size 1 v L.length (u8s L)) :
    Calls Try.prog 32 #[.pointer (some ⟨m, 0, none⟩), .int .i64 p, v] w fun e w' => e = .returned (.int .i64 0) ∧ MemAt 114 w' m d (B.take p ++ L ++ B.drop (p + L.length)) ∧ Left [d] w w' := by
  obtain ⟨ao, cap, rfl, hcap, hm⟩ := hr.form
  have hm' : cap ≤ 9223372036854775807 := by unfold maxLen at hm; omega
  clear hm
  have hh := Lib.hid (hasB_ok (len := B.length) (p := p) (n := L.length) (by omega) (by omega))
  have hmd := h.ne (by decide)
  have hc := h.head.cell 0
  simp only [List.getElem?_cons_zero] at hc
  have HE := Lib.hid h
  have HR := Lib.hid hr
  clear h hr
  go_enter Try.func32, Try.ntmps32
  go_wp2_with fail
  refine (has_any _ _ _ _ _ _ HE.out hB (by omega) (by omega)).mono ?_
  rintro e w' ⟨rfl, rfl⟩
  rw [hh.out]
  have HW : ∀ w', Whole w' d 5 ((u8s B).take p ++ (u8s L ++ (u8s B).drop (p + L.length))) → Left [d] w w' → MemAt 114 w' m d (B.take p ++ L ++ B.drop (p + L.length)) := by
    intro w' h1 h2
    refine ⟨?_, by simpa [u8s, List.map_take, List.map_drop] using h1⟩
    have := HE.out.head.left h2 (by simpa using hmd)
    rw [show (B.take p ++ L ++ B.drop (p + L.length)).length = B.length by simp; omega]
    exact this
  have HW' := Lib.hid HW
  clear HW
  by_cases hpe : B.length = p
  · have hn0 : L.length = 0 := by omega
    have hpe' : p = B.length := hpe.symm
    subst hpe'
    have HN := Lib.hid hn0
    clear hpe hn0
    go_wp2_with (with_reducible refine wpList_copy (o := ⟨some 20, _, _, _, _, _⟩) rfl (.tmp 18) (.tmp 19) 39 39 rfl 5 Try.underlying39 sz_u8 _ _ _ L.length (.slice ao L.length cap) rfl rfl d B.length (u8s B) 5 HE.out.bytes w.heap.size (u8s L) HR.out ?_ ?_ ?_ (u8s_one L) ?_)
    · have := HN.out; omega
    · have := HN.out; intro h; omega
    · simp; omega
    intro w1 h1 h2
    go_wp2
    go_ret
    exact ⟨rfl, HW'.out w1 h1 h2, h2⟩
  · have hpl : p < B.length := by omega
    go_wp2_with (with_reducible refine wpList_copy (o := ⟨some 20, _, _, _, _, _⟩) rfl (.tmp 18) (.tmp 19) 39 39 rfl 5 Try.underlying39 sz_u8 _ _ _ L.length (.slice ao L.length cap) rfl rfl d p (u8s B) 5 HE.out.bytes w.heap.size (u8s L) HR.out ?_ ?_ ?_ (u8s_one L) ?_)
    · omega
    · simp; omega
    intro w1 h1 h2
    go_wp2
    go_ret
    exact ⟨rfl, HW'.out w1 h1 h2, h2⟩

/-- Write, all in one. -/
theorem Write_any (w : World) (m d : Nat) (B : List UInt8) (p : Int) (v : Value) (L : List UInt8) (h : MemAt 114 w m d B) (hB : B.length ≤ 65536) (hr : Rd w w.heap.size 1 v L.length (u8s L)) (hL : L.length ≤ 9223372036854775807) :
    Calls Try.prog 32 #[.pointer (some ⟨m, 0, none⟩), .int .i64 p, v] w fun e w' => e = .returned (.int .i64 (writeE B.length p L.length)) ∧ MemAt 114 w' m d (writeB B p L) ∧ Left [d] w w' := by
  cases hh : hasB B.length p L.length
  · obtain ⟨ao, cap, rfl, _⟩ := hr.form
    refine (Write_no w m d B p ao cap _ h hB hh hL).mono fun e w' ⟨he, hw⟩ => ⟨?_, ?_, ?_⟩
    · rw [he, writeE, hh]; rfl
    · rw [writeB, hh, ← hw]; exact h
    · rw [← hw]; exact Left.refl _ _
  · have h2 := hasB_iff.1 hh
    obtain ⟨Q, rfl⟩ := Int.eq_ofNat_of_zero_le h2.1
    refine (Write_ok w m d B Q v L h hB (by omega) hr).mono fun e w' ⟨he, hm, hl⟩ => ⟨?_, ?_, hl⟩
    · rw [he, writeE, hh]; rfl
    · rw [writeB, hh]; exact hm
end Go.Proofs.Ytfffehbipcikoaa
