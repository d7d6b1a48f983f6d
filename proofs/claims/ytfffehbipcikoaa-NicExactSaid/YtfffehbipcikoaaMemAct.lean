/- The scripts of layer 1: how an argument of type kiosklaw1.Script lies in memory; Heavy; wakes. -/

import Derived.Test.YtfffehbipcikoaaRefMem
import Derived.Test.YtfffehbipcikoaaArgs
namespace Go.Proofs.Ytfffehbipcikoaa
open Go.ChangeShapes Go.WideShapes Go.Deep Go.RowKit

/-- An act: its numbers, its bytes. -/
structure Act1 where
  dk : Int
  at_ : Int
  n : Int
  v : Nat
  b : List UInt8

/-- An act lies in block b from o on. -/
def ActAt (w : World) (Bd b o : Nat) (a : Act1) : Prop :=
  w.cell? ⟨b, o, none⟩ = some (.int .i64 a.dk) ∧ w.cell? ⟨b, o + 1, none⟩ = some (.int .i64 a.at_) ∧ w.cell? ⟨b, o + 2, none⟩ = some (.int .i64 a.n) ∧ w.cell? ⟨b, o + 3, none⟩ = some (.int .u64 a.v) ∧
    ∃ bv, w.cell? ⟨b, o + 4, none⟩ = some bv ∧ Rd w Bd 1 bv a.b.length (u8s a.b) ∧ b < Bd ∧ Hid (a.v < 18446744073709551616) ∧ a.n ≤ 9223372036854775807

/-- The list of acts lies behind the slice value lv. -/
def ActsAt (w : World) (Bd : Nat) (lv : Value) (acts : List Act1) : Prop :=
  ∃ ao cap, lv = .slice ao acts.length cap ∧ acts.length ≤ cap ∧ cap ≤ 9223372036854775807 ∧
    ∀ i a, acts[i]? = some a → ∃ b o, ao = some ⟨b, o, none⟩ ∧ ActAt w Bd b (o + i * 5) a

theorem ActAt.below {w w' : World} {Bd b o : Nat} {a : Act1} (h : ActAt w Bd b o a) (hb : Below Bd w w') : ActAt w' Bd b o a := by
  obtain ⟨h0, h1, h2, h3, bv, h4, hr, hlt, hu, hn⟩ := h
  exact ⟨(hb.cell (p := ⟨b, _, none⟩) hlt).trans h0, (hb.cell (p := ⟨b, _, none⟩) hlt).trans h1, (hb.cell (p := ⟨b, _, none⟩) hlt).trans h2, (hb.cell (p := ⟨b, _, none⟩) hlt).trans h3, bv, (hb.cell (p := ⟨b, _, none⟩) hlt).trans h4, hr.below hb, hlt, hu, hn⟩
theorem ActsAt.below {w w' : World} {Bd : Nat} {lv : Value} {acts : List Act1} (h : ActsAt w Bd lv acts) (hb : Below Bd w w') : ActsAt w' Bd lv acts := by
  obtain ⟨ao, cap, h1, h2, h3, h4⟩ := h
  exact ⟨ao, cap, h1, h2, h3, fun i a ha => by
    obtain ⟨b, o, e, hc⟩ := h4 i a ha
    exact ⟨b, o, e, hc.below hb⟩⟩

theorem ActsAt.more {w : World} {Bd B' : Nat} {lv : Value} {acts : List Act1} (h : ActsAt w Bd lv acts) (hB : Bd ≤ B') : ActsAt w B' lv acts := by
  obtain ⟨ao, cap, h1, h2, h3, h4⟩ := h
  exact ⟨ao, cap, h1, h2, h3, fun i a ha => by
    obtain ⟨b, o, e, c0, c1, c2, c3, bv, c4, hr, hlt, hu, hn⟩ := h4 i a ha
    exact ⟨b, o, e, c0, c1, c2, c3, bv, c4, hr.more hB, by omega, hu, hn⟩⟩

theorem cellsAct : Try.prog.cellsOf 41 = 5 := by kernel_rfl
theorem cellsU8 : Try.prog.cellsOf 5 = 1 := by kernel_rfl

set_option maxRecDepth 100000 in
theorem range_i64 {n : Int} (h : (Lit.int .i64 n).wf = true) : n ≤ 9223372036854775807 := by
  have : -9223372036854775808 ≤ n ∧ n ≤ 9223372036854775807 := by simpa [Lit.wf, IntKind.min, IntKind.max, IntKind.signed, IntKind.bits] using h
  exact this.2
set_option maxRecDepth 100000 in
theorem nat_u64 {n : Int} (h : (Lit.int .u64 n).wf = true) : ∃ k : Nat, n = k ∧ k < 18446744073709551616 := by
  have : 0 ≤ n ∧ n ≤ 18446744073709551615 := by simpa [Lit.wf, IntKind.min, IntKind.max, IntKind.signed, IntKind.bits] using h
  exact ⟨n.toNat, by omega, by omega⟩

set_option maxRecDepth 100000 in
/-- An argument of type Script, opened. -/
theorem open_script {H : Type} {enc : TypeId × Value → H} {W : World} {base : Nat} {v : Value} {d : DataW H} {p : List MemPlace} (hv : Value.okWide Try.prog W .any base 33 v)
    (h0 : DataW.Trod enc Try.prog W 0 (fun _ => true) true 33 v d p) :
    ∃ (N : Int) (lv : Value) (acts : List Act1), v = .agg #[.int .i64 N, lv] ∧ N ≤ 9223372036854775807 ∧ ActsAt W W.heap.size lv acts := by
  obtain ⟨v0, v1, y0, y1, n, rfl, _, _, t0, t1⟩ := Joins.open_agg2 Try.underlying33 (by kernel_rfl) (by kernel_rfl) hv h0
  obtain ⟨N, e0, _, w0⟩ := DataW.trod_int Try.underlying3 t0
  injection e0 with e0
  subst e0
  rcases open_rows Try.underlying31 Try.underlying41 (by kernel_rfl) cellsAct (by decide) t1 with h | ⟨a, len, cap, hcs, hl, hm, hrow⟩
  · injection h with h
    subst h
    exact ⟨N, _, [], rfl, range_i64 w0, none, 0, rfl, by simp, by omega, fun i a ha => by simp at ha⟩
  · injection hcs with hcs
    subst hcs
    have hex : ∀ i, i < len → ∃ act : Act1, a.spot = none ∧ ActAt W W.heap.size a.block (a.off + i * 5) act := by
      intro i hi
      obtain ⟨hs, vs, m, hvl, hcell, hf⟩ := hrow i hi
      obtain ⟨x0, z0, g0, r0⟩ := hf 0 _ rfl
      obtain ⟨x1, z1, g1, r1⟩ := hf 1 _ rfl
      obtain ⟨x2, z2, g2, r2⟩ := hf 2 _ rfl
      obtain ⟨x3, z3, g3, r3⟩ := hf 3 _ rfl
      obtain ⟨x4, z4, g4, r4⟩ := hf 4 _ rfl
      obtain ⟨q0, e0, _, w0⟩ := DataW.trod_int Try.underlying3 r0
      obtain ⟨q1, e1, _, w1⟩ := DataW.trod_int Try.underlying3 r1
      obtain ⟨q2, e2, _, w2⟩ := DataW.trod_int Try.underlying3 r2
      obtain ⟨q3, e3, _, w3⟩ := DataW.trod_int Try.underlying38 r3
      obtain ⟨L, hL⟩ := open_bytes Try.underlying39 Try.underlying5 cellsU8 r4
      injection e0 with e0
      injection e1 with e1
      injection e2 with e2
      injection e3 with e3
      subst e0 e1 e2 e3
      obtain ⟨k3, rfl, hk3⟩ := nat_u64 w3
      have c0 := (hcell 0 (by decide)).trans g0
      have c1 := (hcell 1 (by decide)).trans g1
      have c2 := (hcell 2 (by decide)).trans g2
      have c3 := (hcell 3 (by decide)).trans g3
      have c4 := (hcell 4 (by decide)).trans g4
      have hlt := World.block_lt_of_cell? W _ c0
      exact ⟨⟨q0, q1, q2, k3, L⟩, hs, c0, c1, c2, c3, x4, c4, hL, hlt, Lib.hid hk3, range_i64 w2⟩
    obtain ⟨acts, hal, hact⟩ := list_of_all len hex
    refine ⟨N, _, acts, rfl, range_i64 w0, some a, cap, by rw [hal], by omega, by unfold maxLen at hm; omega, fun i act ha => ?_⟩
    obtain ⟨hs, hA⟩ := hact i act ha
    obtain ⟨b, o, s⟩ := a
    simp only at hs
    subst hs
    exact ⟨b, o, rfl, hA⟩

/-- No act is too heavy. -/
def Light (acts : List Act1) : Prop := acts.length ≤ 200 ∧ ∀ (i : Nat) (a : Act1), acts[i]? = some a → a.b.length ≤ 500
def HeavyPost (w : World) (acts : List Act1) (e : Ending) (w' : World) : Prop := ∃ b, e = .returned (.bool b) ∧ (b = false → Light acts) ∧ Below w.heap.size w w'

set_option maxHeartbeats 1000000 in
theorem Heavy_any (w : World) (N : Int) (lv : Value) (acts : List Act1) (h : ActsAt w w.heap.size lv acts) :
    Calls Try.prog 18 #[.agg #[.int .i64 N, lv]] w (HeavyPost w acts) := by
  obtain ⟨ao, cap, rfl, hc1, hc2, hacts⟩ := h
  have HA := Lib.hid hacts
  clear hacts
  by_cases hl : 200 < acts.length
  · go_enter Try.func18, Try.ntmps18
    go_wp2
    go_ret
    exact ⟨true, rfl, (fun h => by cases h), (Below.refl _ _).alloc (Nat.le_refl _) _⟩
  · have hl : acts.length ≤ 200 := by omega
    go_enter Try.func18, Try.ntmps18
    go_wp2
    go_loopw [3] (fun i wr => ∃ k : Nat, k ≤ acts.length ∧ i = .int .i64 k ∧ Hid (∀ (i : Nat) (a : Act1), acts[i]? = some a → i < k → a.b.length ≤ 500) ∧ ∃ nd, wr = (w.alloc (.cells #[.int .i64 N, .slice ao acts.length cap] 33)).drewN nd) (fun i _ => acts.length - (intOf i).toNat)
    case atStart => exact ⟨0, by omega, rfl, Lib.hid (fun i a _ h => by omega), 0, rfl⟩
    case round =>
      obtain ⟨k, hk, rfl, hpre, nd, rfl⟩ := hrel
      by_cases hlt : k < acts.length
      · obtain ⟨a, ha⟩ : ∃ a, acts[k]? = some a := ⟨_, List.getElem?_eq_getElem hlt⟩
        obtain ⟨b, o, rfl, hA⟩ := HA.out k a ha
        obtain ⟨c0, c1, c2, c3, bv, c4, hr, hbl, _, hn⟩ := hA.below ((Below.refl w.heap.size w).alloc (Nat.le_refl _) (.cells #[.int .i64 N, .slice (some ⟨b, o, none⟩) acts.length cap] 33))
        obtain ⟨bo, bc, rfl, hbc1, hbc2⟩ := hr.form
        have hbc3 : bc ≤ 9223372036854775807 := by unfold maxLen at hbc2; omega
        have Ha := Lib.hid ha
        clear ha hr hA hbc2 c1 c3
        by_cases h5 : 500 < a.b.length
        · go_wp2
          go_ret
          exact ⟨true, rfl, (fun h => by cases h), below_drewN ((Below.refl _ _).alloc (Nat.le_refl _) _) _⟩
        · have h5 : a.b.length ≤ 500 := by omega
          have hnext : Hid (∀ (i : Nat) (a : Act1), acts[i]? = some a → i < k + 1 → a.b.length ≤ 500) := Lib.hid (fun i a' hi hlt => by
            by_cases e : i = k
            · subst e
              have := Ha.out.symm.trans hi
              injection this with this
              subst this
              exact h5
            · exact hpre.out i a' hi (by omega))
          by_cases h6 : 65536 < a.n
          · by_cases h7 : a.dk = 6
            · have h7' : (a.dk == 6) = true := by simpa using h7
              clear h7
              go_wp2
              go_ret
              exact ⟨true, rfl, (fun h => by cases h), below_drewN ((Below.refl _ _).alloc (Nat.le_refl _) _) _⟩
            · have h7' : (a.dk == 6) = false := by simpa using h7
              clear h7
              go_wp2
              go_roundw
              case rel => exact ⟨k + 1, by omega, by go_num, hnext, nd, rfl⟩
              case measure => simp [intOf]; omega
          · have h6 : a.n ≤ 65536 := by omega
            go_wp2
            go_roundw
            case rel => exact ⟨k + 1, by omega, by go_num, hnext, nd, rfl⟩
            case measure => simp [intOf]; omega
      · go_wp2
        go_ret
        refine ⟨false, rfl, (fun _ => ⟨hl, fun i a hi => hpre.out i a hi ?_⟩), below_drewN ((Below.refl _ _).alloc (Nat.le_refl _) _) _⟩
        have := (List.getElem?_eq_some_iff.1 hi).1
        omega

theorem num_any (n : Int) (w : World) : Calls Try.prog 20 #[.int .i64 n] w fun e w' => e = .returned (.int .i64 n) ∧ w = w' := by
  go_enter Try.func20, Try.ntmps20
  go_wp2
  go_ret
  exact ⟨rfl, rfl⟩

theorem num_q (n : Int) (w : World) : Calls Try.prog 20 #[.int .i64 n] w fun e w' => e = .returned (.int .i64 n) ∧ w' = w :=
  (num_any n w).mono fun _ _ ⟨he, hw⟩ => ⟨he, hw.symm⟩

def wakeB : List UInt8 := putV (List.replicate 4 0) 0 2 4660
theorem wake1 : askE (List.replicate 4 (0 : UInt8)).length 0 2 = 0 := by decide
theorem wake2 : getV wakeB 0 1 = 52 := by decide
theorem wake3 : askE wakeB.length 0 1 = 0 := by decide
theorem wake4 : wakeB.length = 4 := by decide

set_option maxHeartbeats 400000 in
theorem wakes1_any (w : World) : Calls Try.prog 25 #[] w fun e w' => e = .returned (.bool true) ∧ Below w.heap.size w w' := by
  go_enter Try.func25, Try.ntmps25
  go_wp2_with fail
  refine (New_ok 4 _ (by omega)).mono ?_
  rintro e w1 ⟨rfl, hm, hb⟩
  have HM := Lib.hid hm
  clear hm
  go_wp2_with (go_at_call 20; refine (num_any _ _).mono ?_; rintro e w' ⟨rfl, rfl⟩)
  refine (Put_any _ _ _ _ 0 2 4660 HM.out (by simp)).mono ?_
  rintro e w2 ⟨rfl, hm2, hl2⟩
  have hb2 := hb.trans (hl2.belowB hb.size (by simp))
  have HM2 := Lib.hid (show MemAt 114 w2 _ _ wakeB from hm2)
  clear hm2 hl2
  rw [wake1]
  go_wp2_with fail
  refine (Get_any _ _ _ _ 0 1 HM2.out (by rw [wake4]; omega)).mono ?_
  rintro e w' ⟨rfl, rfl⟩
  rw [wake2, wake3]
  go_wp2_with (first | (go_at_call 20; refine (num_any _ _).mono ?_; rintro e w' ⟨rfl, rfl⟩) | (go_at_call 35; refine (Len_any _ _ _ _ HM2.out).mono ?_; rintro e w' ⟨rfl, rfl⟩; rw [wake4]))
  go_ret
  exact ⟨rfl, hb2⟩
end Go.Proofs.Ytfffehbipcikoaa
